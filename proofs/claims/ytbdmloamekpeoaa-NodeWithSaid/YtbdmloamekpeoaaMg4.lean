/- Parts of nodes. -/
import Derived.Test.YtbdmloamekpeoaaMg3
/- Parts of nodes. -/
namespace Go.Ai
set_option linter.unusedVariables false
set_option linter.unusedSimpArgs false

theorem boundsA_two {len top : Nat} {a b : Nat} {k k' : IntKind} (h1 : a ≤ b) (h2 : b ≤ top) : boundsA len top (some (.v (.int k a))) (some (.v (.int k' b))) none = some (a, b, none) := by
  have e1 : 0 ≤ (b : Int) ∧ (b : Int) ≤ (top : Int) := by omega
  have e2 : 0 ≤ (a : Int) ∧ (a : Int) ≤ (b : Int) := by omega
  simp only [boundsA, idxOf, Option.getD_none, if_pos e1, Int.toNat_natCast, if_pos e2]

theorem slice_in {n : Nat} {x : AV} {es : List (List AV)} {a b : Nat} {k k' : IntKind} (hx : SlA n es x) (h1 : a ≤ b) (h2 : b ≤ es.length) :
    ∃ y, SlA n ((es.take b).drop a) y ∧ sliceA n x (some (.v (.int k a))) (some (.v (.int k' b))) none = some y := by
  obtain ⟨nil, sz, cap, rfl, hz, hn⟩ := hx
  refine ⟨.rs nil sz ((es.take b).drop a) (cap.map (· - a)), ⟨nil, sz, _, rfl, hz, fun h => by simp [hn h]⟩, ?_⟩
  simp only [sliceA, if_pos hz, boundsA_two h1 h2, capCut]

theorem mapO_some {α : Type} {f : α → Option α} : ∀ {l : List α}, (∀ x ∈ l, f x = some x) → mapO f l = some l
  | [], _ => rfl
  | x :: r, h => by simp [h x (by simp), mapO_some fun y hy => h y (List.mem_cons_of_mem _ hy)]
theorem closedL_mem : ∀ {l : List AV}, closedL l = true → ∀ x ∈ l, x.closed = true
  | [], _, x, h => by simp at h
  | y :: r, h, x, hx => by
    simp at h hx
    rcases hx with rfl | hx
    · exact h.1
    · exact closedL_mem h.2 x hx
theorem closedLL_mem : ∀ {l : List (List AV)}, closedLL l = true → ∀ x ∈ l, closedL x = true
  | [], _, x, h => by simp at h
  | y :: r, h, x, hx => by
    simp at h hx
    rcases hx with rfl | hx
    · exact h.1
    · exact closedLL_mem h.2 x hx
/-- An owned slice, handed out. -/
theorem frz_sl {k : Nat} {hp : Heap} {r sz i len cap} {es : Blk} (h : hp r = some es) (hl : i + len ≤ es.length) (hc : closedLL ((es.drop i).take len) = true) : frz (k + 2) hp (.sl r sz i len cap) = some (.rs false sz ((es.drop i).take len) cap) := by
  have : mapO (mapO (frz (k + 1) hp)) ((es.drop i).take len) = some ((es.drop i).take len) := mapO_some fun x hx => mapO_some fun y hy => frz_closed (closedL_mem (closedLL_mem hc x hx) y hy)
  rw [frz]
  simp only [closed_sl, h, if_pos hl, this]
  rfl

/-- A slice of its own, made of another. -/
theorem clone_app {n bytes : Nat} {x : AV} {es : List (List AV)} (hx : SlA n es x) (hb : es.length * bytes ≤ 140737488355328) (ho : es.all (fun l => l.all AV.one) = true) (hc : closedLL es = true) :
    ∃ v hp' nx' y, appendA n bytes (.rs false n [] (some 0)) x hnil 0 = some (v, hp', nx') ∧ SlA n es y ∧ frz 6 hp' v = some y := by
  obtain ⟨nil, sz, cap, rfl, hz, hn⟩ := hx
  rw [appendA_rs hz, if_pos ho]
  by_cases he : es = []
  · subst he
    exact ⟨.rs false n [] (some 0), hnil, 0, .rs false n [] (some 0), by simp [appA], ⟨false, n, _, rfl, .inr rfl, fun _ => rfl⟩, frz_closed (by simp)⟩
  · have hl : es.length ≠ 0 := by simpa using he
    have hpos : 0 < es.length := by omega
    refine ⟨.sl 0 n 0 es.length none, hupd hnil 0 (some es), 1, .rs false n es none, ?_, ⟨false, n, _, rfl, .inr rfl, fun h => by cases h⟩, ?_⟩
    · simp [appA, he, hpos, hb]
    · rw [frz_sl (es := es) (by simp) (by omega) (by simpa using hc)]
      simp

theorem one_keys (l : List (List UInt8)) : (l.map keyC).all (fun l => l.all AV.one) = true := by simp [keyC]
theorem one_items (l : List Itm) : (l.map Itm.cells).all (fun l => l.all AV.one) = true := by simp [Itm.cells]
theorem one_kids (l : List Int) : (l.map kidC).all (fun l => l.all AV.one) = true := by simp [kidC]

theorem f43 (ks : List (List UInt8)) (x : AV) (hx : SlA 1 (ks.map keyC) x) (hl : ks.length ≤ 1000000) : ∃ y, SlA 1 (ks.map keyC) y ∧ ∀ hp nx, Ret E 43 [x] hp nx y hp nx .p := by
  obtain ⟨v, hp', nx', y, h1, h2, h3⟩ := clone_app (bytes := 16) hx (by simp; omega) (one_keys ks) closed_keys
  obtain ⟨nil, sz, cap, rfl, hz, hn⟩ := hx
  cases nil
  · refine ⟨y, h2, fun hp nx => Ret_pureQ e43 rfl (by simp) ?_ hp nx⟩
    simp [c43, h1, h3, -appendA_rs]
  · have := hn rfl
    refine ⟨.rs true 0 [] (some 0), ⟨true, _, _, by rw [this], .inl rfl, fun _ => this⟩, fun hp nx => Ret_pureQ e43 rfl (by simp) ?_ hp nx⟩
    simp [c43, frz_closed]
theorem f61 (ks : List Itm) (x : AV) (hx : SlA 3 (ks.map Itm.cells) x) (hl : ks.length ≤ 1000000) : ∃ y, SlA 3 (ks.map Itm.cells) y ∧ ∀ hp nx, Ret E 61 [x] hp nx y hp nx .p := by
  obtain ⟨v, hp', nx', y, h1, h2, h3⟩ := clone_app (bytes := 32) hx (by simp; omega) (one_items ks) closed_items
  obtain ⟨nil, sz, cap, rfl, hz, hn⟩ := hx
  cases nil
  · refine ⟨y, h2, fun hp nx => Ret_pureQ e61 rfl (by simp) ?_ hp nx⟩
    simp [c61, h1, h3, -appendA_rs]
  · have := hn rfl
    refine ⟨.rs true 0 [] (some 0), ⟨true, _, _, by rw [this], .inl rfl, fun _ => this⟩, fun hp nx => Ret_pureQ e61 rfl (by simp) ?_ hp nx⟩
    simp [c61, frz_closed]
theorem f62 (ks : List Int) (x : AV) (hx : SlA 1 (ks.map kidC) x) (hl : ks.length ≤ 1000000) : ∃ y, SlA 1 (ks.map kidC) y ∧ ∀ hp nx, Ret E 62 [x] hp nx y hp nx .p := by
  obtain ⟨v, hp', nx', y, h1, h2, h3⟩ := clone_app (bytes := 8) hx (by simp; omega) (one_kids ks) closed_kids
  obtain ⟨nil, sz, cap, rfl, hz, hn⟩ := hx
  cases nil
  · refine ⟨y, h2, fun hp nx => Ret_pureQ e62 rfl (by simp) ?_ hp nx⟩
    simp [c62, h1, h3, -appendA_rs]
  · have := hn rfl
    refine ⟨.rs true 0 [] (some 0), ⟨true, _, _, by rw [this], .inl rfl, fun _ => this⟩, fun hp nx => Ret_pureQ e62 rfl (by simp) ?_ hp nx⟩
    simp [c62, frz_closed]

@[simp] theorem closed_keys' {l : List (List UInt8)} {a b : Nat} : closedLL (((l.map keyC).take b).drop a) = true := by rw [← List.map_take, ← List.map_drop]; exact closed_keys
@[simp] theorem closed_items' {l : List Itm} {a b : Nat} : closedLL (((l.map Itm.cells).take b).drop a) = true := by rw [← List.map_take, ← List.map_drop]; exact closed_items
@[simp] theorem closed_kids' {l : List Int} {a b : Nat} : closedLL (((l.map kidC).take b).drop a) = true := by rw [← List.map_take, ← List.map_drop]; exact closed_kids
def partS (n : Nd) (a b : Nat) : Nd := ⟨n.leaf, (n.keys.take b).drop a, if n.leaf then (n.items.take b).drop a else [], if n.leaf then [] else (n.kids.take (b + 1)).drop a⟩

theorem SlA.shape {n es x} (h : SlA n es x) : ∃ nil sz cap, x = .rs nil sz es cap := by obtain ⟨a, b, c, h, _⟩ := h; exact ⟨a, b, c, h⟩
theorem SlA.nil0 {n : Nat} : SlA n [] (.rs true 0 [] (some 0)) := ⟨true, 0, _, rfl, .inl rfl, fun _ => rfl⟩

theorem f42 (n : Nd) (x : AV) (hx : NdA n x) (a b : Nat) (h1 : a ≤ b) (h2 : b ≤ n.keys.length) (h3 : n.leaf = true → b ≤ n.items.length) (h4 : n.leaf = false → b + 1 ≤ n.kids.length) (h5 : b ≤ 100000) :
    ∃ y, NdA (partS n a b) y ∧ ∀ hp nx, Ret E 42 [x, .v (.int .i64 a), .v (.int .i64 b)] hp nx y hp nx .p := by
  obtain ⟨leaf, keys, items, kids⟩ := n
  obtain ⟨kA, iA, dA, rfl, hk, hi, hd⟩ := hx
  simp only at hk hi hd h2 h3 h4
  obtain ⟨k1, k2, k3⟩ := slice_in (k := .i64) (k' := .i64) hk h1 (by simpa using h2)
  rw [← List.map_take, ← List.map_drop] at k2
  obtain ⟨k4, k5, k6⟩ := f43 _ _ k2 (by simp; omega)
  obtain ⟨kn, ksz, kc, rfl⟩ := hk.shape
  obtain ⟨in', isz, ic, rfl⟩ := hi.shape
  obtain ⟨dn, dsz, dc, rfl⟩ := hd.shape
  obtain ⟨yn, ysz, yc, rfl⟩ := k5.shape
  have hw : IntKind.wrap .i64 ((b : Int) + 1) = (b + 1 : Nat) := by rw [wrap_id] <;> omega
  cases leaf
  · obtain ⟨d1, d2, d3⟩ := slice_in (k := .i64) (k' := .i64) (a := a) (b := b + 1) hd (by omega) (by simpa using h4 rfl)
    rw [← List.map_take, ← List.map_drop] at d2
    obtain ⟨d4, d5, d6⟩ := f62 _ _ d2 (by simp; omega)
    obtain ⟨zn, zsz, zc, rfl⟩ := d5.shape
    refine ⟨.agg [.v (.bool false), _, .rs true 0 [] (some 0), _], ⟨_, _, _, rfl, k5, .nil0, d5⟩, fun hp nx => Ret_pureQ e42 rfl (by simp) ?_ hp nx⟩
    simp [c42, k3]
    refine WCall_p (k6 _ _) ?_
    simp [hw, d3, spliceL, -Int.natCast_add]
    refine WCall_p (d6 _ _) ?_
    simp [spliceL, frz_closed]
  · obtain ⟨d1, d2, d3⟩ := slice_in (k := .i64) (k' := .i64) (a := a) (b := b) hi (by omega) (by simpa using h3 rfl)
    rw [← List.map_take, ← List.map_drop] at d2
    obtain ⟨d4, d5, d6⟩ := f61 _ _ d2 (by simp; omega)
    obtain ⟨zn, zsz, zc, rfl⟩ := d5.shape
    refine ⟨.agg [.v (.bool true), _, _, .rs true 0 [] (some 0)], ⟨_, _, _, rfl, k5, d5, .nil0⟩, fun hp nx => Ret_pureQ e42 rfl (by simp) ?_ hp nx⟩
    simp [c42, k3]
    refine WCall_p (k6 _ _) ?_
    simp [hw, d3, spliceL, -Int.natCast_add]
    refine WCall_p (d6 _ _) ?_
    simp [spliceL, frz_closed]
end Go.Ai

/- Split. -/
namespace Go.Ai
set_option linter.unusedVariables false
set_option linter.unusedSimpArgs false

def upS (n : Nd) : Nat := if n.leaf then 1 else 2
def nd0 : Nd := ⟨false, [], [], []⟩
theorem NdA.zero : NdA nd0 (.agg [.v (.bool false), .rs true 0 [] (some 0), .rs true 0 [] (some 0), .rs true 0 [] (some 0)]) := ⟨_, _, _, rfl, .nil0, .nil0, .nil0⟩

theorem f21_bad (n : Nd) (x : AV) (hx : NdA n x) (h1 : n.keys.length ≤ 60000) (h2 : n.items.length ≤ 60000) (h3 : n.kids.length ≤ 60001) (h : rightS n = false ∨ n.keys.length ≤ upS n) :
    ∃ ya yb, NdA nd0 ya ∧ NdA nd0 yb ∧ ∀ hp nx, Ret E 21 [x] hp nx (.tup [ya, .str [], yb, .int .i64 2]) hp nx .p := by
  have c12' := f12 n _ hx (by omega) (by omega) (by omega)
  obtain ⟨leaf, keys, items, kids⟩ := n
  obtain ⟨kA, iA, dA, rfl, hk, hi, hd⟩ := hx
  obtain ⟨kn, ksz, kc, rfl⟩ := hk.shape
  obtain ⟨in', isz, ic, rfl⟩ := hi.shape
  obtain ⟨dn, dsz, dc, rfl⟩ := hd.shape
  refine ⟨_, _, NdA.zero, NdA.zero, fun hp nx => Ret_pureQ e21 rfl (by simp) ?_ hp nx⟩
  cases leaf
  · simp [c21, c21_rrr]
    refine WCall_p (c12' _ _) ?_
    rcases h with h | h
    · simp [h, spliceL, frz_closed]
    · cases hr : rightS ⟨false, keys, items, kids⟩
      · simp [spliceL, frz_closed]
      · have hl : (keys.length : Int) ≤ 2 := by simp [upS] at h; omega
        simp [spliceL, frz_closed, hl]
  · simp [c21, c21_rrr]
    refine WCall_p (c12' _ _) ?_
    rcases h with h | h
    · simp [h, spliceL, frz_closed]
    · cases hr : rightS ⟨true, keys, items, kids⟩
      · simp [spliceL, frz_closed]
      · have hl : (keys.length : Int) ≤ 1 := by simp [upS] at h; omega
        simp [spliceL, frz_closed, hl]

/-- Where a node is cut. -/
structure CutAt (n : Nd) (i : Nat) : Prop where
  pos : 1 ≤ i
  le : i + upS n ≤ n.keys.length
  low : ∀ j, 1 ≤ j → j < i → 2 * ((headB n).length + sumW n j) < sizeS n
  top : i + upS n = n.keys.length ∨ sizeS n ≤ 2 * ((headB n).length + sumW n i)

set_option maxHeartbeats 400000 in
theorem f21 (n : Nd) (x : AV) (hx : NdA n x) (h1 : n.keys.length ≤ 60000) (h2 : n.items.length ≤ 60000) (h3 : n.kids.length ≤ 60001) (hr : rightS n = true) (hup : upS n < n.keys.length) :
    ∃ (i : Nat) (ya yb : AV) (hi : i < n.keys.length), CutAt n i ∧ NdA (partS n 0 i) ya ∧ NdA (partS n (i + upS n - 1) n.keys.length) yb ∧ ∀ hp nx, Ret E 21 [x] hp nx (.tup [ya, .str n.keys[i], yb, .int .i64 0]) hp nx .p := by
  have c12' := f12 n _ hx (by omega) (by omega) (by omega)
  have c14' := f14 n _ hx (by omega) (by omega) (by omega)
  have c35' := f35 n _ hx
  have hf := RightF.of hr
  have c36' := fun i hi => f36 n _ hx hf i hi
  have c42' := f42 n _ hx
  have hup1 : 1 ≤ upS n ∧ upS n ≤ 2 := by simp only [upS]; split <;> omega
  have hhl : (headB n).length ≤ 6 := by rw [headB_length]; split <;> omega
  have hszle : sizeS n ≤ 6 + 122 * 60000 := by simp only [sizeS, hr, if_true, contentS_length]; have := sumW_le hf n.keys.length (Nat.le_refl _); omega
  -- the place
  obtain ⟨i, hi⟩ : ∃ i, CutAt n i := by
    have : ∀ d i, n.keys.length - upS n - i = d → 1 ≤ i → i + upS n ≤ n.keys.length → (∀ j, 1 ≤ j → j < i → 2 * ((headB n).length + sumW n j) < sizeS n) → ∃ i, CutAt n i := by
      intro d
      induction d with
      | zero => intro i h1 h2 h3 h4; exact ⟨i, h2, h3, h4, .inl (by omega)⟩
      | succ d ih =>
        intro i h1 h2 h3 h4
        by_cases h : sizeS n ≤ 2 * ((headB n).length + sumW n i)
        · exact ⟨i, h2, h3, h4, .inr h⟩
        · refine ih (i + 1) (by omega) (by omega) (by omega) (fun j g1 g2 => ?_)
          rcases Nat.lt_or_ge j i with g | g
          · exact h4 j g1 g
          · have : j = i := by omega
            subst this; omega
    exact this _ 1 rfl (by omega) (by omega) (fun j h1 h2 => by omega)
  have hlt : i < n.keys.length := by have := hi.le; omega
  have hik : n.leaf = true → n.items.length = n.keys.length := fun h => (hf.leaf h).1
  have hkk : n.leaf = false → n.kids.length = n.keys.length + 1 := fun h => (hf.inner h).2.1
  obtain ⟨ya, ha1, ha2⟩ := c42' 0 i (by omega) (by omega) (fun h => by rw [hik h]; omega) (fun h => by rw [hkk h]; omega) (by omega)
  obtain ⟨yb, hb1, hb2⟩ := c42' (i + upS n - 1) n.keys.length (by have := hi.le; omega) (by omega) (fun h => by rw [hik h]; omega) (fun h => by rw [hkk h]; omega) (by omega)
  refine ⟨i, ya, yb, hlt, hi, ha1, hb1, fun hp nx => ?_⟩
  obtain ⟨kA, iA, dA, rfl, hk, hia, hd⟩ := hx
  obtain ⟨kn, ksz, kc, rfl, hkz⟩ := hk
  obtain ⟨in', isz, ic, rfl, hiz⟩ := hia
  obtain ⟨dn, dsz, dc, rfl, hdz⟩ := hd
  obtain ⟨ak, ai, ad, hya, ak', ai', ad'⟩ := ha1
  obtain ⟨bk, bi, bd, hyb, bk', bi', bd'⟩ := hb1
  obtain ⟨_, _, _, rfl⟩ := ak'.shape
  obtain ⟨_, _, _, rfl⟩ := ai'.shape
  obtain ⟨_, _, _, rfl⟩ := ad'.shape
  obtain ⟨_, _, _, rfl⟩ := bk'.shape
  obtain ⟨_, _, _, rfl⟩ := bi'.shape
  obtain ⟨_, _, _, rfl⟩ := bd'.shape
  refine Ret_pureQ e21 rfl (by simp) ?_ hp nx
  have tail : ∀ tm, tm 6 = .int .i64 (upS n) → tm 1 = .ptr 0 0 0 → tm 2 = .ptr 1 0 0 → tm 4 = .ptr 2 0 0 → W (Ret E) c21_rrr (pureQ [.cell 2 (some 4), .t 3, .cell 4 (some 4), .t 5] (.tup [ya, .str n.keys[i], yb, .int .i64 0]))
     ⟨tm, hupd (hupd (hupd hnil 0 (some [[.v (.bool n.leaf), .rs kn ksz (n.keys.map keyC) kc, .rs in' isz (n.items.map Itm.cells) ic, .rs dn dsz (n.kids.map kidC) dc]])) 1 (some [[.v (.bool false), .rs true 0 [] (some 0), .rs true 0 [] (some 0), .rs true 0 [] (some 0)]])) 2 (some [[.v (.bool false), .rs true 0 [] (some 0), .rs true 0 [] (some 0), .rs true 0 [] (some 0)]]), 3⟩ := by
    intro tm t6 t1 t2 t4
    have hnle : ¬ (n.keys.length : Int) ≤ upS n := by omega
    simp [c21_rrr, t6, t1, t2, t4]
    refine WCall_p (c12' _ _) ?_
    simp [hr, t6, t1, t2, t4, hnle]
    refine WCall_p (c14' _ _) ?_
    simp [t6, t1, t2, t4]
    refine WCall_p (c35' _ _) ?_
    simp [t6, t1, t2, t4]
    refine WCall_p (c36' 0 (by omega) _ _) ?_
    have hw0 : IntKind.wrap .i64 (((headB n).length : Int) + (weightS n 0 : Int)) = ((headB n).length + sumW n 1 : Nat) := by
      have := weightS_le hf (i := 0) (by omega)
      have e : sumW n 1 = weightS n 0 := by simp [sumW]
      rw [wrap_id] <;> omega
    simp [t6, t1, t2, t4, hw0, -Int.natCast_add]
    refine W_loopI (I := fun (j : Nat) s => 1 ≤ j ∧ j ≤ i ∧ s.tm 8 = .int .i64 j ∧ s.tm 9 = .int .i64 ((headB n).length + sumW n j : Nat) ∧ s.tm 7 = .int .i64 (sizeS n) ∧ s.tm 6 = .int .i64 (upS n) ∧ s.tm 1 = .ptr 0 0 0 ∧ s.tm 2 = .ptr 1 0 0 ∧ s.tm 4 = .ptr 2 0 0 ∧
      s.hp = hupd (hupd (hupd hnil 0 (some [[.v (.bool n.leaf), .rs kn ksz (n.keys.map keyC) kc, .rs in' isz (n.items.map Itm.cells) ic, .rs dn dsz (n.kids.map kidC) dc]])) 1 (some [[.v (.bool false), .rs true 0 [] (some 0), .rs true 0 [] (some 0), .rs true 0 [] (some 0)]])) 2 (some [[.v (.bool false), .rs true 0 [] (some 0), .rs true 0 [] (some 0), .rs true 0 [] (some 0)]]) ∧ s.nx = 3)
      (fun j => i - j) 1 (by simp [t6, t1, t2, t4]; exact hi.pos) ?_
    rintro j tm hp nx ⟨hj1, hj2, t8, t9, t7, t6, t1, t2, t4, rfl, rfl⟩
    simp only at t8 t9 t7 t6 t1 t2 t4
    have hs := sumW_le hf j (by omega)
    have hw2 : IntKind.wrap .i64 (2 * (((headB n).length + sumW n j : Nat) : Int)) = (2 * ((headB n).length + sumW n j) : Nat) := by rw [wrap_id] <;> omega
    have hw3 : IntKind.wrap .i64 ((n.keys.length : Int) - (upS n : Int)) = (n.keys.length - upS n : Nat) := by rw [wrap_id] <;> omega
    by_cases hlt2 : j < i
    · have g1 : (((2 * ((headB n).length + sumW n j) : Nat) : Int)) < (sizeS n : Int) := by have := hi.low j hj1 hlt2; omega
      have g2 : (j : Int) < ((n.keys.length - upS n : Nat) : Int) := by have := hi.le; omega
      have hjl : j < n.keys.length := by omega
      have hw4 : IntKind.wrap .i64 ((((headB n).length + sumW n j : Nat) : Int) + (weightS n j : Int)) = ((headB n).length + sumW n (j + 1) : Nat) := by
        have := weightS_le hf hjl
        have e : sumW n (j + 1) = sumW n j + weightS n j := rfl
        rw [wrap_id] <;> omega
      have hw5 : IntKind.wrap .i64 ((j : Int) + 1) = (j + 1 : Nat) := by rw [wrap_id] <;> omega
      simp [t8, t9, t7, t6, t1, t2, t4, hw2, g1, hw3, g2, -Int.natCast_add, -Int.natCast_mul, -Int.ofNat_lt]
      refine WCall_p (c36' j hjl _ _) ?_
      simp [t8, t9, t7, t6, t1, t2, t4, hw4, hw5, -Int.natCast_add, -Int.natCast_mul]
      exact ⟨j + 1, by omega, by omega, by omega, rfl, rfl⟩
    · have hji : j = i := by omega
      subst hji
      have hge : j + upS n = n.keys.length ∨ sizeS n ≤ 2 * ((headB n).length + sumW n j) := hi.top
      have hget : n.keys[j]? = some n.keys[j] := List.getElem?_eq_getElem hlt
      have hia : iaddrA 1 (.rs kn ksz (n.keys.map keyC) kc) (.v (.int .i64 j)) = some (.rp (keyC n.keys[j])) := iaddr_in hkz (by simp [hget]) rfl
      have hw6 : IntKind.wrap .i64 ((j : Int) + (upS n : Int)) = (j + upS n : Nat) := by rw [wrap_id] <;> omega
      have hw7 : IntKind.wrap .i64 (((j + upS n : Nat) : Int) - 1) = (j + upS n - 1 : Nat) := by rw [wrap_id] <;> omega
      have fin : ∀ tm, tm 8 = .int .i64 j → tm 6 = .int .i64 (upS n) → tm 1 = .ptr 0 0 0 → tm 2 = .ptr 1 0 0 → tm 4 = .ptr 2 0 0 → W (Ret E) c21_rrrrrrr (pureQ [.cell 2 (some 4), .t 3, .cell 4 (some 4), .t 5] (.tup [ya, .str n.keys[j], yb, .int .i64 0]))
          ⟨tm, hupd (hupd (hupd hnil 0 (some [[.v (.bool n.leaf), .rs kn ksz (n.keys.map keyC) kc, .rs in' isz (n.items.map Itm.cells) ic, .rs dn dsz (n.kids.map kidC) dc]])) 1 (some [[.v (.bool false), .rs true 0 [] (some 0), .rs true 0 [] (some 0), .rs true 0 [] (some 0)]])) 2 (some [[.v (.bool false), .rs true 0 [] (some 0), .rs true 0 [] (some 0), .rs true 0 [] (some 0)]]), 3⟩ := by
        intro tm t8 t6 t1 t2 t4
        simp [c21_rrrrrrr, t8, t6, t1, t2, t4]
        refine WCall_p (ha2 _ _) ?_
        simp [t8, t6, t1, t2, t4, hia, -iaddrA_rs, keyC, hw6, hw7, -Int.natCast_add]
        refine WCall_p (hb2 _ _) ?_
        simp [t8, t6, t1, t2, t4, hya, hyb, spliceL, frz_closed]
      by_cases q1 : 2 * ((headB n).length + sumW n j) < sizeS n
      · have g1 : (((2 * ((headB n).length + sumW n j) : Nat) : Int)) < (sizeS n : Int) := by omega
        have g2 : ¬ (j : Int) < ((n.keys.length - upS n : Nat) : Int) := by omega
        simp [t8, t9, t7, t6, t1, t2, t4, hw2, g1, hw3, g2, -Int.natCast_add, -Int.natCast_mul, -Int.ofNat_lt]
        exact fin _ (by simp [t8]) (by simp [t6]) (by simp [t1]) (by simp [t2]) (by simp [t4])
      · have g1 : ¬ (((2 * ((headB n).length + sumW n j) : Nat) : Int)) < (sizeS n : Int) := by omega
        simp [t8, t9, t7, t6, t1, t2, t4, hw2, g1, hw3, -Int.natCast_add, -Int.natCast_mul, -Int.ofNat_lt]
        exact fin _ (by simp [t8]) (by simp [t6]) (by simp [t1]) (by simp [t2]) (by simp [t4])
  cases hlf : n.leaf
  · have hu : upS n = 2 := by simp [upS, hlf]
    rw [hlf] at tail
    simp [c21]
    exact tail _ (by simp [hu]) (by simp) (by simp) (by simp)
  · have hu : upS n = 1 := by simp [upS, hlf]
    rw [hlf] at tail
    simp [c21]
    exact tail _ (by simp [hu]) (by simp) (by simp) (by simp)
end Go.Ai

/- The law's guard, and the chapter's examples. -/
namespace Go.Ai
set_option linter.unusedVariables false
set_option linter.unusedSimpArgs false

def smallN (n : Nd) : Prop := n.keys.length ≤ 200 ∧ n.items.length ≤ 200 ∧ n.kids.length ≤ 200

def fewP (n : Nd) (v : AV) : Prop := ∃ b, v = .v (.bool b) ∧ (b = true → smallN n)

theorem f10 (n : Nd) (x : AV) (hx : NdA n x) : ∃ b, (b = true → smallN n) ∧ ∀ hp nx, Ret E 10 [x] hp nx (.v (.bool b)) hp nx .p := by
  obtain ⟨leaf, keys, items, kids⟩ := n
  obtain ⟨kA, iA, dA, rfl, hk, hi, hd⟩ := hx
  obtain ⟨kn, ksz, kc, rfl, hkz⟩ := hk
  obtain ⟨in', isz, ic, rfl, hiz⟩ := hi
  obtain ⟨dn, dsz, dc, rfl, hdz⟩ := hd
  simp only at hkz hiz hdz
  let ND := [AV.v (Value.bool leaf), AV.rs kn ksz (keys.map keyC) kc, AV.rs in' isz (items.map Itm.cells) ic, AV.rs dn dsz (kids.map kidC) dc]
  have main : W (Ret E) c10.body (pureEQ [.t 2] (fewP ⟨leaf, keys, items, kids⟩)) (init [.agg ND] hnil 0) := by
    simp [c10, ND]
    refine W_loopI (I := fun (g : Nat × Nat) s => g.1 ≤ 201 ∧ g.2 ≤ 1000 * g.1 ∧ s.tm 4 = .int .i64 g.1 ∧ s.tm 3 = .int .i64 g.2 ∧ s.tm 1 = .ptr 0 0 0 ∧ s.hp = hupd hnil 0 (some [ND]) ∧ s.nx = 1)
      (fun g => 201 - g.1) (0, 0) (by simp [ND]) ?_
    rintro ⟨j, a⟩ tm hp nx ⟨hj, ha, t4, t3, t1, rfl, rfl⟩
    simp only at t4 t3 t1 hj ha
    have second : ∀ tm, tm 3 = .int .i64 a → tm 1 = .ptr 0 0 0 → W (Ret E) c10_rrr (pureEQ [.t 2] (fewP ⟨leaf, keys, items, kids⟩)) ⟨tm, hupd hnil 0 (some [ND]), 1⟩ := by
      intro tm t3 t1
      simp [c10_rrr, ND]
      refine W_loopI (I := fun (g : Nat × Nat) s => g.1 ≤ 201 ∧ g.2 ≤ a + 1000 * g.1 ∧ s.tm 5 = .int .i64 g.1 ∧ s.tm 3 = .int .i64 g.2 ∧ s.tm 1 = .ptr 0 0 0 ∧ s.hp = hupd hnil 0 (some [ND]) ∧ s.nx = 1)
        (fun g => 201 - g.1) (0, a) (by simp [ND, t3, t1]) ?_
      rintro ⟨j, c⟩ tm hp nx ⟨hj, hc, t5, t3, t1, rfl, rfl⟩
      simp only at t5 t3 t1 hj hc
      have third : ∀ tm, tm 3 = .int .i64 c → tm 1 = .ptr 0 0 0 → W (Ret E) c10_rrrr (pureEQ [.t 2] (fewP ⟨leaf, keys, items, kids⟩)) ⟨tm, hupd hnil 0 (some [ND]), 1⟩ := by
        intro tm t3 t1
        by_cases g1 : (keys.length : Int) ≤ 200
        · by_cases g2 : (items.length : Int) ≤ 200
          · by_cases g3 : (kids.length : Int) ≤ 200
            · simp [c10_rrrr, ND, t3, t1, g1, g2, g3]
              exact ⟨_, rfl, fun _ => ⟨by show keys.length ≤ 200; omega, by show items.length ≤ 200; omega, by show kids.length ≤ 200; omega⟩⟩
            · simp [c10_rrrr, ND, t3, t1, g1, g2, g3]
              exact ⟨_, rfl, nofun⟩
          · simp [c10_rrrr, ND, t3, t1, g1, g2]
            exact ⟨_, rfl, nofun⟩
        · simp [c10_rrrr, ND, t3, t1, g1]
          exact ⟨_, rfl, nofun⟩
      by_cases hlt : (j : Int) < (items.length : Int)
      · by_cases hle : (j : Int) ≤ 200
        · have hget : items[j]? = some items[j] := List.getElem?_eq_getElem (by omega)
          have hia : iaddrA 3 (.rs in' isz (items.map Itm.cells) ic) (.v (.int .i64 j)) = some (.rp items[j].cells) := iaddr_in hiz (by simp [hget]) rfl
          have hw5 : IntKind.wrap .i64 ((j : Int) + 1) = (j + 1 : Nat) := by rw [wrap_id] <;> omega
          have hw6 : IntKind.wrap .i64 ((c : Int) + min (items[j].v.length : Int) 1000) = (c + min items[j].v.length 1000 : Nat) := by rw [wrap_id] <;> omega
          simp [ND, t5, t3, t1, hlt, hle, hia, -iaddrA_rs, hw5, hw6, Itm.cells, -Int.natCast_add, -Int.ofNat_lt]
          exact ⟨j + 1, by omega, by omega, c + min items[j].v.length 1000, by omega, rfl, rfl⟩
        · simp [ND, t5, t3, t1, hlt, hle, -Int.ofNat_lt]
          exact third _ (by simp [t3]) (by simp [t1])
      · simp [ND, t5, t3, t1, hlt, -Int.ofNat_lt]
        exact third _ (by simp [t3]) (by simp [t1])
    by_cases hlt : (j : Int) < (keys.length : Int)
    · by_cases hle : (j : Int) ≤ 200
      · have hget : keys[j]? = some keys[j] := List.getElem?_eq_getElem (by omega)
        have hia : iaddrA 1 (.rs kn ksz (keys.map keyC) kc) (.v (.int .i64 j)) = some (.rp (keyC keys[j])) := iaddr_in hkz (by simp [hget]) rfl
        have hw5 : IntKind.wrap .i64 ((j : Int) + 1) = (j + 1 : Nat) := by rw [wrap_id] <;> omega
        have hw6 : IntKind.wrap .i64 ((a : Int) + min (keys[j].length : Int) 1000) = (a + min keys[j].length 1000 : Nat) := by rw [wrap_id] <;> omega
        simp [ND, t4, t3, t1, hlt, hle, hia, -iaddrA_rs, hw5, hw6, keyC, -Int.natCast_add, -Int.ofNat_lt]
        exact ⟨j + 1, by omega, by omega, a + min keys[j].length 1000, by omega, rfl, rfl⟩
      · simp [ND, t4, t3, t1, hlt, hle, -Int.ofNat_lt]
        exact second _ (by simp [t3]) (by simp [t1])
    · simp [ND, t4, t3, t1, hlt, -Int.ofNat_lt]
      exact second _ (by simp [t3]) (by simp [t1])
  obtain ⟨v, ⟨b, rfl, hb⟩, h⟩ := Ret_pureE e10 rfl (by simp [ND]) main
  exact ⟨b, hb, h⟩

theorem f18 (x : Int) (hp nx) : Ret E 18 [.v (.int .i64 x)] hp nx (.v (.int .i64 x)) hp nx .p := by
  refine Ret_pureQ e18 rfl rfl ?_ hp nx
  simp [c18]

def ex1 : Nd := ⟨true, [[97]], [⟨[120], 0, 0⟩], []⟩
def ex2 : Nd := ⟨true, [[97], [98]], [⟨[120], 0, 0⟩, ⟨[121], 0, 0⟩], []⟩
theorem ex1_right : rightS ex1 = true := by decide
theorem ex2_right : rightS ex2 = true := by decide
theorem ex1_enc : encS ex1 = (1, [0, 1, 1, 97, 1, 120], 0) := by decide

theorem f11 (hp nx) : Ret E 11 [] hp nx (.v (.bool true)) hp nx .p := by
  refine Ret_pureQ e11 rfl rfl ?_ hp nx
  have hx1 : NdA ex1 (.agg [.v (.bool true), .rs false 1 [[.str [97]]] (some 1), .rs false 3 [[.str [120], .v (.int .i64 0), .v (.int .i64 0)]] (some 1), .rs true 0 [] (some 0)]) :=
    ⟨_, _, _, rfl, ⟨_, _, _, rfl, .inr rfl, by simp⟩, ⟨_, _, _, rfl, .inr rfl, by simp⟩, ⟨_, _, _, rfl, .inl rfl, fun _ => rfl⟩⟩
  have hx2 : NdA ex2 (.agg [.v (.bool true), .rs false 1 [[.str [97]], [.str [98]]] (some 2), .rs false 3 [[.str [120], .v (.int .i64 0), .v (.int .i64 0)], [.str [121], .v (.int .i64 0), .v (.int .i64 0)]] (some 2), .rs true 0 [] (some 0)]) :=
    ⟨_, _, _, rfl, ⟨_, _, _, rfl, .inr rfl, by simp⟩, ⟨_, _, _, rfl, .inr rfl, by simp⟩, ⟨_, _, _, rfl, .inl rfl, fun _ => rfl⟩⟩
  have e1 := f16 ex1 _ hx1 (by decide) (by decide) (by decide)
  obtain ⟨i, ya, yb, hi, hc, ha, hb, e2⟩ := f21 ex2 _ hx2 (by decide) (by decide) (by decide) ex2_right (by decide)
  have hi1 : i = 1 := by
    have h1 := hc.pos; have h2 := hc.le
    have : upS ex2 = 1 := rfl
    have : ex2.keys.length = 2 := rfl
    omega
  subst hi1
  rw [ex1_enc] at e1
  obtain ⟨ak, ai, ad, rfl, ak', ai', ad'⟩ := ha
  obtain ⟨bk, bi, bd, rfl, bk', bi', bd'⟩ := hb
  obtain ⟨an, az, ac, rfl, hz, hnl⟩ := ak'
  obtain ⟨_, _, _, rfl⟩ := ai'.shape
  obtain ⟨_, _, _, rfl⟩ := ad'.shape
  obtain ⟨_, _, _, rfl⟩ := bk'.shape
  obtain ⟨_, _, _, rfl⟩ := bi'.shape
  obtain ⟨_, _, _, rfl⟩ := bd'.shape
  have hk : ex2.keys[1] = [98] := rfl
  have hka : (partS ex2 0 1).keys.map keyC = [[.str [97]]] := rfl
  have hkb : (partS ex2 (1 + upS ex2 - 1) ex2.keys.length).keys.map keyC = [[.str [98]]] := rfl
  rw [hk] at e2
  rw [hka] at e2 hnl
  rw [hkb] at e2
  have hz1 : az = 1 := hz.resolve_left fun h => by have := hnl h; simp at this
  subst hz1
  simp [c11, spliceL]
  refine WCall_p (e1 _ _) ?_
  simp [encA, spliceL]
  refine WCall_p (e2 _ _) ?_
  simp [spliceL]
  refine WCall_p (f18 _ _ _) ?_
  simp
  refine WCall_p (f18 _ _ _) ?_
  have hw : IntKind.wrap .i64 0 = 0 := by decide
  have hs : sliceStr (.str [0, 1, 1, 97, 120]) none (some (.v (.int .i64 3))) = some (.str [0, 1, 1]) := by rfl
  simp [hw, hs]
end Go.Ai

/- Where a key is, or belongs: lists. -/
namespace Go.Ai
set_option linter.unusedVariables false
set_option linter.unusedSimpArgs false

theorem strLt_trans : ∀ {a b c : List UInt8}, strLt a b = true → strLt b c = true → strLt a c = true
  | _, [], _, h, _ => by simp [strLt] at h
  | _, _ :: _, [], _, h => by simp [strLt] at h
  | [], _ :: _, _ :: _, _, _ => by simp [strLt]
  | x :: a, y :: b, z :: c, h1, h2 => by
    simp only [strLt, Bool.or_eq_true, decide_eq_true_eq, Bool.and_eq_true, beq_iff_eq] at h1 h2 ⊢
    rcases h1 with h1 | ⟨rfl, h1⟩
    · rcases h2 with h2 | ⟨rfl, h2⟩
      · exact .inl (UInt8.lt_trans h1 h2)
      · exact .inl h1
    · rcases h2 with h2 | ⟨rfl, h2⟩
      · exact .inl h2
      · exact .inr ⟨rfl, strLt_trans h1 h2⟩
theorem strLt_asymm {a b : List UInt8} (h : strLt a b = true) : strLt b a = false := by
  cases hb : strLt b a with
  | false => rfl
  | true => have := strLt_trans h hb; rw [strLt_irrefl] at this; cases this
theorem strLt_ne {a b : List UInt8} (h : strLt a b = true) : a ≠ b := by
  rintro rfl; rw [strLt_irrefl] at h; cases h
/-- Neither the one nor the other: the same. -/
theorem strLt_anti {a b : List UInt8} (h1 : strLt a b = false) (h2 : strLt b a = false) : a = b := by
  have := strLt_conn a b
  rw [h1, h2] at this
  simpa using this

/-- Keys that rise. -/
def Rise (ks : List (List UInt8)) : Prop := ∀ i j (hj : j < ks.length) (hij : i < j), strLt (ks[i]'(by omega)) ks[j] = true
theorem Rise.of {ks : List (List UInt8)} (h : keysS ks = true) : Rise ks := by
  have step : ∀ i (hi : i + 1 < ks.length), strLt (ks[i]'(by omega)) ks[i + 1] = true := by
    intro i hi
    simp only [keysS, List.all_eq_true, List.mem_range] at h
    have := h (i + 1) hi
    have e1 : ks.getD (i + 1) [] = ks[i + 1] := by simp [hi]
    have e2 : ks.getD (i + 1 - 1) [] = ks[i]'(by omega) := by simp [show i < ks.length by omega]
    simp only [badS, e1, e2] at this
    simpa using (by simpa using this : _ ∧ _).2
  intro i j hj hij
  induction j with
  | zero => omega
  | succ j ih =>
    rcases Nat.lt_or_ge i j with h | h
    · exact strLt_trans (ih (by omega) h) (step j hj)
    · have : i = j := by omega
      subst this; exact step i hj
theorem rise_iff {ks : List (List UInt8)} : keysS ks = true ↔ Rise ks ∧ ∀ i (h : i < ks.length), ks[i].length ≤ 60 := by
  constructor
  · intro h
    refine ⟨Rise.of h, fun i hi => ?_⟩
    simp only [keysS, List.all_eq_true, List.mem_range] at h
    have := h i hi
    simp [badS, hi] at this
    omega
  · rintro ⟨h1, h2⟩
    refine keysS_true fun i hi => ?_
    have e1 : ks.getD i [] = ks[i] := by simp [hi]
    have := h2 i hi
    by_cases h0 : 0 < i
    · have e2 : ks.getD (i - 1) [] = ks[i - 1]'(by omega) := by simp [show i - 1 < ks.length by omega]
      have := h1 (i - 1) i hi (by omega)
      simp only [badS, e1, e2, this]
      simp; omega
    · simp only [badS, e1]
      simp [h0]; omega

/-- How many lie below a key. -/
def below (ks : List (List UInt8)) (k : List UInt8) : Nat := (ks.filter fun x => strLt x k).length

theorem below_eq {ks : List (List UInt8)} {k : List UInt8} {i : Nat} (hi : i ≤ ks.length) (h1 : ∀ j (hj : j < ks.length), j < i → strLt ks[j] k = true) (h2 : ∀ j (hj : j < ks.length), i ≤ j → strLt ks[j] k = false) : below ks k = i := by
  unfold below
  have : ks = ks.take i ++ ks.drop i := (List.take_append_drop i ks).symm
  rw [this, List.filter_append, List.length_append]
  have e1 : (ks.take i).filter (fun x => strLt x k) = ks.take i := by
    rw [List.filter_eq_self]
    intro x hx
    obtain ⟨j, hj, rfl⟩ := List.getElem_of_mem hx
    rw [List.getElem_take]
    exact h1 j (by simp at hj; omega) (by simp at hj; omega)
  have e2 : (ks.drop i).filter (fun x => strLt x k) = [] := by
    rw [List.filter_eq_nil_iff]
    intro x hx
    obtain ⟨j, hj, rfl⟩ := List.getElem_of_mem hx
    rw [List.getElem_drop]
    simp [h2 (i + j) (by simp at hj; omega) (by omega)]
  rw [e1, e2]
  simp; omega
theorem below_spec {ks : List (List UInt8)} (hr : Rise ks) (k : List UInt8) : below ks k ≤ ks.length ∧ (∀ j (hj : j < ks.length), j < below ks k → strLt ks[j] k = true) ∧ (∀ j (hj : j < ks.length), below ks k ≤ j → strLt ks[j] k = false) := by
  -- the first that isn't below
  obtain ⟨i, hi, h1, h2⟩ : ∃ i, i ≤ ks.length ∧ (∀ j (hj : j < ks.length), j < i → strLt ks[j] k = true) ∧ (∀ j (hj : j < ks.length), i ≤ j → strLt ks[j] k = false) := by
    have : ∀ d i, ks.length - i = d → i ≤ ks.length → (∀ j (hj : j < ks.length), j < i → strLt ks[j] k = true) → ∃ i, i ≤ ks.length ∧ (∀ j (hj : j < ks.length), j < i → strLt ks[j] k = true) ∧ (∀ j (hj : j < ks.length), i ≤ j → strLt ks[j] k = false) := by
      intro d
      induction d with
      | zero => intro i h1 h2 h3; exact ⟨i, h2, h3, fun j hj hij => by omega⟩
      | succ d ih =>
        intro i h1 h2 h3
        have hlt : i < ks.length := by omega
        cases h : strLt ks[i] k with
        | true =>
          refine ih (i + 1) (by omega) (by omega) fun j hj hji => ?_
          rcases Nat.lt_or_ge j i with g | g
          · exact h3 j hj g
          · have : j = i := by omega
            subst this; exact h
        | false =>
          refine ⟨i, h2, h3, fun j hj hij => ?_⟩
          rcases Nat.lt_or_ge i j with g | g
          · cases h4 : strLt ks[j] k with
            | false => rfl
            | true => have := strLt_trans (hr i j hj g) h4; rw [h] at this; cases this
          · have : j = i := by omega
            subst this; exact h
    exact this _ 0 rfl (by omega) (fun j _ h => by omega)
  have e := below_eq hi h1 h2
  rw [e]; exact ⟨hi, h1, h2⟩

theorem mem_below {ks : List (List UInt8)} (hr : Rise ks) (k : List UInt8) : k ∈ ks ↔ ks[below ks k]? = some k := by
  obtain ⟨h1, h2, h3⟩ := below_spec hr k
  constructor
  · intro hm
    obtain ⟨j, hj, rfl⟩ := List.getElem_of_mem hm
    have hle : below ks ks[j] ≤ j := by
      rcases Nat.lt_or_ge j (below ks ks[j]) with h | h
      · have := h2 j hj h; rw [strLt_irrefl] at this; cases this
      · exact h
    rcases Nat.lt_or_ge (below ks ks[j]) j with h | h
    · have := h3 (below ks ks[j]) (by omega) (Nat.le_refl _)
      rw [hr _ _ hj h] at this; cases this
    · have : below ks ks[j] = j := by omega
      rw [this]; exact List.getElem?_eq_getElem hj
  · intro h; exact List.mem_of_getElem? h
theorem below_at {ks : List (List UInt8)} (hr : Rise ks) {j : Nat} (hj : j < ks.length) : below ks ks[j] = j := by
  refine below_eq (by omega) (fun i hi h => hr i j hj h) (fun i hi h => ?_)
  rcases Nat.lt_or_ge j i with g | g
  · exact strLt_asymm (hr j i hi g)
  · have : i = j := by omega
    subst this; exact strLt_irrefl _

def findS (n : Nd) (k : List UInt8) : Int × Bool :=
  if rightS n then (((below n.keys k + if k ∈ n.keys ∧ n.leaf = false then 1 else 0 : Nat) : Int), decide (k ∈ n.keys)) else (0, false)
end Go.Ai

