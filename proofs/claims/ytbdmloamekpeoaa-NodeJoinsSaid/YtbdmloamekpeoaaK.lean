/- Parts of nodes. -/
import Derived.Test.YtbdmloamekpeoaaJ
namespace Go.Ai
set_option linter.unusedVariables false
set_option linter.unusedSimpArgs false

theorem boundsA_two {len top : Nat} {a b : Nat} {k k' : IntKind} (h1 : a ≤ b) (h2 : b ≤ top) : boundsA len top (some (.v (.int k a))) (some (.v (.int k' b))) none = some (a, b, none) := by
  have e1 : 0 ≤ (b : Int) ∧ (b : Int) ≤ (top : Int) := by omega
  have e2 : 0 ≤ (a : Int) ∧ (a : Int) ≤ (b : Int) := by omega
  simp only [boundsA, idxOf, Option.getD_none, if_pos e1, Int.toNat_natCast, if_pos e2]

theorem slice_in {n : Nat} {x : AV} {es : List (List AV)} {a b : Nat} {k k' : IntKind} (hx : SlA n es x) (h1 : a ≤ b) (h2 : b ≤ es.length) :
    ∃ y, SlA n ((es.take b).drop a) y ∧ sliceA n x (some (.v (.int k a))) (some (.v (.int k' b))) none = some y := by
  obtain ⟨nil, sz, cap, rfl, hz, hn⟩ := hx
  refine ⟨.rs nil sz ((es.take b).drop a) (cap.map (· - a)), ⟨nil, sz, _, rfl, hz, fun h => by simp [hn h]⟩, ?_⟩
  simp only [sliceA, if_pos hz, boundsA_two h1 h2, capCut]

theorem mapO_some {α : Type} {f : α → Option α} : ∀ {l : List α}, (∀ x ∈ l, f x = some x) → mapO f l = some l
  | [], _ => rfl
  | x :: r, h => by simp [h x (by simp), mapO_some fun y hy => h y (List.mem_cons_of_mem _ hy)]
theorem closedL_mem : ∀ {l : List AV}, closedL l = true → ∀ x ∈ l, x.closed = true
  | [], _, x, h => by simp at h
  | y :: r, h, x, hx => by
    simp at h hx
    rcases hx with rfl | hx
    · exact h.1
    · exact closedL_mem h.2 x hx
theorem closedLL_mem : ∀ {l : List (List AV)}, closedLL l = true → ∀ x ∈ l, closedL x = true
  | [], _, x, h => by simp at h
  | y :: r, h, x, hx => by
    simp at h hx
    rcases hx with rfl | hx
    · exact h.1
    · exact closedLL_mem h.2 x hx
/-- An owned slice, handed out. -/
theorem frz_sl {k : Nat} {hp : Heap} {r sz i len cap} {es : Blk} (h : hp r = some es) (hl : i + len ≤ es.length) (hc : closedLL ((es.drop i).take len) = true) : frz (k + 2) hp (.sl r sz i len cap) = some (.rs false sz ((es.drop i).take len) cap) := by
  have : mapO (mapO (frz (k + 1) hp)) ((es.drop i).take len) = some ((es.drop i).take len) := mapO_some fun x hx => mapO_some fun y hy => frz_closed (closedL_mem (closedLL_mem hc x hx) y hy)
  rw [frz]
  simp only [closed_sl, h, if_pos hl, this]
  rfl

/-- A slice of its own, made of another. -/
theorem clone_app {n bytes : Nat} {x : AV} {es : List (List AV)} (hx : SlA n es x) (hb : es.length * bytes ≤ 140737488355328) (ho : es.all (fun l => l.all AV.one) = true) (hc : closedLL es = true) :
    ∃ v hp' nx' y, appendA n bytes (.rs false n [] (some 0)) x hnil 0 = some (v, hp', nx') ∧ SlA n es y ∧ frz 6 hp' v = some y := by
  obtain ⟨nil, sz, cap, rfl, hz, hn⟩ := hx
  rw [appendA_rs hz, if_pos ho]
  by_cases he : es = []
  · subst he
    exact ⟨.rs false n [] (some 0), hnil, 0, .rs false n [] (some 0), by simp [appA], ⟨false, n, _, rfl, .inr rfl, fun _ => rfl⟩, frz_closed (by simp)⟩
  · have hl : es.length ≠ 0 := by simpa using he
    have hpos : 0 < es.length := by omega
    refine ⟨.sl 0 n 0 es.length none, hupd hnil 0 (some es), 1, .rs false n es none, ?_, ⟨false, n, _, rfl, .inr rfl, fun h => by cases h⟩, ?_⟩
    · simp [appA, he, hpos, hb]
    · rw [frz_sl (es := es) (by simp) (by omega) (by simpa using hc)]
      simp

theorem one_keys (l : List (List UInt8)) : (l.map keyC).all (fun l => l.all AV.one) = true := by simp [keyC]
theorem one_items (l : List Itm) : (l.map Itm.cells).all (fun l => l.all AV.one) = true := by simp [Itm.cells]
theorem one_kids (l : List Int) : (l.map kidC).all (fun l => l.all AV.one) = true := by simp [kidC]

theorem f43 (ks : List (List UInt8)) (x : AV) (hx : SlA 1 (ks.map keyC) x) (hl : ks.length ≤ 1000000) : ∃ y, SlA 1 (ks.map keyC) y ∧ ∀ hp nx, Ret E 43 [x] hp nx y hp nx .p := by
  obtain ⟨v, hp', nx', y, h1, h2, h3⟩ := clone_app (bytes := 16) hx (by simp; omega) (one_keys ks) closed_keys
  obtain ⟨nil, sz, cap, rfl, hz, hn⟩ := hx
  cases nil
  · refine ⟨y, h2, fun hp nx => Ret_pureQ e43 rfl (by simp) ?_ hp nx⟩
    simp [c43, h1, h3, -appendA_rs]
  · have := hn rfl
    refine ⟨.rs true 0 [] (some 0), ⟨true, _, _, by rw [this], .inl rfl, fun _ => this⟩, fun hp nx => Ret_pureQ e43 rfl (by simp) ?_ hp nx⟩
    simp [c43, frz_closed]
theorem f61 (ks : List Itm) (x : AV) (hx : SlA 3 (ks.map Itm.cells) x) (hl : ks.length ≤ 1000000) : ∃ y, SlA 3 (ks.map Itm.cells) y ∧ ∀ hp nx, Ret E 61 [x] hp nx y hp nx .p := by
  obtain ⟨v, hp', nx', y, h1, h2, h3⟩ := clone_app (bytes := 32) hx (by simp; omega) (one_items ks) closed_items
  obtain ⟨nil, sz, cap, rfl, hz, hn⟩ := hx
  cases nil
  · refine ⟨y, h2, fun hp nx => Ret_pureQ e61 rfl (by simp) ?_ hp nx⟩
    simp [c61, h1, h3, -appendA_rs]
  · have := hn rfl
    refine ⟨.rs true 0 [] (some 0), ⟨true, _, _, by rw [this], .inl rfl, fun _ => this⟩, fun hp nx => Ret_pureQ e61 rfl (by simp) ?_ hp nx⟩
    simp [c61, frz_closed]
theorem f62 (ks : List Int) (x : AV) (hx : SlA 1 (ks.map kidC) x) (hl : ks.length ≤ 1000000) : ∃ y, SlA 1 (ks.map kidC) y ∧ ∀ hp nx, Ret E 62 [x] hp nx y hp nx .p := by
  obtain ⟨v, hp', nx', y, h1, h2, h3⟩ := clone_app (bytes := 8) hx (by simp; omega) (one_kids ks) closed_kids
  obtain ⟨nil, sz, cap, rfl, hz, hn⟩ := hx
  cases nil
  · refine ⟨y, h2, fun hp nx => Ret_pureQ e62 rfl (by simp) ?_ hp nx⟩
    simp [c62, h1, h3, -appendA_rs]
  · have := hn rfl
    refine ⟨.rs true 0 [] (some 0), ⟨true, _, _, by rw [this], .inl rfl, fun _ => this⟩, fun hp nx => Ret_pureQ e62 rfl (by simp) ?_ hp nx⟩
    simp [c62, frz_closed]

@[simp] theorem closed_keys' {l : List (List UInt8)} {a b : Nat} : closedLL (((l.map keyC).take b).drop a) = true := by rw [← List.map_take, ← List.map_drop]; exact closed_keys
@[simp] theorem closed_items' {l : List Itm} {a b : Nat} : closedLL (((l.map Itm.cells).take b).drop a) = true := by rw [← List.map_take, ← List.map_drop]; exact closed_items
@[simp] theorem closed_kids' {l : List Int} {a b : Nat} : closedLL (((l.map kidC).take b).drop a) = true := by rw [← List.map_take, ← List.map_drop]; exact closed_kids
def partS (n : Nd) (a b : Nat) : Nd := ⟨n.leaf, (n.keys.take b).drop a, if n.leaf then (n.items.take b).drop a else [], if n.leaf then [] else (n.kids.take (b + 1)).drop a⟩

theorem SlA.shape {n es x} (h : SlA n es x) : ∃ nil sz cap, x = .rs nil sz es cap := by obtain ⟨a, b, c, h, _⟩ := h; exact ⟨a, b, c, h⟩
theorem SlA.nil0 {n : Nat} : SlA n [] (.rs true 0 [] (some 0)) := ⟨true, 0, _, rfl, .inl rfl, fun _ => rfl⟩

theorem f42 (n : Nd) (x : AV) (hx : NdA n x) (a b : Nat) (h1 : a ≤ b) (h2 : b ≤ n.keys.length) (h3 : n.leaf = true → b ≤ n.items.length) (h4 : n.leaf = false → b + 1 ≤ n.kids.length) (h5 : b ≤ 100000) :
    ∃ y, NdA (partS n a b) y ∧ ∀ hp nx, Ret E 42 [x, .v (.int .i64 a), .v (.int .i64 b)] hp nx y hp nx .p := by
  obtain ⟨leaf, keys, items, kids⟩ := n
  obtain ⟨kA, iA, dA, rfl, hk, hi, hd⟩ := hx
  simp only at hk hi hd h2 h3 h4
  obtain ⟨k1, k2, k3⟩ := slice_in (k := .i64) (k' := .i64) hk h1 (by simpa using h2)
  rw [← List.map_take, ← List.map_drop] at k2
  obtain ⟨k4, k5, k6⟩ := f43 _ _ k2 (by simp; omega)
  obtain ⟨kn, ksz, kc, rfl⟩ := hk.shape
  obtain ⟨in', isz, ic, rfl⟩ := hi.shape
  obtain ⟨dn, dsz, dc, rfl⟩ := hd.shape
  obtain ⟨yn, ysz, yc, rfl⟩ := k5.shape
  have hw : IntKind.wrap .i64 ((b : Int) + 1) = (b + 1 : Nat) := by rw [wrap_id] <;> omega
  cases leaf
  · obtain ⟨d1, d2, d3⟩ := slice_in (k := .i64) (k' := .i64) (a := a) (b := b + 1) hd (by omega) (by simpa using h4 rfl)
    rw [← List.map_take, ← List.map_drop] at d2
    obtain ⟨d4, d5, d6⟩ := f62 _ _ d2 (by simp; omega)
    obtain ⟨zn, zsz, zc, rfl⟩ := d5.shape
    refine ⟨.agg [.v (.bool false), _, .rs true 0 [] (some 0), _], ⟨_, _, _, rfl, k5, .nil0, d5⟩, fun hp nx => Ret_pureQ e42 rfl (by simp) ?_ hp nx⟩
    simp [c42, k3]
    refine WCall_p (k6 _ _) ?_
    simp [hw, d3, spliceL, -Int.natCast_add]
    refine WCall_p (d6 _ _) ?_
    simp [spliceL, frz_closed]
  · obtain ⟨d1, d2, d3⟩ := slice_in (k := .i64) (k' := .i64) (a := a) (b := b) hi (by omega) (by simpa using h3 rfl)
    rw [← List.map_take, ← List.map_drop] at d2
    obtain ⟨d4, d5, d6⟩ := f61 _ _ d2 (by simp; omega)
    obtain ⟨zn, zsz, zc, rfl⟩ := d5.shape
    refine ⟨.agg [.v (.bool true), _, _, .rs true 0 [] (some 0)], ⟨_, _, _, rfl, k5, d5, .nil0⟩, fun hp nx => Ret_pureQ e42 rfl (by simp) ?_ hp nx⟩
    simp [c42, k3]
    refine WCall_p (k6 _ _) ?_
    simp [hw, d3, spliceL, -Int.natCast_add]
    refine WCall_p (d6 _ _) ?_
    simp [spliceL, frz_closed]
end Go.Ai
