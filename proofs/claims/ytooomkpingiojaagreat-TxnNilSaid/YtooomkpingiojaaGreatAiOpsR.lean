/- The pure operations, ended: parts, literals, and all of them together. -/
import Derived.Test.YtooomkpingiojaaGreatAiOpsQ
namespace Go.Ai
set_option linter.unusedVariables false
set_option linter.unusedSimpArgs false

theorem LRel.get {c : Cx} {x : List AV} {y : List Value} (h : LRel c x y) {k : Nat} {av : AV} (hk : x[k]? = some av) : ∃ u, y[k]? = some u ∧ VRel c av u := by
  have hlt : k < x.length := (List.getElem?_eq_some_iff.1 hk).1
  have hlt' : k < y.length := h.1 ▸ hlt
  exact ⟨y[k], List.getElem?_eq_getElem hlt', h.2 k av _ hk (List.getElem?_eq_getElem hlt')⟩

theorem getElem?_spliceL {α : Type} (l : List α) (off : Nat) (new : List α) (h : off + new.length ≤ l.length) (k : Nat) :
    (spliceL l off new)[k]? = if off ≤ k ∧ k < off + new.length then new[k - off]? else l[k]? := by
  unfold spliceL
  rw [List.append_assoc]
  have hto : (l.take off).length = off := by simp; omega
  by_cases h1 : k < off
  · rw [List.getElem?_append_left (by omega), List.getElem?_take, if_pos h1, if_neg (by omega)]
  · rw [List.getElem?_append_right (by omega), hto]
    by_cases h2 : k < off + new.length
    · rw [List.getElem?_append_left (by omega), if_pos ⟨by omega, h2⟩]
    · rw [List.getElem?_append_right (by omega), if_neg (by omega), List.getElem?_drop]
      congr 1; omega

theorem length_spliceL {α : Type} (l : List α) (off : Nat) (new : List α) (h : off + new.length ≤ l.length) : (spliceL l off new).length = l.length := by
  unfold spliceL; simp; omega

theorem LRel.splice {c : Cx} {x new : List AV} {y ny : List Value} (h : LRel c x y) (hn : LRel c new ny) {off : Nat} (ho : off + new.length ≤ x.length) : LRel c (spliceL x off new) (spliceL y off ny) := by
  have ho' : off + ny.length ≤ y.length := by rw [← hn.1, ← h.1]; exact ho
  refine ⟨by rw [length_spliceL _ _ _ ho, length_spliceL _ _ _ ho', h.1], fun k av u h1 h2 => ?_⟩
  rw [getElem?_spliceL _ _ _ ho] at h1
  rw [getElem?_spliceL _ _ _ ho'] at h2
  rw [← hn.1] at h2
  split at h1
  · rename_i hk; rw [if_pos hk] at h2; exact hn.2 _ _ _ h1 h2
  · rename_i hk; rw [if_neg hk] at h2; exact h.2 _ _ _ h1 h2

/-- The model's own way to lay cells over others. -/
theorem foldl_cells (cs : List Value) (off : Nat) (y : Array Value) (h : off + cs.length ≤ y.size) :
    (cs.zipIdx.foldl (fun (a : Array Value) (p : Value × Nat) => a.setIfInBounds (off + p.2) p.1) y).toList = spliceL y.toList off cs := by
  have key : ∀ (cs : List Value) (i : Nat) (y : Array Value), off + i + cs.length ≤ y.size →
      ((cs.zipIdx i).foldl (fun (a : Array Value) (p : Value × Nat) => a.setIfInBounds (off + p.2) p.1) y).toList = spliceL y.toList (off + i) cs := by
    intro cs
    induction cs with
    | nil => intro i y _; simp [spliceL]
    | cons v r ih =>
      intro i y hle
      have hlt : off + i < y.size := by simp at hle; omega
      simp only [List.zipIdx_cons, List.foldl_cons]
      rw [ih (i + 1) _ (by simp at hle ⊢; omega)]
      apply List.ext_getElem?
      intro k
      simp only [List.length_cons] at hle
      rw [getElem?_spliceL _ _ _ (by simp; omega), getElem?_spliceL _ _ _ (by simp; omega)]
      simp only [List.length_cons, Array.toList_setIfInBounds]
      by_cases hk : k = off + i
      · subst hk
        rw [if_neg (by omega), if_pos (by omega)]
        simp [hlt]
      · by_cases hk2 : off + i < k ∧ k < off + i + (r.length + 1)
        · rw [if_pos (by omega), if_pos (by omega)]
          rw [show k - (off + i) = (k - (off + (i + 1))) + 1 by omega, List.getElem?_cons_succ]
        · rw [if_neg (by omega), if_neg (by omega), List.getElem?_set_ne (by omega)]
  have := key cs 0 y (by omega)
  simpa using this

theorem getElem?_arr {α : Type} (a : Array α) (k : Nat) : a.toList[k]? = a[k]? := by simp

theorem not_agg_of_one {x : AV} (h : x.cells.all AV.one = true) (y : Array Value) : x ≠ .v (.agg y) := by
  rintro rfl; simp [AV.cells, AV.one] at h

theorem fill_run {c : Cx} {place : Nat → Option (Nat × Nat)} : ∀ {parts : List (Nat × Nat × AV)} {cparts : List (Nat × Value)} {zero : List AV} {czero : Array Value} {cells : List AV},
    parts.length = cparts.length → (∀ (k : Nat) (p : Nat × Nat × AV) (q : Nat × Value), parts[k]? = some p → cparts[k]? = some q → place q.1 = some (p.1, p.2.1) ∧ VRel c p.2.2 q.2) →
    LRel c zero czero.toList → fillA zero parts = some cells → ∃ ccells, Instr.fill place czero cparts = some ccells ∧ LRel c cells ccells.toList
  | [], [], zero, czero, cells, _, _, hz, h => by
    simp only [fillA, Option.some.injEq] at h; subst h
    exact ⟨czero, rfl, hz⟩
  | [], _ :: _, _, _, _, hl, _, _, _ => by simp at hl
  | _ :: _, [], _, _, _, hl, _, _, _ => by simp at hl
  | (off, n, x) :: r, (i, u) :: r', zero, czero, cells, hl, hp, hz, h => by
    simp only [fillA] at h
    split at h
    · rename_i hc
      obtain ⟨hn, hle, hone⟩ := hc
      have hn : x.cells.length = n := hn
      have hle : off + n ≤ zero.length := hle
      obtain ⟨hpl, hv⟩ := hp 0 (off, n, x) (i, u) rfl rfl
      have hcr := cells_rel hv (not_agg_of_one hone)
      have hn' : u.cells.size = n := by have := hcr.1; simp at this; omega
      have hsz : zero.length = czero.size := by have := hz.1; simpa using this
      have hfold := foldl_cells u.cells.toList off czero (by simp; omega)
      have hz' : LRel c (spliceL zero off x.cells) (u.cells.zipIdx.foldl (fun cs (p : Value × Nat) => cs.setIfInBounds (off + p.2) p.1) czero).toList := by
        have : (u.cells.zipIdx.foldl (fun cs (p : Value × Nat) => cs.setIfInBounds (off + p.2) p.1) czero) = (u.cells.toList.zipIdx.foldl (fun (a : Array Value) (p : Value × Nat) => a.setIfInBounds (off + p.2) p.1) czero) := by
          rw [← Array.foldl_toList, Array.toList_zipIdx]
        rw [this, hfold]
        exact hz.splice hcr (show off + x.cells.length ≤ zero.length by omega)
      obtain ⟨cc, h1, h2⟩ := fill_run (parts := r) (cparts := r') (by simpa using hl) (fun k p q h1 h2 => hp (k + 1) p q h1 h2) hz' h
      refine ⟨cc, ?_, h2⟩
      simp only [Instr.fill, hpl]
      rw [if_neg (by simp [hn']; omega)]
      exact h1
    · simp at h

/-- A part of cells, as the model tells it. -/
theorem partA_agg {P : Program} {w : World} {t : TypeId} {n : Option Nat} (h : aggOf P t = some n) :
    (isAgg t).run P w = .ok n.isSome w ∧ (∀ k, n = some k → (sizeOf t).run P w = .ok k w) := by
  unfold aggOf at h
  split at h <;> simp only [Option.some.injEq, reduceCtorEq] at h <;> subst h
  · rename_i fs i hu hi
    exact ⟨by simp [isAgg, run_underlying hu], fun k hk => by simp only [Option.some.injEq] at hk; subst hk; simp [sizeOf, typeInfo, hi]⟩
  · rename_i a b i hu hi
    exact ⟨by simp [isAgg, run_underlying hu], fun k hk => by simp only [Option.some.injEq] at hk; subst hk; simp [sizeOf, typeInfo, hi]⟩
  · rename_i d i hn1 hn2 hu hi
    refine ⟨?_, fun k hk => by simp at hk⟩
    have : (isAgg t).run P w = .ok false w := by
      simp only [isAgg, Sem.run_bind, run_underlying hu, Result.andThen_ok]
      cases d <;> first | rfl | exact absurd rfl (hn1 _ _ · ) | skip
      all_goals first | rfl | (exact (hn1 _ _ hu hi).elim) | (exact (hn2 _ _ _ hu hi).elim)
    simpa using this

theorem loadVar_run {P : Program} {c : Cx} {t : TypeId} {n : Option Nat} (ht : aggOf P t = some n) {B O off : Nat} {cells : List AV} {v : AV}
    (hc : ∀ (k : Nat) (av : AV), cells[k]? = some av → ∃ u, c.w.cell? ⟨B, O + k, none⟩ = some u ∧ VRel c av u) (h : partA cells off n = some v) :
    ∃ u, (loadVar t ⟨B, O + off, none⟩).run P c.w = .ok u c.w ∧ VRel c v u := by
  obtain ⟨h1, h2⟩ := partA_agg (P := P) (w := c.w) ht
  cases n with
  | none =>
    simp only [partA] at h
    obtain ⟨u, h3, h4⟩ := hc off v h
    refine ⟨u, ?_, h4⟩
    simp only [loadVar, Sem.run_bind, h1, Result.andThen_ok]
    simp [h3]
  | some k =>
    simp only [partA] at h
    split at h
    · rename_i hle
      simp only [Option.some.injEq] at h; subst h
      -- the cells one by one
      have hex : ∃ us : List Value, us.length = k ∧ ∀ (j : Nat) (u : Value), us[j]? = some u → c.w.cell? ⟨B, O + off + j, none⟩ = some u ∧ ∀ av, (cells.drop off)[j]? = some av → VRel c av u := by
        refine ⟨(List.range k).map (fun j => (c.w.cell? ⟨B, O + off + j, none⟩).getD undef), by simp, fun j u hj => ?_⟩
        simp only [List.getElem?_map, Option.map_eq_some_iff] at hj
        obtain ⟨j', hj', rfl⟩ := hj
        have hjk : j < k ∧ j' = j := by
          have := List.getElem?_eq_some_iff.1 hj'
          obtain ⟨h5, h6⟩ := this
          simp at h5 h6; exact ⟨h5, h6.symm⟩
        obtain ⟨hjk, rfl⟩ := hjk
        have hlt : off + j' < cells.length := by omega
        obtain ⟨u, h3, h4⟩ := hc (off + j') _ (List.getElem?_eq_getElem hlt)
        rw [← Nat.add_assoc] at h3
        rw [h3]
        refine ⟨rfl, fun av hav => ?_⟩
        rw [List.getElem?_drop, List.getElem?_eq_getElem hlt, Option.some.injEq] at hav
        subst hav; exact h4
      obtain ⟨us, hl, hus⟩ := hex
      refine ⟨.agg us.toArray, ?_, ?_⟩
      · simp only [loadVar, Sem.run_bind, h1, Result.andThen_ok, Option.isSome_some, if_true, h2 k rfl]
        have hload := run_loadCells_list (P := P) c.w ⟨B, O + off, none⟩ us (fun j u hj => by rw [add_addr]; exact (hus j u hj).1)
        rw [hl] at hload
        simp [hload]
      · refine .agg (by simp; omega) (fun j av u h3 h4 => ?_)
        have h5 : us[j]? = some u := by simpa using h4
        rw [List.getElem?_take] at h3
        split at h3
        · exact (hus j u h5).2 av h3
        · simp at h3
    · simp at h

theorem part_run {P : Program} {c : Cx} {t : TypeId} {n : Option Nat} (ht : aggOf P t = some n) {off : Nat} {cells : List AV} {us : Array Value} {v : AV}
    (hl : cells.length = us.size) (hv : ∀ (k : Nat) (av : AV) (u : Value), cells[k]? = some av → us[k]? = some u → VRel c av u) (h : partA cells off n = some v) :
    ∃ u, (part t us off).run P c.w = .ok u c.w ∧ VRel c v u := by
  obtain ⟨h1, h2⟩ := partA_agg (P := P) (w := c.w) ht
  cases n with
  | none =>
    simp only [partA] at h
    have hlt : off < us.size := by have := (List.getElem?_eq_some_iff.1 h).1; omega
    refine ⟨us[off], ?_, hv off v _ h (by simp [hlt])⟩
    simp only [part, Sem.run_bind, h1, Result.andThen_ok]
    simp [hlt]
  | some k =>
    simp only [partA] at h
    split at h
    · rename_i hle
      simp only [Option.some.injEq] at h; subst h
      refine ⟨.agg (us.extract off (off + k)), ?_, ?_⟩
      · simp only [part, Sem.run_bind, h1, Result.andThen_ok, Option.isSome_some, if_true, h2 k rfl]
        simp
      · refine .agg (by simp; omega) (fun j av u h3 h4 => ?_)
        rw [List.getElem?_take] at h3
        split at h3
        · rename_i hj
          rw [List.getElem?_drop] at h3
          refine hv (off + j) av u h3 ?_
          rw [Array.getElem?_extract] at h4
          split at h4
          · exact h4
          · simp at h4
        · simp at h3
    · simp at h

end Go.Ai
