/- Appending, copying, storing: what the model's operations come to. -/
import Derived.Test.YtooomkpingiojaaGreatAiOpsE
import Derived.Laws.Append
namespace Go.Ai
set_option linter.unusedVariables false
set_option linter.unusedSimpArgs false

theorem setIfInBounds_same {α : Type} (a : Array α) (i : Nat) (x : α) (h : a[i]? = some x) : a.setIfInBounds i x = a := by
  apply Array.ext_getElem?
  intro j
  rw [Array.getElem?_setIfInBounds]
  split
  · rename_i hj; subst hj; rw [if_pos (Array.getElem?_eq_some_iff.1 h).1, h]
  · rfl

theorem setCell_heap {w : World} {B o : Nat} {cs : Array Value} {e : TypeId} {fz : Nat × Nat} (h : w.heap[B]? = some (.cells cs e fz)) (v : Value) :
    (w.setCell ⟨B, o, none⟩ v).heap = w.heap.setIfInBounds B (.cells (cs.setIfInBounds o v) e fz) := by
  apply Array.ext_getElem?
  intro j
  simp only [World.setCell, Array.getElem?_modify, Array.getElem?_setIfInBounds]
  have hlt := (Array.getElem?_eq_some_iff.1 h).1
  split
  · rename_i hj; subst hj
    have hget : w.heap[B] = .cells cs e fz := (Array.getElem?_eq_some_iff.1 h).2
    simp [hlt, hget]
  · rfl

theorem spliceL_nil {α : Type} (l : List α) (o : Nat) : spliceL l o [] = l := by simp [spliceL]

theorem spliceL_cons {α : Type} (l : List α) (o : Nat) (x : α) (r : List α) (h : o + (r.length + 1) ≤ l.length) : spliceL l o (x :: r) = spliceL (l.set o x) (o + 1) r := by
  apply List.ext_getElem?
  intro k
  rw [getElem?_spliceL _ _ _ (by simpa using h), getElem?_spliceL _ _ _ (by simp; omega)]
  simp only [List.length_cons]
  by_cases h1 : k = o
  · subst h1
    rw [if_pos (by omega), if_neg (by omega), List.getElem?_set_self (by omega)]
    simp
  · by_cases h2 : o + 1 ≤ k ∧ k < o + 1 + r.length
    · rw [if_pos (by omega), if_pos h2, show k - o = (k - (o + 1)) + 1 by omega, List.getElem?_cons_succ]
    · rw [if_neg (by omega), if_neg h2, List.getElem?_set_ne (by omega)]

theorem storeCells_run {P : Program} {B o : Nat} {e : TypeId} {fz : Nat × Nat} : ∀ (vs : List Value) (i : Nat) (w : World) (cs : Array Value), w.heap[B]? = some (.cells cs e fz) → o + i + vs.length ≤ cs.size →
    (∀ k, k < cs.size → ¬ (fz.1 ≤ k ∧ k < fz.2)) → (∀ v ∈ vs, v.oneCell' = true) →
    ∃ w' cs', (storeCells ⟨B, o, none⟩ vs i).run P w = .ok () w' ∧ w'.heap = w.heap.setIfInBounds B (.cells cs' e fz) ∧ cs'.toList = spliceL cs.toList (o + i) vs ∧ w'.os = w.os ∧ w'.tape = w.tape ∧ w'.output = w.output
  | [], i, w, cs, h, _, _, _ => ⟨w, cs, rfl, (setIfInBounds_same _ _ _ h).symm, (spliceL_nil _ _).symm, rfl, rfl, rfl⟩
  | v :: r, i, w, cs, h, hle, hfz, h1 => by
    simp only [List.length_cons] at hle
    have hlt := (Array.getElem?_eq_some_iff.1 h).1
    have hcell : w.cell? ⟨B, o + i, none⟩ = some cs[o + i] := by simp [World.cell?, h, show o + i < cs.size by omega]
    have hfr : w.frozen? ⟨B, o + i, none⟩ = false := by
      simp only [World.frozen?, h]
      have := hfz (o + i) (by omega)
      simpa using this
    have hst : (store ((⟨B, o, none⟩ : Addr).add i) v).run P w = .ok () (w.setCell ⟨B, o + i, none⟩ v) := by
      rw [add_addr, run_store P w _ v _ (h1 v (by simp)), hcell, hfr]; rfl
    have hheap := setCell_heap (o := o + i) h v
    have ha : (w.setCell ⟨B, o + i, none⟩ v).heap[B]? = some (.cells (cs.setIfInBounds (o + i) v) e fz) := by rw [hheap]; simp [hlt]
    have hb : o + (i + 1) + r.length ≤ (cs.setIfInBounds (o + i) v).size := by simp; omega
    have hc : ∀ k, k < (cs.setIfInBounds (o + i) v).size → ¬ (fz.1 ≤ k ∧ k < fz.2) := by simpa using hfz
    obtain ⟨w', cs', h2, h3, h4, h5, h6, h7⟩ := storeCells_run (P := P) r (i + 1) (w.setCell ⟨B, o + i, none⟩ v) _ ha hb hc (fun x hx => h1 x (by simp [hx]))
    refine ⟨w', cs', ?_, ?_, ?_, h5, h6, h7⟩
    · simp only [storeCells, Sem.run_bind, hst, Result.andThen_ok, h2]
    · rw [h3, hheap, Array.setIfInBounds_setIfInBounds]
    · rw [h4, spliceL_cons _ _ _ _ (by simp; omega), Array.toList_setIfInBounds, Nat.add_assoc]

theorem one_cell {c : Cx} {x : AV} {u : Value} (h : VRel c x u) (hx : x.one = true) : u.oneCell' = true := by
  cases h with
  | v => cases u <;> first | rfl | simp [AV.one] at hx
  | agg _ _ => simp [AV.one] at hx
  | tup _ _ => simp [AV.one] at hx
  | _ => rfl

theorem one_cells {c : Cx} {x : List AV} {y : List Value} (h : LRel c x y) (hx : x.all AV.one = true) : ∀ v ∈ y, v.oneCell' = true := by
  intro v hv
  obtain ⟨k, hk, rfl⟩ := List.mem_iff_getElem.1 hv
  have hlt : k < x.length := by rw [h.1]; exact hk
  have h1 := h.2 k x[k] y[k] (List.getElem?_eq_getElem hlt) (List.getElem?_eq_getElem hk)
  exact one_cell h1 (List.all_eq_true.1 hx _ (List.getElem_mem hlt))

/-- The elements of what is appended or copied. -/
theorem elems_run {P : Program} {c : Cx} {nx sz : Nat} {x : AV} {u : Value} {new : Blk} (hh : HRel c nx) (hv : VRel c x u) (h : elemsA c.hp sz x = some new) :
    (Builtin.lenOf u).run P c.w = .ok new.length c.w ∧ (∀ (i : Nat) (l : List AV), new[i]? = some l → l.length = sz) ∧
    ∀ n, n ≤ new.length → ∃ ys : List Value, (∀ w : World, w.heap = c.w.heap → (Builtin.firstCells sz n u).run P w = .ok ys.toArray w) ∧ LRel c (new.take n).flatten ys := by
  -- reading the first cells at an address
  have gen : ∀ (ad : Addr) (m : Nat), (new ≠ [] → ad.spot = none) → (∀ (i : Nat) (l : List AV), new[i]? = some l → l.length = sz) →
      (∀ (i j : Nat) (l : List AV) (av : AV), new[i]? = some l → l[j]? = some av → ∃ w, c.w.cell? ⟨ad.block, ad.off + i * sz + j, none⟩ = some w ∧ VRel c av w) →
      ∀ n, n ≤ new.length → ∃ ys : List Value, (∀ w : World, w.heap = c.w.heap → (Builtin.firstCells sz n (.slice (some ad) new.length m)).run P w = .ok ys.toArray w) ∧ LRel c (new.take n).flatten ys := by
    intro ad m hsp hlen hcell n hn
    have hlt : ∀ (i : Nat) (l : List AV), (new.take n)[i]? = some l → l.length = sz := by
      intro i l hl
      rw [List.getElem?_take] at hl
      split at hl
      · exact hlen i l hl
      · simp at hl
    have hfl := flat_length _ hlt
    have htl : (new.take n).length = n := by simp; omega
    rw [htl] at hfl
    have hc : ∀ k, k < n * sz → ∃ u, c.w.cell? ⟨ad.block, ad.off + k, none⟩ = some u ∧ ∀ av, (new.take n).flatten[k]? = some av → VRel c av u := by
      intro k hk
      have hs : 0 < sz := by
        rcases Nat.eq_zero_or_pos sz with h | h
        · subst h; simp at hk
        · exact h
      have hq : k / sz < n := by rw [Nat.div_lt_iff_lt_mul hs]; exact hk
      have hr : k % sz < sz := Nat.mod_lt _ hs
      have hqn : k / sz < new.length := by omega
      have hl := hlen (k / sz) _ (List.getElem?_eq_getElem hqn)
      have hj : k % sz < (new[k / sz]).length := by omega
      obtain ⟨u, h1, h2⟩ := hcell (k / sz) (k % sz) _ _ (List.getElem?_eq_getElem hqn) (List.getElem?_eq_getElem hj)
      have hk' : k / sz * sz + k % sz = k := by rw [Nat.mul_comm]; exact Nat.div_add_mod k sz
      rw [Nat.add_assoc, hk'] at h1
      refine ⟨u, h1, fun av hav => ?_⟩
      have h3 := flat_get (new.take n) (k / sz) (k % sz) _ _ hlt (by rw [List.getElem?_take, if_pos hq]; exact List.getElem?_eq_getElem hqn) (List.getElem?_eq_getElem hj)
      rw [hk', hav, Option.some.injEq] at h3
      subst h3; exact h2
    refine ⟨(List.range (n * sz)).map (fun k => (c.w.cell? ⟨ad.block, ad.off + k, none⟩).getD undef), ?_, by simp [hfl], ?_⟩
    · intro w hw
      by_cases h0 : n * sz = 0
      · simp [Builtin.firstCells, h0, loadCells, loadCellsFrom]
      · have hne : new ≠ [] := by
          rintro rfl
          simp at hn; subst hn; simp at h0
        obtain ⟨B, O, sp⟩ := ad
        have hsp' := hsp hne
        simp only at hsp'; subst hsp'
        have := run_loadCells (P := P) w ⟨B, O, none⟩ (n * sz) (fun k => (c.w.cell? ⟨B, O + k, none⟩).getD undef) (fun k hk => by
          obtain ⟨u, h1, _⟩ := hc k hk
          rw [add_addr, h1]
          have : w.cell? ⟨B, O + k, none⟩ = c.w.cell? ⟨B, O + k, none⟩ := by simp only [World.cell?, hw]
          rw [this, h1]; rfl)
        simpa [Builtin.firstCells] using this
    · intro k av u h1 h2
      simp only [List.getElem?_map, Option.map_eq_some_iff] at h2
      obtain ⟨k', hk', rfl⟩ := h2
      have hk : k < n * sz ∧ k' = k := by
        obtain ⟨h5, h6⟩ := List.getElem?_eq_some_iff.1 hk'
        simp at h5 h6; exact ⟨h5, h6.symm⟩
      obtain ⟨hk, rfl⟩ := hk
      obtain ⟨u, h3, h4⟩ := hc k' hk
      rw [h3]; exact h4 av h1
  unfold elemsA at h
  split at h
  · -- read-only
    split at h
    · rename_i hsz
      simp only [Option.some.injEq] at h; subst h
      cases hv with
      | nil hc =>
        refine ⟨rfl, fun i l h => by simp at h, fun n hn => ⟨[], fun w hw => ?_, by simp [LRel]⟩⟩
        rfl
      | rs g hlen hle hcap hes hro hcell hvv =>
        rename_i m len ad
        have hsz' := hsz.resolve_left (by simp)
        subst hsz'
        refine ⟨by rw [hlen]; rfl, hes, ?_⟩
        have := gen ad m (fun hne => (hro hne).2) hes (fun i j l av h1 h2 => ⟨g i j, hcell i j l av h1 h2, hvv i j l av h1 h2⟩)
        rw [hlen] at this
        rw [hlen]; exact this
    · simp at h
  · -- owned
    rename_i r z i len cap0
    split at h
    · rename_i hsz
      split at h
      · rename_i es hes
        split at h
        · rename_i hle
          simp only [Option.some.injEq] at h; subst h
          subst hsz
          cases hv with
          | sl hι hs ha hl hcap hN hE hpm =>
            rename_i m p ad
            obtain ⟨hF, cs, e, fz, h3, h4, h5, h6⟩ := hh.cells hes hι hpm
            have hlen : ((es.drop i).take len).length = len := by simp; omega
            have hget : ∀ (k : Nat) (l : List AV), ((es.drop i).take len)[k]? = some l → es[i + k]? = some l ∧ k < len := by
              intro k l hk
              rw [List.getElem?_take] at hk
              split at hk
              · rw [List.getElem?_drop] at hk; exact ⟨hk, by assumption⟩
              · simp at hk
            have had : ((es.drop i).take len) ≠ [] → ad = ⟨p.B, p.O + i * p.sz, none⟩ := by
              intro hne
              have h0 : len ≠ 0 := by rintro rfl; simp at hne
              rw [hs]; exact ha (by omega)
            refine ⟨by rw [hlen]; rfl, fun k l hk => by rw [← hs]; exact (h6 _ l (hget k l hk).1).1, ?_⟩
            have := gen ad m (fun hne => by rw [had hne]) (fun k l hk => by rw [← hs]; exact (h6 _ l (hget k l hk).1).1) (fun k j l av h1 h2 => by
              obtain ⟨h7, h8⟩ := h6 _ l (hget k l h1).1
              obtain ⟨u, h9, h10⟩ := h8 j av h2
              refine ⟨u, ?_, h10⟩
              have hadd := had (ne_nil_of_get h1)
              subst hadd
              simp only [World.cell?, h3]
              rw [← hs, show p.O + i * p.sz + k * p.sz + j = p.O + (i + k) * p.sz + j by rw [Nat.add_mul]; omega]
              simpa using h9)
            rw [hlen] at this
            rw [hlen]; exact this
        · simp at h
      · simp at h
    · simp at h
  · -- a text
    split at h
    · rename_i l hsz
      simp only [Option.some.injEq] at h; subst h
      subst hsz
      have e1 := hv.str_inv
      subst e1
      refine ⟨by simp [Builtin.lenOf, bytesOf, ByteArray.size], fun i x hx => ?_, fun n hn => ?_⟩
      · simp only [bytesOf, List.getElem?_map, Option.map_eq_some_iff] at hx
        obtain ⟨b, _, rfl⟩ := hx; rfl
      · refine ⟨(l.take n).map (fun b => Value.int .u8 b.toNat), fun w hw => ?_, ?_⟩
        · have : ((⟨l.toArray⟩ : ByteArray).extract 0 n).data = (l.take n).toArray := by
            apply Array.ext'
            rw [Lib.extract_data]; simp
          simp [Builtin.firstCells, this]
        · have hfl : ((bytesOf l).take n).flatten = (l.take n).map (fun b => AV.v (.int .u8 b.toNat)) := by
            simp only [bytesOf, ← List.map_take]
            induction l.take n with
            | nil => rfl
            | cons a r ih => simp [ih]
          rw [hfl]
          refine ⟨by simp, fun k av u h1 h2 => ?_⟩
          simp only [List.getElem?_map, Option.map_eq_some_iff] at h1 h2
          obtain ⟨b, hb, rfl⟩ := h1
          obtain ⟨b', hb', rfl⟩ := h2
          rw [hb] at hb'; simp only [Option.some.injEq] at hb'; subst hb'
          exact .v _
    · simp at h
  · simp at h

end Go.Ai
