/- The sort of spans does what its relation says. -/
import Derived.Test.YtcnaelknemednaaDoorLay
import Derived.Test.YtcnaelknemednaaDoorC
namespace Go.Ai
open Go.Proofs Go.Shelf Go.RowKit Go.Sort
set_option linter.unusedVariables false
set_option linter.unusedSimpArgs false

/-- The program's order. -/
def cfS (x y : Sp) : Int := if ltS x y then -1 else 1
def encS (x : Sp) : List Value := [.int .i64 x.1, .int .i64 x.2]
theorem ltOf_cf : ltOf cfS = ltS := by
  funext x y
  unfold ltOf cfS
  cases ltS x y <;> simp

set_option maxHeartbeats 1000000 in
theorem closure36 (x y : Sp) (W : World) : Calls Tryd.prog 36 #[.agg #[.int .i64 x.1, .int .i64 x.2], .agg #[.int .i64 y.1, .int .i64 y.2]] W fun e w' => e = .returned (.int .i64 (cfS x y)) ∧ ∃ q os', w' = grow (W.drewN q) os' := by
  obtain ⟨x1, x2⟩ := x
  obtain ⟨y1, y2⟩ := y
  by_cases h1 : x1 < y1
  · have hc : cfS (x1, x2) (y1, y2) = -1 := by simp [cfS, ltS, h1]
    rw [hc]
    go_enter Tryd.func36, Tryd.ntmps36
    go_wp2
    go_ret
    exact ⟨rfl, 0, _, by rw [alloc_eq_grow, alloc_eq_grow, grow_grow]; rfl⟩
  · by_cases h2 : x1 = y1
    · by_cases h3 : x2 < y2
      · have hc : cfS (x1, x2) (y1, y2) = -1 := by simp [cfS, ltS, h1, h2, h3]
        rw [hc]
        go_enter Tryd.func36, Tryd.ntmps36
        go_wp2
        go_ret
        exact ⟨rfl, 0, _, by rw [alloc_eq_grow, alloc_eq_grow, grow_grow]; rfl⟩
      · have hc : cfS (x1, x2) (y1, y2) = 1 := by subst h2; simp [cfS, ltS, h3]
        rw [hc]
        go_enter Tryd.func36, Tryd.ntmps36
        go_wp2
        all_goals (try go_wp2)
        all_goals (try go_ret)
        exact ⟨rfl, 0, _, by rw [alloc_eq_grow, alloc_eq_grow, grow_grow]; rfl⟩
    · have hc : cfS (x1, x2) (y1, y2) = 1 := by simp [cfS, ltS, h1, h2]
      rw [hc]
      go_enter Tryd.func36, Tryd.ntmps36
      go_wp2
      all_goals (try go_wp2)
      all_goals (try go_ret)
      exact ⟨rfl, 0, _, by rw [alloc_eq_grow, alloc_eq_grow, grow_grow]; rfl⟩

theorem swoS : SWO (ltOf cfS) := by
  rw [ltOf_cf]
  exact ⟨fun x => by simp [ltS], fun x y z h1 h2 => by simp [ltS] at *; omega, fun x y z h1 h2 => by simp [ltS] at *; omega⟩
theorem enters36 : ∀ args w, (callFunc 36 args).run Tryd.prog w = .ok (.enter 36 args) w := fun args w => callFunc_run body36 args
theorem isAgg39 : ∀ w, (isAgg (Tryd.sortSp_ren.t 24)).run Tryd.prog w = .ok true w := Tryd.isAgg35
theorem sizeOf39 : ∀ w, (Go.sizeOf (Tryd.sortSp_ren.t 24)).run Tryd.prog w = .ok 2 w := Tryd.sizeOf35

/-- Spans in a block of cells: the kit's word. -/
theorem holds_of {c : Cx} {nx : Nat} (hh : HRel c nx) {r : Nat} {d : List Sp} {p : Place} (h1 : c.hp r = some (d.map cellsP)) (hι : c.ι r = some p) (hs : p.sz = 2) (hm : p.O ≤ p.N) (hN : p.O + d.length * 2 ≤ p.N) :
    HoldsK encS 2 c.w p.B p.O d.toArray := by
  obtain ⟨hF, cs, e, fz, hb, hsz, hfz, hrows⟩ := hh.cells h1 hι hm
  intro t ht
  simp only [size_flatK, List.size_toArray] at ht
  have hi : t / 2 < d.length := by omega
  obtain ⟨_, h2⟩ := hrows (t / 2) (cellsP d[t / 2]) (by simp [hi])
  rw [get_flatK _ _ _ _ (by simpa using ht)]
  have ge : d.toArray[t / 2]! = d[t / 2] := by simp [hi]
  rw [ge, hs] at *
  constructor
  · simp only [World.cell?, hb]
    have hm2 : t % 2 = 0 ∨ t % 2 = 1 := by omega
    rcases hm2 with hm2 | hm2
    · obtain ⟨u, h3, h4⟩ := h2 0 (.v (.int .i64 d[t / 2].1)) (by simp [cellsP])
      have := h4.v_inv
      subst this
      rw [hm2]
      simp only [encS, id]
      rw [show p.O + t = p.O + t / 2 * 2 + 0 by omega]
      simpa using h3
    · obtain ⟨u, h3, h4⟩ := h2 1 (.v (.int .i64 d[t / 2].2)) (by simp [cellsP])
      have := h4.v_inv
      subst this
      rw [hm2]
      simp only [encS, id]
      rw [show p.O + t = p.O + t / 2 * 2 + 1 by omega]
      simpa using h3
  · simp only [World.frozen?, hb]
    have := hfz (p.O + t) (by omega)
    simp
    omega

theorem put_heap {w : World} {B O n : Nat} {d' : Array Sp} {cs : Array Value} {e : TypeId} {fz : Nat × Nat} (hb : w.heap[B]? = some (.cells cs e fz)) :
    (putRowK encS 2 (Sort.ahead w n) B O d').heap = w.heap.setIfInBounds B (.cells (putCells id O (flatK encS 2 d') cs) e fz) := by
  show (mapBlock (Sort.ahead w n) B _).heap = _
  unfold mapBlock
  show (w.heap.modify B _) = _
  apply Array.ext_getElem?
  intro k
  obtain ⟨hlt, hget⟩ := Array.getElem?_eq_some_iff.1 hb
  simp only [Array.getElem?_modify, Array.getElem?_setIfInBounds]
  by_cases hk : B = k
  · subst hk
    simp [hget, hlt, onCells]
  · simp [hk]

theorem sort_sound : RelSound Tryd.prog (SortRel 35 36) := by
  refine ⟨fun f args hp nx v hp' nx' k h => .inr h.2.1, (fun f args hp nx v hp' nx' h => nomatch h.2.1), ?_⟩
  rintro f args hp nx v hp' nx' k ⟨rfl, rfl, rfl, rfl, r, cap, d, rfl, h1, h0, h2, rfl⟩ c cargs hc hrel hargs
  obtain ⟨u, u2, rfl⟩ : ∃ u u2, cargs = #[u, u2] := by
    obtain ⟨q⟩ := cargs
    match q, hargs.1 with
    | [u, u2], _ => exact ⟨u, u2, rfl⟩
  have e1 := hargs.2 0 _ u rfl rfl
  have e2 := hargs.2 1 _ u2 rfl rfl
  rw [← hc] at h1
  cases e2 with
  | @fn _ _ _ cx cy g1 g2 _ _ =>
    have hcx : cx = #[] := Array.eq_empty_of_size_eq_zero (by simpa using g1.symm)
    have hcy : cy = #[] := Array.eq_empty_of_size_eq_zero (by simpa using g2.symm)
    subst hcx; subst hcy
    cases e1 with
    | @sl _ _ _ _ n _ p a hι hs ha hl hcap hN hE hm =>
      have hn0 : n ≠ 0 := by omega
      have hN' := hN hn0
      have ha' : a = ⟨p.B, p.O, none⟩ := by rw [ha hn0]; simp
      subst ha'
      have hNd : p.O + d.length * 2 ≤ p.N := by omega
      have hH := holds_of hrel h1 hι hs hm hNd
      obtain ⟨hF, cs, e, fz, hb, hsz, hfz, hrows⟩ := hrel.cells h1 hι hm
      have hlt := (Array.getElem?_eq_some_iff.1 hb).1
      have key := AnyQ.slices_SortFunc_eq Tryd.sortSp 2 isAgg39 sizeOf39 encS (fun _ => rfl) (fun x v hv => by simp [encS] at hv; rcases hv with rfl | rfl <;> rfl) cfS swoS 36 #[] p.B p.O n d.toArray c.w enters36 (fun _ _ _ _ x y => closure36 x y _) hH hlt (by simpa using h2)
      rw [ltOf_cf] at key
      refine .inl ⟨body35, Calls.mono key ?_⟩
      rintro e' w' ⟨rfl, n', os, rfl⟩
      have hsort := pdq_sorts ltS (ltOf_cf ▸ swoS) d.toArray 0 d.toArray.size (Lib.bitLen d.toArray.size) true true (Nat.zero_le _) (Nat.le_refl _) (Or.inl rfl)
      have huniq := sorted_unique_holds (lt := ltS) (ltOf_cf ▸ swoS) (fun x y h1 h2 => by simp [ltS] at h1 h2; exact Prod.ext (by omega) (by omega)) _ _ hsort.1 hsort.2
      generalize pdq ltS d.toArray 0 d.toArray.size (Lib.bitLen d.toArray.size) true true = D at *
      have hD : D.toList = srtS d := by simpa [srtS] using huniq
      have hDs : D.size = d.length := by rw [← Array.length_toList, hD]; exact List.length_mergeSort _
      have hes : ∀ (i : Nat) (l : List AV), ((srtS d).map cellsP)[i]? = some l → l.length = p.sz ∧ ∀ (j : Nat) (av : AV), l[j]? = some av → ∃ u, (putCells id p.O (flatK encS 2 D) cs)[p.O + i * p.sz + j]? = some u ∧ VRel c av u := by
        intro i l hl
        simp only [List.getElem?_map, Option.map_eq_some_iff] at hl
        obtain ⟨x, hx, rfl⟩ := hl
        have hi : i < d.length := by rw [← hDs, ← Array.length_toList, hD]; exact (List.getElem?_eq_some_iff.1 hx).1
        refine ⟨by rw [hs]; rfl, fun j av hj => ?_⟩
        have hj2 : j < 2 := (List.getElem?_eq_some_iff.1 hj).1
        have hDi : D[i]! = x := by
          rw [← hD, Array.getElem?_toList] at hx
          rw [getElem!_pos D i (by omega)]
          simpa [hDs, hi] using hx
        refine ⟨(encS x)[j]!, ?_, ?_⟩
        · rw [hs]
          have hk : p.O + i * 2 + j < cs.size := by omega
          simp only [putCells, Array.getElem?_mapIdx, Array.getElem?_eq_getElem hk, Option.map_some, size_flatK, hDs]
          rw [if_pos (by omega), show p.O + i * 2 + j - p.O = i * 2 + j by omega, get_flatK _ _ _ _ (by omega), show (i * 2 + j) / 2 = i by omega, show (i * 2 + j) % 2 = j by omega, hDi]
          rfl
        · have hj3 : j = 0 ∨ j = 1 := by omega
          rcases hj3 with rfl | rfl
          · simp [cellsP] at hj; subst hj; exact .v _
          · simp [cellsP] at hj; subst hj; exact .v _
      have w1 := write_rel (es' := (srtS d).map cellsP) hrel h1 hι (w' := putRowK encS 2 (Sort.ahead c.w n') p.B p.O D) hb (put_heap hb) (by simp [putCells]) rfl rfl rfl hes
      have hg : Grow (putRowK encS 2 (Sort.ahead c.w n') p.B p.O D) (sortWorldK encS 2 c.w p.B p.O n' D os) := by
        refine ⟨?_, fun B hB => ?_, rfl, rfl, rfl⟩
        · show _ ≤ (_ ++ os).size
          simp
        · show (_ ++ os)[B]? = _
          rw [Array.getElem?_append_left hB]
      obtain ⟨w2, w3⟩ := w1
      rw [← hc]
      exact ⟨_, c.ι, rfl, (fun h => nomatch h), w3.trans (Ext.of_grow (nx := nx') hg), w2.grow hg, .tup rfl (fun k av u h => by simp at h)⟩

end Go.Ai
