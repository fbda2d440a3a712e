/- Operations that make or change owned memory: one by one. -/
import Derived.Test.YtooomkpingiojaaGreatAiOpsG
namespace Go.Ai
set_option linter.unusedVariables false
set_option linter.unusedSimpArgs false

/-- A new block, with what leads to it. -/
theorem EGood.push {P : Program} {o : Oper} {a : Act} {c : Cx} {nx : Nat} (hh : HRel c nx) {v : AV} {u : Value} {w' : World} {cs : Array Value} {e : TypeId} {fz : Nat × Nat} {es : Blk} {sz : Nat}
    (hrun : RunsTo P o a c.w u w') (hheap : w'.heap = c.w.heap.push (.cells cs e fz)) (hos : w'.os = c.w.os) (htape : w'.tape = c.w.tape) (hout : w'.output = c.w.output)
    (hfz : ∀ o, o < cs.size → ¬ (fz.1 ≤ o ∧ o < fz.2))
    (hes : ∀ (i : Nat) (l : List AV), es[i]? = some l → l.length = sz ∧ ∀ (j : Nat) (av : AV), l[j]? = some av → ∃ u, cs[i * sz + j]? = some u ∧ VRel c av u)
    (hv : ∀ c' : Cx, c'.ι nx = some ⟨c.w.heap.size, 0, sz, cs.size, []⟩ → VRel c' v u) : EGood P o a c v (hupd c.hp nx (some es)) (nx + 1) := by
  obtain ⟨h1, h2⟩ := push_rel hh hheap hos htape hout hfz hes
  exact ⟨u, w', _, hrun, h2, h1, hv _ (by simp [iupd])⟩

theorem rows_of {c : Cx} {sz : Nat} {es : Blk} {cs : List Value} (hes : ∀ (i : Nat) (l : List AV), es[i]? = some l → l.length = sz) (h : LRel c es.flatten cs) :
    ∀ (i : Nat) (l : List AV), es[i]? = some l → l.length = sz ∧ ∀ (j : Nat) (av : AV), l[j]? = some av → ∃ u, cs[i * sz + j]? = some u ∧ VRel c av u :=
  fun i l hl => ⟨hes i l hl, fun j av hj => h.get (flat_get es i j l av hes hl hj)⟩

theorem one_row {c : Cx} {l : List AV} {cs : List Value} (h : LRel c l cs) :
    ∀ (i : Nat) (x : List AV), [l][i]? = some x → x.length = l.length ∧ ∀ (j : Nat) (av : AV), x[j]? = some av → ∃ u, cs[i * l.length + j]? = some u ∧ VRel c av u := by
  intro i x hx
  cases i with
  | zero =>
    simp at hx; subst hx
    exact ⟨rfl, fun j av hj => by rw [Nat.zero_mul, Nat.zero_add]; exact h.get hj⟩
  | succ i => simp at hx

theorem alloc_good {P : Program} {a : Act} {c : Cx} {nx : Nat} (hh : HRel c nx) {e : TypeId} {z : List AV} (hz : zeroOf P e = some z) {dst : Option Tmp} {type : TypeId} {pos : String} {after : Array Edge} {guard : Option (Nat × Bool)} :
    EGood P ⟨dst, .alloc e, type, pos, after, guard⟩ a c (.ptr nx 0 0) (hupd c.hp nx (some [z])) (nx + 1) := by
  obtain ⟨i, zv, hi, hzv, hzs, rfl⟩ := zeroOf_spec hz
  refine EGood.push hh (u := .pointer (some ⟨c.w.heap.size, 0, none⟩)) (w' := { c.w with heap := c.w.heap.push (.cells zv.cells e) }) (cs := zv.cells) (e := e) (fz := (0, 0)) (sz := (zv.cells.toList.map ofV1).length) (.inl ?_) rfl rfl rfl rfl (by intro o h; simp) ?_ ?_
  · simp [execOp, Instr.alloc, zeroValue, typeInfo, hi, hzv, newVar, newRow]
  · intro k x hx
    obtain ⟨h1, h2⟩ := one_row (zero_rel c hzs) k x hx
    exact ⟨h1, fun j av hj => let ⟨u, h3, h4⟩ := h2 j av hj; ⟨u, by rw [← getElem?_arr]; exact h3, h4⟩⟩
  · intro c' hc'
    simpa using VRel.ptr (i := 0) (off := 0) hc' (Nat.zero_le _)

theorem box_good {P : Program} {a : Act} {c : Cx} {nx : Nat} (hh : HRel c nx) {e : TypeId} {x : Operand} {tm : Nat → AV} (ht : TRel c tm a) (hone : (ev tm (cO x)).cells.all AV.one = true) {dst : Option Tmp} {type : TypeId} {pos : String} {after : Array Edge} {guard : Option (Nat × Bool)} :
    EGood P ⟨dst, .box e x, type, pos, after, guard⟩ a c (.ptr nx 0 0) (hupd c.hp nx (some [(ev tm (cO x)).cells])) (nx + 1) := by
  have hr := cells_rel (cO_rel ht x) (not_agg_of_one hone)
  refine EGood.push hh (u := .pointer (some ⟨c.w.heap.size, 0, none⟩)) (w' := { c.w with heap := c.w.heap.push (.cells (a.eval x).cells e) }) (cs := (a.eval x).cells) (e := e) (fz := (0, 0)) (sz := (ev tm (cO x)).cells.length) (.inl ?_) rfl rfl rfl rfl (by intro o h; simp) ?_ ?_
  · simp [execOp, Instr.box, newVar, newRow]
  · intro k y hy
    obtain ⟨h1, h2⟩ := one_row hr k y hy
    exact ⟨h1, fun j av hj => let ⟨u, h3, h4⟩ := h2 j av hj; ⟨u, by rw [← getElem?_arr]; exact h3, h4⟩⟩
  · intro c' hc'
    simpa using VRel.ptr (i := 0) (off := 0) hc' (Nat.zero_le _)

theorem bslice_good {P : Program} {a : Act} {c : Cx} {nx : Nat} (hh : HRel c nx) {t e : TypeId} {i : TypeInfo} {zv : Value} {n : Nat} {parts : Array (Nat × Operand)} {tm : Nat → AV} (ht : TRel c tm a) {es : Blk}
    (hu : P.underlying t = some (.slice e)) (hi : P.info? e = some i) (hzv : i.zero = some zv) (hzs : zv.cells.size = i.size) (hs0 : 0 < i.size) (hlim : n * i.size ≤ 16777216)
    (hes : fillS i.size (List.replicate n (zv.cells.toList.map ofV1)) ((parts.toList.map fun p => (p.1, cO p.2)).map fun p => (p.1, ev tm p.2)) = some es) {dst : Option Tmp} {type : TypeId} {pos : String} {after : Array Edge} {guard : Option (Nat × Bool)} :
    EGood P ⟨dst, .buildSlice t n parts, type, pos, after, guard⟩ a c (.sl nx i.size 0 es.length (some es.length)) (hupd c.hp nx (some es)) (nx + 1) := by
  obtain ⟨cc, h1, h2, h3, h4⟩ := bslice_run (P := P) hs0 hzs ht hes
  have hcs : cc.size = n * i.size := by
    have := h4.1
    rw [flat_length es h3, h2] at this
    simpa using this.symm
  refine EGood.push hh (u := .slice (some ⟨c.w.heap.size, 0, none⟩) n n) (w' := { c.w with heap := c.w.heap.push (.cells cc e) }) (cs := cc) (e := e) (fz := (0, 0)) (sz := i.size) (.inl (bslice_exec hu hi hzv hs0 hlim h1)) rfl rfl rfl rfl (by intro o h; simp) ?_ ?_
  · intro k y hy
    obtain ⟨h5, h6⟩ := rows_of h3 h4 k y hy
    exact ⟨h5, fun j av hj => let ⟨u, h7, h8⟩ := h6 j av hj; ⟨u, by rw [← getElem?_arr]; exact h7, h8⟩⟩
  · intro c' hc'
    rw [h2]
    exact .sl hc' rfl (fun _ => by simp) (Nat.le_refl _) (fun m hm => by simp only [Option.some.injEq] at hm; exact hm.symm) (fun _ => by simp [hcs]) (fun h => by simp at h) (Nat.zero_le _)

theorem store_good {P : Program} {a : Act} {c : Cx} {nx : Nat} (hh : HRel c nx) {t : TypeId} {inf : TypeInfo} {x y : Operand} {tm : Nat → AV} (ht : TRel c tm a) (hi : P.info? t = some inf) (h0 : 0 < inf.size) {r i o : Nat} {es : Blk} {l : List AV}
    (hx : ev tm (cO x) = .ptr r i o) (hes : c.hp r = some es) (hl : es[i]? = some l) (hlen : (ev tm (cO y)).cells.length = inf.size) (hle : o + inf.size ≤ l.length) (hone : (ev tm (cO y)).cells.all AV.one = true)
    {dst : Option Tmp} {type : TypeId} {pos : String} {after : Array Edge} {guard : Option (Nat × Bool)} :
    EGood P ⟨dst, .store t x y, type, pos, after, guard⟩ a c (.v undef) (hupd c.hp r (some (es.set i (spliceL l o (ev tm (cO y)).cells)))) nx := by
  have h1 := cO_rel ht x
  rw [hx] at h1
  have hr := cells_rel (cO_rel ht y) (not_agg_of_one hone)
  generalize hux : a.eval x = ux at h1
  cases h1 with
  | ptr hι hpm =>
    rename_i p
    obtain ⟨hF, cs, e, fz, h3, h4, h5, h6⟩ := hh.cells hes hι hpm
    obtain ⟨h7, h8⟩ := h6 i l hl
    have hsz : (a.eval y).cells.size = inf.size := by have := hr.1; simp at this; omega
    -- the row lies in the block
    have hrow : p.O + i * p.sz + l.length ≤ cs.size := by
      have hlast : l.length - 1 < l.length := by omega
      obtain ⟨u, h9, _⟩ := h8 (l.length - 1) _ (List.getElem?_eq_getElem hlast)
      have := (Array.getElem?_eq_some_iff.1 h9).1
      omega
    obtain ⟨w', cs', s1, s2, s3, s4, s5, s6⟩ := storeCells_run (P := P) (B := p.B) (o := p.O + i * p.sz + o) (a.eval y).cells.toList 0 c.w cs h3 (by simp; omega) (by intro k hk; rw [h4] at hk; exact h5 k hk) (one_cells hr hone)
    obtain ⟨g1, g2⟩ := write_rel hh hes hι h3 s2 (by
        have := congrArg List.length s3
        rw [length_spliceL _ _ _ (by simp; omega)] at this
        simpa using this) s4 s5 s6 (es' := es.set i (spliceL l o (ev tm (cO y)).cells)) (by
      intro k x hk
      rw [List.getElem?_set] at hk
      have hil := (List.getElem?_eq_some_iff.1 hl).1
      have hget : ∀ q, cs'[q]? = if p.O + i * p.sz + o ≤ q ∧ q < p.O + i * p.sz + o + inf.size then (a.eval y).cells.toList[q - (p.O + i * p.sz + o)]? else cs[q]? := by
        intro q
        rw [← getElem?_arr, s3, Nat.add_zero, getElem?_spliceL _ _ _ (by simp; omega)]
        simp only [Array.length_toList, hsz, getElem?_arr]
      split at hk
      · rename_i hik
        simp only [Option.some.injEq] at hk; subst hk; subst hik
        have hsl : (spliceL l o (ev tm (cO y)).cells).length = l.length := length_spliceL _ _ _ (by omega)
        refine ⟨hsl.trans h7, fun j av hj => ?_⟩
        rw [getElem?_spliceL _ _ _ (by omega)] at hj
        rw [hget]
        split at hj
        · rename_i hjo
          obtain ⟨u, h9, h10⟩ := hr.get hj
          refine ⟨u, ?_, h10⟩
          rw [if_pos (by omega), show p.O + i * p.sz + j - (p.O + i * p.sz + o) = j - o by omega]
          exact h9
        · rename_i hjo
          rw [if_neg (by omega)]
          exact h8 j av hj
      · rename_i hik
        obtain ⟨h9, h10⟩ := h6 k x hk
        refine ⟨h9, fun j av hj => ?_⟩
        rw [hget]
        have hjl := (List.getElem?_eq_some_iff.1 hj).1
        have hne : ¬ (p.O + i * p.sz + o ≤ p.O + k * p.sz + j ∧ p.O + k * p.sz + j < p.O + i * p.sz + o + inf.size) := by
          rintro ⟨q1, q2⟩
          rcases Nat.lt_or_gt_of_ne hik with hlt | hgt
          · have := Nat.mul_le_mul_right p.sz (Nat.succ_le_of_lt hlt)
            rw [Nat.succ_mul] at this; omega
          · have := Nat.mul_le_mul_right p.sz (Nat.succ_le_of_lt hgt)
            rw [Nat.succ_mul] at this; omega
        rw [if_neg hne]
        exact h10 j av hj)
    refine ⟨undef, w', c.ι, .inr ⟨?_, rfl⟩, g2, g1, .v _⟩
    have hsize : (sizeOf t).run P c.w = .ok inf.size c.w := by simp [sizeOf, typeInfo, hi]
    simp only [execOp, hux, Instr.storeAt, Instr.sureAddr, storeVar, Sem.run_bind, Sem.run_pure, Result.andThen_ok, hsize]
    simp only [ne_eq, hsz, not_true_eq_false, if_false, Sem.run_pure, Result.andThen_ok, Sem.run_bind]
    simp [s1]

end Go.Ai
