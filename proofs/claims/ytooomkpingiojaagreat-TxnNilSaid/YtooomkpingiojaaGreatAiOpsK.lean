/- Operations that make or change owned memory, all together. -/
import Derived.Test.YtooomkpingiojaaGreatAiOpsJ
namespace Go.Ai
set_option linter.unusedVariables false
set_option linter.unusedSimpArgs false

theorem bytes_rows (l : List UInt8) : ∀ (i : Nat) (x : List AV), (bytesOf l)[i]? = some x → x.length = 1 := by
  intro i x h
  simp only [bytesOf, List.getElem?_map, Option.map_eq_some_iff] at h
  obtain ⟨b, _, rfl⟩ := h; rfl

theorem bytes_flat (l : List UInt8) : (bytesOf l).flatten = l.map (fun b => AV.v (.int .u8 b.toNat)) := by
  simp only [bytesOf]
  induction l with
  | nil => rfl
  | cons a r ih => simp [ih]

theorem s2b_good {P : Program} {a : Act} {c : Cx} {nx : Nat} (hh : HRel c nx) {src dst' e : TypeId} {x : Operand} {l : List UInt8} (hs : P.underlying src = some .string) (hd : P.underlying dst' = some (.slice e)) (hu8 : P.underlying e = some (.int .u8))
    (hx : a.eval x = .string ⟨l.toArray⟩) {dst : Option Tmp} {type : TypeId} {pos : String} {after : Array Edge} {guard : Option (Nat × Bool)} :
    EGood P ⟨dst, .convert src dst' x, type, pos, after, guard⟩ a c (.sl nx 1 0 l.length none) (hupd c.hp nx (some (bytesOf l))) (nx + 1) := by
  let q : Question := .appendCap l.length 0 e
  let cap := q.cut (c.w.tape c.w.drawn q)
  have hcap : l.length ≤ cap := by show l.length ≤ l.length + _; omega
  let cs : Array Value := (l.map (fun b => Value.int .u8 b.toNat)).toArray ++ Array.replicate (cap - l.length) (.int .u8 0)
  have hcs : cs.size = cap := by simp [cs]; omega
  let w1 : World := { c.w with drawn := c.w.drawn + 1, heap := c.w.heap.push (.cells cs e) }
  have hsz : (⟨l.toArray⟩ : ByteArray).size = l.length := by simp [ByteArray.size]
  have hfreeze : (w1.freeze ⟨c.w.heap.size, cap, none⟩ 1).heap = c.w.heap.push (.cells cs e (cap, cap + 1)) := by
    apply Array.ext_getElem?
    intro j
    simp only [World.freeze, Nat.one_ne_zero, if_false, Array.getElem?_modify, w1]
    rw [Array.getElem?_push, Array.getElem?_push]
    by_cases hj : j = c.w.heap.size
    · subst hj; simp
    · simp only [hj, if_false]
      rw [if_neg (fun h => hj h.symm)]
  refine EGood.push hh (u := .slice (some ⟨c.w.heap.size, 0, none⟩) l.length cap) (w' := w1.freeze ⟨c.w.heap.size, cap, none⟩ 1) (cs := cs) (e := e) (fz := (cap, cap + 1)) (sz := 1) (.inl ?_) hfreeze rfl rfl rfl (by intro o h; rw [hcs] at h; simp only []; omega) ?_ ?_
  · have hforced : (Question.appendCap l.length 0 e).forced = false := rfl
    have hmap : (⟨l.toArray⟩ : ByteArray).data.map (fun b => Value.int .u8 b.toNat) = (l.map (fun b => Value.int .u8 b.toNat)).toArray := by simp
    simp only [execOp, hx, convert, Sem.run_bind, run_underlying hs, run_underlying hd, run_underlying hu8, Result.andThen_ok, Conv.stringToBytes, hsz, run_choose, hforced, Bool.false_eq_true, if_false, hmap, newRow, run_newObj, Sem.run_pure, markStringish, run_shape]
    have hshape : w1.shape? c.w.heap.size = some (e, cap) := by simp [World.shape?, w1, hcs]
    have hgo : World.shape? { heap := c.w.heap.push (.cells ((l.map (fun b => Value.int .u8 b.toNat)).toArray ++ Array.replicate (q.cut (c.w.tape c.w.drawn q) - l.length) (.int .u8 0)) e), tape := c.w.tape, drawn := c.w.drawn + 1, os := c.w.os, output := c.w.output } c.w.heap.size = some (e, cap) := hshape
    simp only [q] at hgo
    rw [hgo]
    simp [q, w1, cs, cap]
  · intro k y hy
    have hrel : LRel c (bytesOf l).flatten (l.map (fun b => Value.int .u8 b.toNat)) := by
      rw [bytes_flat]
      refine ⟨by simp, fun k av u h1 h2 => ?_⟩
      simp only [List.getElem?_map, Option.map_eq_some_iff] at h1 h2
      obtain ⟨b, hb, rfl⟩ := h1
      obtain ⟨b', hb', rfl⟩ := h2
      rw [hb] at hb'; simp only [Option.some.injEq] at hb'; subst hb'
      exact .v _
    obtain ⟨h5, h6⟩ := rows_of (bytes_rows l) hrel k y hy
    refine ⟨h5, fun j av hj => ?_⟩
    obtain ⟨u, h7, h8⟩ := h6 j av hj
    refine ⟨u, ?_, h8⟩
    have hlt := (List.getElem?_eq_some_iff.1 h7).1
    simp only [cs]
    rw [Array.getElem?_append_left (by simpa using hlt)]
    simpa using h7
  · intro c' hc'
    have hq : 0 + (0 + cap) * 1 = cs.size := by rw [hcs]; simp
    exact .sl hc' rfl (fun _ => by simp) hcap (fun m hm => by simp at hm) (fun _ => Nat.le_of_eq hq) (fun _ => hq) (Nat.zero_le _)

theorem mkslice_good {P : Program} {a : Act} {c : Cx} {nx : Nat} (hh : HRel c nx) {t e : TypeId} {i : TypeInfo} {zv : Value} {x y : Operand} {k1 k2 : IntKind} {n m : Int}
    (hu : P.underlying t = some (.slice e)) (hi : P.info? e = some i) (hzv : i.zero = some zv) (hzs : zv.cells.size = i.size) (hs0 : 0 < i.size)
    (hx : a.eval x = .int k1 n) (hy : a.eval y = .int k2 m) (h0 : 0 ≤ n) (hnm : n ≤ m) (hb : m * i.bytes ≤ 140737488355328) (hm : m ≤ 140737488355328)
    {dst : Option Tmp} {type : TypeId} {pos : String} {after : Array Edge} {guard : Option (Nat × Bool)} :
    EGood P ⟨dst, .makeSlice t x y, type, pos, after, guard⟩ a c (.sl nx i.size 0 n.toNat (some m.toNat)) (hupd c.hp nx (some (List.replicate m.toNat (zv.cells.toList.map ofV1)))) (nx + 1) := by
  have hwn := wrap_small h0 (by omega : n ≤ 140737488355328)
  have hwm := wrap_small (by omega : 0 ≤ m) hm
  let cs := (Array.range (m.toNat * i.size)).map (zv.cells[· % zv.cells.size]!)
  have hrel := zeroRows_rel c (len := m.toNat) hzs hs0
  have hcs : cs.size = m.toNat * i.size := by simp [cs]
  have hrows : ∀ (q : Nat) (l : List AV), (List.replicate m.toNat (zv.cells.toList.map ofV1))[q]? = some l → l.length = i.size := by
    intro q l h
    simp only [List.getElem?_replicate] at h
    split at h
    · simp only [Option.some.injEq] at h; subst h; simpa using hzs
    · simp at h
  refine EGood.push hh (u := .slice (some ⟨c.w.heap.size, 0, none⟩) n.toNat m.toNat) (w' := { c.w with heap := c.w.heap.push (.cells cs e) }) (cs := cs) (e := e) (fz := (0, 0)) (sz := i.size) (.inl ?_) rfl rfl rfl rfl (by intro o h; simp) ?_ ?_
  · have hti : ∀ w', (typeInfo e).run P w' = .ok i w' := fun w' => by simp [typeInfo, hi]
    have hsz : ∀ w', (sizeOf e).run P w' = .ok i.size w' := fun w' => by simp [sizeOf, typeInfo, hi]
    have hze : ∀ w', (zeroValue e).run P w' = .ok zv w' := fun w' => by simp [zeroValue, typeInfo, hi, hzv]
    have h48 : (2 : Int) ^ 48 = 281474976710656 := by decide
    have hcomm : (i.bytes : Int) * m = m * i.bytes := Int.mul_comm _ _
    have htl : (decide (m < 0) || decide ((i.bytes : Int) * m > 2 ^ 48)) = false := by
      simp only [Bool.or_eq_false_iff, decide_eq_false_iff_not]
      rw [hcomm, h48]; omega
    simp only [execOp, Instr.makeSlice, Sem.run_bind, run_underlying hu, hx, hy, asInt, asIntOf, Sem.run_pure, Result.andThen_ok, hti, hwn, hwm, htl]
    rw [if_neg (by simp; omega)]
    have hz2 : (if m.toNat * i.size = 0 then pure #[] else do pure (← zeroValue e).cells : Sem (Array Value)).run P c.w = .ok (if m.toNat * i.size = 0 then #[] else zv.cells) c.w := by
      split
      · rfl
      · simp only [Sem.run_bind, hze, Result.andThen_ok, Sem.run_pure]
    simp only [Sem.run_bind, run_askRoom, Result.andThen_ok, hsz]
    by_cases h00 : m.toNat * i.size = 0
    · have hcs0 : cs = #[] := by simp only [cs, h00]; simp [Array.range_zero']
      simp [h00, newRow, hcs0, Array.range_zero']
    · simp only [h00, if_false, Sem.run_bind, hze, Result.andThen_ok, Sem.run_pure, newRow, run_newObj]
      rfl
  · intro k l hl
    obtain ⟨h5, h6⟩ := rows_of hrows hrel k l hl
    exact ⟨h5, fun j av hj => let ⟨u, h7, h8⟩ := h6 j av hj; ⟨u, by rw [← getElem?_arr]; exact h7, h8⟩⟩
  · intro c' hc'
    exact .sl hc' rfl (fun _ => by simp) (by omega) (fun q hq => by simp only [Option.some.injEq] at hq; exact hq.symm) (fun _ => by simp [hcs]) (fun h => by simp at h) (Nat.zero_le _)

theorem copy_good {P : Program} {a : Act} {c : Cx} {nx : Nat} (hh : HRel c nx) {ts : Array TypeId} {t e : TypeId} {inf : TypeInfo} {args : Array Operand} {d s : Operand} {tm : Nat → AV} (ht : TRel c tm a) {src : Blk} {r i len : Nat} {cap : Option Nat} {es : Blk}
    (h0 : ts[0]? = some t) (hu : P.underlying t = some (.slice e)) (hi : P.info? e = some inf) (hargs : args.toList = [d, s])
    (hsrc : elemsA c.hp inf.size (ev tm (cO s)) = some src) (hd : ev tm (cO d) = .sl r inf.size i len cap) (hes : c.hp r = some es) (hin : i + len ≤ es.length) (hone : (src.take len).all (fun l => l.all AV.one) = true)
    {dst : Option Tmp} {type : TypeId} {pos : String} {after : Array Edge} {guard : Option (Nat × Bool)} :
    EGood P ⟨dst, .call ⟨.builtin .copy, args, ts⟩, type, pos, after, guard⟩ a c (.int .i64 (Nat.min src.length len)) (hupd c.hp r (some (spliceL es i (src.take len)))) nx := by
  have hm := map_pair (f := a.eval) hargs
  have h1 := cO_rel ht d
  have h2 := cO_rel ht s
  rw [hd] at h1
  generalize hud : a.eval d = ud at h1 hm
  generalize hus : a.eval s = us at h2 hm
  obtain ⟨e1, e2, e3⟩ := elems_run (P := P) hh h2 hsrc
  cases h1 with
  | sl hι hps ha hl hcap hN hE hpm =>
    rename_i m p ad
    obtain ⟨hF, cs, ee, fz, g3, g4, g5, g6⟩ := hh.cells hes hι hpm
    have hmin : Nat.min src.length len ≤ src.length := Nat.min_le_left _ _
    have hmin2 : Nat.min src.length len ≤ len := Nat.min_le_right _ _
    obtain ⟨ys, y1, y2⟩ := e3 (Nat.min src.length len) hmin
    have y1 := y1 c.w rfl
    have htake : src.take (Nat.min src.length len) = src.take len := by
      rw [List.take_eq_take_iff]
      show min (min src.length len) src.length = min len src.length
      omega
    rw [htake] at y2
    have hrowsT : ∀ (k : Nat) (l : List AV), (src.take len)[k]? = some l → l.length = inf.size := by
      intro k l hk
      rw [List.getElem?_take] at hk
      split at hk
      · exact e2 k l hk
      · simp at hk
    have hylen : ys.length = Nat.min src.length len * inf.size := by
      have := y2.1
      rw [flat_length _ hrowsT] at this
      rw [← this]
      congr 1
      simp only [List.length_take]
      show min len src.length = min src.length len
      omega
    have hexec : ∀ w', (match some ad with | some ad => storeCells ad ys | none => pure () : Sem Unit).run P c.w = .ok () w' → RunsTo P ⟨dst, .call ⟨.builtin .copy, args, ts⟩, type, pos, after, guard⟩ a c.w (.int .i64 (Nat.min src.length len)) w' := by
      intro w' hw'
      refine .inl (builtin_exec ?_)
      rw [hm]
      have hsz : (sizeOf e).run P c.w = .ok inf.size c.w := by simp [sizeOf, typeInfo, hi]
      have hrun : (Builtin.copy_ ts type #[.slice (some ad) len m, us]).run P c.w = .ok (goInt (Nat.min src.length len)) w' := by
        unfold Builtin.copy_
        rw [h0, show (#[Value.slice (some ad) len m, us] : Array Value)[0]? = some (.slice (some ad) len m) from rfl, show (#[Value.slice (some ad) len m, us] : Array Value)[1]? = some us from rfl]
        simp only [Sem.run_bind, run_underlying hu, e1, Result.andThen_ok, hsz, y1, Sem.run_pure]
        simp only at hw'
        simp [hw']
      simp only [builtin, Sem.run_bind, hrun, Result.andThen_ok, Sem.run_pure, goInt]
    have honeT : ∀ v ∈ ys, v.oneCell' = true := one_cells y2 (by
      rw [List.all_eq_true] at hone ⊢
      intro y hy
      obtain ⟨l, hl1, hl2⟩ := List.mem_flatten.1 hy
      exact List.all_eq_true.1 (hone l hl1) y hl2)
    by_cases hz : ys = []
    · -- nothing goes over
      have hsame : spliceL es i (src.take len) = es ∨ inf.size = 0 := by
        rw [hz] at hylen
        rcases Nat.mul_eq_zero.1 hylen.symm with h | h
        · left
          have : src.take len = [] := by
            rw [← htake]
            have h' : Nat.min src.length len = 0 := h
            rw [h']; rfl
          rw [this, spliceL_nil]
        · right; exact h
      rcases hsame with hsame | h0s
      · refine ⟨_, c.w, c.ι, hexec c.w (by rw [hz]; rfl), ?_, ?_, .v _⟩
        · rw [hsame]
          have : hupd c.hp r (some es) = c.hp := by
            funext q; unfold hupd; split
            · rename_i h; rw [h, hes]
            · rfl
          rw [this]; exact Ext.refl c
        · rw [hsame]
          have : hupd c.hp r (some es) = c.hp := by
            funext q; unfold hupd; split
            · rename_i h; rw [h, hes]
            · rfl
          rw [this]; exact hh
      · -- no cells at all
        obtain ⟨k1, k2⟩ := write_rel hh hes hι g3 (w' := c.w) (cs' := cs) (setIfInBounds_same _ _ _ g3).symm rfl rfl rfl rfl (es' := spliceL es i (src.take len)) (by
          intro k l hk
          have hlt : i + (src.take len).length ≤ es.length := by simp; omega
          rw [getElem?_spliceL _ _ _ hlt] at hk
          split at hk
          · have h9 := hrowsT _ l hk
            refine ⟨by rw [h9, hps], fun j av hj => ?_⟩
            have := (List.getElem?_eq_some_iff.1 hj).1
            omega
          · exact g6 k l hk)
        exact ⟨_, c.w, c.ι, hexec c.w (by rw [hz]; rfl), k2, k1, .v _⟩
    · have hs0 : 0 < inf.size ∧ 0 < Nat.min src.length len := by
        have : 0 < ys.length := List.length_pos_iff.2 hz
        rw [hylen] at this
        exact ⟨Nat.pos_of_mul_pos_left this, Nat.pos_of_mul_pos_right this⟩
      have hm0 : m ≠ 0 := by omega
      have had := ha hm0
      have hle : p.O + i * inf.size + ys.length ≤ cs.size := by
        rw [g4, hylen]
        have := hN hm0
        have h9 : i * inf.size + Nat.min src.length len * inf.size ≤ (i + m) * inf.size := by
          rw [← Nat.add_mul]; exact Nat.mul_le_mul_right _ (by omega)
        omega
      obtain ⟨w', cs', s1, s2, s3, s4, s5, s6⟩ := storeCells_run (P := P) (B := p.B) (o := p.O + i * inf.size) ys 0 c.w cs g3 (by omega) (by intro k hk; rw [g4] at hk; exact g5 k hk) honeT
      rw [Nat.add_zero] at s3
      have hget : ∀ q, cs'[q]? = if p.O + i * inf.size ≤ q ∧ q < p.O + i * inf.size + ys.length then ys[q - (p.O + i * inf.size)]? else cs[q]? := by
        intro q
        rw [← getElem?_arr, s3, getElem?_spliceL _ _ _ (by simpa using hle)]
        simp only [getElem?_arr]
      have hTlen : (src.take len).length = Nat.min src.length len := by
        simp only [List.length_take]
        show min len src.length = min src.length len
        omega
      obtain ⟨k1, k2⟩ := write_rel hh hes hι g3 s2 (by
          have := congrArg List.length s3
          rw [length_spliceL _ _ _ (by simpa using hle)] at this
          simpa using this) s4 s5 s6 (es' := spliceL es i (src.take len)) (by
        intro k l hk
        have hlt : i + (src.take len).length ≤ es.length := by omega
        rw [getElem?_spliceL _ _ _ hlt] at hk
        split at hk
        · rename_i hkr
          obtain ⟨h7, h8⟩ := rows_of hrowsT y2 _ l hk
          refine ⟨h7.trans hps.symm, fun j av hj => ?_⟩
          obtain ⟨u, h9, h10⟩ := h8 j av hj
          refine ⟨u, ?_, h10⟩
          have hjl := (List.getElem?_eq_some_iff.1 hj).1
          rw [hps, hget]
          have hq : p.O + k * inf.size + j = p.O + i * inf.size + ((k - i) * inf.size + j) := by
            have : k * inf.size = i * inf.size + (k - i) * inf.size := by rw [← Nat.add_mul]; congr 1; omega
            omega
          have hlt2 : (k - i) * inf.size + j < ys.length := (List.getElem?_eq_some_iff.1 h9).1
          rw [if_pos (by omega), hq, Nat.add_sub_cancel_left]; exact h9
        · rename_i hkr
          obtain ⟨h7, h8⟩ := g6 k l hk
          refine ⟨h7, fun j av hj => ?_⟩
          have hjl := (List.getElem?_eq_some_iff.1 hj).1
          rw [hget, if_neg]
          · exact h8 j av hj
          · rintro ⟨q1, q2⟩
            rw [hps] at q1 q2 h7
            rw [hylen] at q2
            rcases Nat.lt_or_ge k i with hlt | hge
            · have := Nat.mul_le_mul_right inf.size (Nat.succ_le_of_lt hlt)
              rw [Nat.succ_mul] at this; omega
            · have hk2 : i + Nat.min src.length len ≤ k := by omega
              have := Nat.mul_le_mul_right inf.size hk2
              rw [Nat.add_mul] at this; omega)
      exact ⟨_, w', c.ι, hexec w' (by subst had; exact s1), k2, k1, .v _⟩

end Go.Ai
