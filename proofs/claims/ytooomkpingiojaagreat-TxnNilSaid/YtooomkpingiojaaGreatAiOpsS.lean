/- The pure operations, all together. -/
import Derived.Test.YtooomkpingiojaaGreatAiOpsR
namespace Go.Ai
set_option linter.unusedVariables false
set_option linter.unusedSimpArgs false

theorem flatten_set {α : Type} {sz : Nat} : ∀ (zero : List (List α)) (i : Nat) (cells : List α), i < zero.length → (∀ (i : Nat) (l : List α), zero[i]? = some l → l.length = sz) → cells.length = sz →
    (zero.set i cells).flatten = spliceL zero.flatten (i * sz) cells
  | [], i, cells, h, _, _ => by simp at h
  | l :: r, 0, cells, h, hz, hc => by
    have hl := hz 0 l rfl
    simp [spliceL, hc, ← hl]
  | l :: r, i + 1, cells, h, hz, hc => by
    have hl := hz 0 l rfl
    have ih := flatten_set r i cells (by simpa using h) (fun i l h => hz (i + 1) l h) hc
    simp only [List.set_cons_succ, List.flatten_cons, ih, spliceL]
    rw [show (i + 1) * sz = l.length + i * sz by rw [hl, Nat.add_mul]; omega, List.take_length_add_append, Nat.add_assoc, List.drop_length_add_append]
    simp

theorem flat_get {α : Type} {sz : Nat} : ∀ (es : List (List α)) (i j : Nat) (l : List α) (x : α), (∀ (i : Nat) (l : List α), es[i]? = some l → l.length = sz) → es[i]? = some l → l[j]? = some x → es.flatten[i * sz + j]? = some x
  | [], i, j, l, x, _, h, _ => by simp at h
  | e :: r, 0, j, l, x, hz, h, hj => by
    simp at h; subst h
    have := (List.getElem?_eq_some_iff.1 hj).1
    simp only [List.flatten_cons, Nat.zero_mul, Nat.zero_add]
    rw [List.getElem?_append_left this]; exact hj
  | e :: r, i + 1, j, l, x, hz, h, hj => by
    have hl := hz 0 e rfl
    have ih := flat_get r i j l x (fun i l h => hz (i + 1) l h) (by simpa using h) hj
    simp only [List.flatten_cons]
    rw [show (i + 1) * sz + j = e.length + (i * sz + j) by rw [hl, Nat.add_mul]; omega, List.getElem?_append_right (by omega)]
    simpa using ih

theorem flat_length {α : Type} {sz : Nat} : ∀ (es : List (List α)), (∀ (i : Nat) (l : List α), es[i]? = some l → l.length = sz) → es.flatten.length = es.length * sz
  | [], _ => by simp
  | e :: r, hz => by
    have hl := hz 0 e rfl
    have ih := flat_length r (fun i l h => hz (i + 1) l h)
    simp only [List.flatten_cons, List.length_append, List.length_cons, ih, hl, Nat.add_mul]; omega

theorem fillS_run {c : Cx} {sz n : Nat} : ∀ {parts : List (Nat × AV)} {cparts : List (Nat × Value)} {zero : List (List AV)} {czero : Array Value} {es : List (List AV)},
    parts.length = cparts.length → (∀ (k : Nat) (p : Nat × AV) (q : Nat × Value), parts[k]? = some p → cparts[k]? = some q → q.1 = p.1 ∧ VRel c p.2 q.2) →
    zero.length = n → (∀ (i : Nat) (l : List AV), zero[i]? = some l → l.length = sz) → LRel c zero.flatten czero.toList → fillS sz zero parts = some es →
    ∃ ccells, Instr.fill (fun i => some (i * sz, sz)) czero cparts = some ccells ∧ es.length = n ∧ (∀ (i : Nat) (l : List AV), es[i]? = some l → l.length = sz) ∧ LRel c es.flatten ccells.toList
  | [], [], zero, czero, es, _, _, hn, hz, hr, h => by
    simp only [fillS, Option.some.injEq] at h; subst h
    exact ⟨czero, rfl, hn, hz, hr⟩
  | [], _ :: _, _, _, _, hl, _, _, _, _, _ => by simp at hl
  | _ :: _, [], _, _, _, hl, _, _, _, _, _ => by simp at hl
  | (i, x) :: r, (i', u) :: r', zero, czero, es, hl, hp, hn, hz, hr, h => by
    simp only [fillS] at h
    split at h
    · rename_i hc
      obtain ⟨hxs, hlt, hone⟩ := hc
      have hxs : x.cells.length = sz := hxs
      have hlt : i < zero.length := hlt
      obtain ⟨hii, hv⟩ := hp 0 (i, x) (i', u) rfl rfl
      simp only at hii; subst hii
      have hcr := cells_rel hv (not_agg_of_one hone)
      have hu : u.cells.size = sz := by have := hcr.1; simp at this; omega
      have hfl := flat_length zero hz
      have hcs : czero.size = zero.length * sz := by have := hr.1; simp only [Array.length_toList] at this; omega
      have hle : i' * sz + sz ≤ zero.length * sz := by
        have : (i' + 1) * sz ≤ zero.length * sz := Nat.mul_le_mul_right _ hlt
        rw [Nat.add_mul] at this; omega
      have hfold := foldl_cells u.cells.toList (i' * sz) czero (by simp; omega)
      have hr' : LRel c (zero.set i' x.cells).flatten (u.cells.zipIdx.foldl (fun cs (p : Value × Nat) => cs.setIfInBounds (i' * sz + p.2) p.1) czero).toList := by
        have : (u.cells.zipIdx.foldl (fun cs (p : Value × Nat) => cs.setIfInBounds (i' * sz + p.2) p.1) czero) = (u.cells.toList.zipIdx.foldl (fun (a : Array Value) (p : Value × Nat) => a.setIfInBounds (i' * sz + p.2) p.1) czero) := by
          rw [← Array.foldl_toList, Array.toList_zipIdx]
        rw [this, hfold, flatten_set zero i' x.cells hlt hz hxs]
        exact hr.splice hcr (by rw [hxs, hfl]; exact hle)
      obtain ⟨cc, h1, h2⟩ := fillS_run (parts := r) (cparts := r') (zero := zero.set i' x.cells) (by simpa using hl) (fun k p q h1 h2 => hp (k + 1) p q h1 h2) (by simpa using hn)
        (fun k l hk => by
          rw [List.getElem?_set] at hk
          split at hk
          · simp only [Option.some.injEq] at hk; subst hk; exact hxs
          · exact hz k l hk) hr' h
      refine ⟨cc, ?_, h2⟩
      simp only [Instr.fill]
      rw [if_neg (by simp [hu, hcs]; omega)]
      exact h1
    · simp at h

theorem zero_rel (c : Cx) {z : Value} {n : Nat} (h : z.cells.size = n) : LRel c (z.cells.toList.map ofV1) z.cells.toList := by
  refine ⟨by simp, fun k av u h1 h2 => ?_⟩
  simp only [List.getElem?_map, h2, Option.map_some, Option.some.injEq] at h1
  subst h1; exact ofV1_rel c u

theorem zeroOf_spec {P : Program} {t : TypeId} {z : List AV} (h : zeroOf P t = some z) : ∃ i zv, P.info? t = some i ∧ i.zero = some zv ∧ zv.cells.size = i.size ∧ z = zv.cells.toList.map ofV1 := by
  unfold zeroOf at h
  split at h
  · rename_i i hi
    split at h
    · rename_i zv hz
      split at h
      · rename_i hs
        simp only [Option.some.injEq] at h
        exact ⟨i, zv, hi, hz, hs, h.symm⟩
      · simp at h
    · simp at h
  · simp at h

/-- The zero rows of a slice's literal. -/
theorem zeroRows_rel (c : Cx) {z : Value} {sz len : Nat} (hz : z.cells.size = sz) (hs : 0 < sz) :
    LRel c (List.replicate len (z.cells.toList.map ofV1)).flatten ((Array.range (len * sz)).map (z.cells[· % z.cells.size]!)).toList := by
  have hlen : ∀ (i : Nat) (l : List AV), (List.replicate len (z.cells.toList.map ofV1))[i]? = some l → l.length = sz := by
    intro i l h
    simp only [List.getElem?_replicate] at h
    split at h
    · simp only [Option.some.injEq] at h; subst h; simpa using hz
    · simp at h
  refine ⟨by rw [flat_length _ hlen]; simp, fun k av u h1 h2 => ?_⟩
  simp only [Array.toList_map, List.getElem?_map, Option.map_eq_some_iff] at h2
  obtain ⟨k', hk', rfl⟩ := h2
  have hk : k < len * sz ∧ k' = k := by
    have := List.getElem?_eq_some_iff.1 hk'
    obtain ⟨h5, h6⟩ := this
    simp at h5 h6; exact ⟨h5, h6.symm⟩
  obtain ⟨hk, rfl⟩ := hk
  have hq : k' / sz < len := by rw [Nat.div_lt_iff_lt_mul hs]; exact hk
  have hr : k' % sz < sz := Nat.mod_lt _ hs
  have hr' : k' % sz < z.cells.size := by omega
  have h3 := flat_get (sz := sz) _ (k' / sz) (k' % sz) (z.cells.toList.map ofV1) (ofV1 z.cells[k' % sz]) hlen (by simp [List.getElem?_replicate, hq]) (by simp [List.getElem?_eq_getElem, hr'])
  rw [Nat.mul_comm, Nat.div_add_mod, h1, Option.some.injEq] at h3
  subst h3
  rw [hz, getElem!_pos z.cells (k' % sz) hr']
  exact ofV1_rel c _

theorem run_equalIn_slice_nil {P : Program} {w : World} (d : Nat) {t e : TypeId} (h : P.underlying t = some (.slice e)) (ad : Option Addr) (n m : Nat) : (Op.equalIn (d + 1) t (.slice ad n m) (.slice none 0 0)).run P w = .ok ad.isNone w := by
  cases ad <;> simp [Op.equalIn, run_underlying h]

theorem run_equalIn_ptr_nil {P : Program} {w : World} (d : Nat) {t e : TypeId} (h : P.underlying t = some (.pointer e)) (ad : Option Addr) : (Op.equalIn (d + 1) t (.pointer ad) (.pointer none)).run P w = .ok ad.isNone w := by
  cases ad <;> simp [Op.equalIn, run_underlying h]
theorem run_equalIn_ptr_same {P : Program} {w : World} (d : Nat) {t e : TypeId} {j : TypeInfo} (h : P.underlying t = some (.pointer e)) (hj : P.info? e = some j) (ad : Addr) : (Op.equalIn (d + 1) t (.pointer (some ad)) (.pointer (some ad))).run P w = .ok true w := by
  simp [Op.equalIn, run_underlying h, sizeOf, typeInfo, hj, run_sameAddr_same]

theorem fold_push : ∀ (ns : List Int) (s : ByteArray), (ns.foldl (fun r n => r.push (UInt8.ofNat n.toNat)) s).data.toList = s.data.toList ++ ns.map (fun n => UInt8.ofNat n.toNat)
  | [], s => by simp
  | n :: r, s => by
    simp only [List.foldl_cons, List.map_cons]
    rw [fold_push r]
    simp [ByteArray.push]

theorem toBytes_spec : ∀ {es : Blk} {l : List UInt8}, toBytes es = some l → ∃ ns : List Int, es = ns.map (fun n => [.v (.int .u8 n)]) ∧ l = ns.map (fun n => UInt8.ofNat n.toNat)
  | [], l, h => by simp only [toBytes, Option.some.injEq] at h; exact ⟨[], rfl, h.symm⟩
  | c :: r, l, h => by
    simp only [toBytes] at h
    split at h
    · rename_i b l' hb hr
      simp only [Option.some.injEq] at h
      obtain ⟨ns, h1, h2⟩ := toBytes_spec hr
      unfold byteCell at hb
      split at hb
      · rename_i n
        simp only [Option.some.injEq] at hb
        exact ⟨n :: ns, by simp [h1], by rw [← h, ← hb, h2]; rfl⟩
      · simp at hb
    · simp at h

theorem compParts_length {P : Program} {fs : Array Field} : ∀ {parts : List (Nat × Operand)} {cps : List (Nat × Nat × Opd)}, compParts P fs parts = some cps → cps.length = parts.length
  | [], cps, h => by simp only [compParts, Option.some.injEq] at h; subst h; rfl
  | (i, x) :: r, cps, h => by
    simp only [compParts] at h
    split at h
    · split at h
      · rename_i j l hj hl
        simp only [Option.some.injEq] at h; subst h
        simp [compParts_length hl]
      · simp at h
    · simp at h

theorem compParts_rel {P : Program} {fs : Array Field} {c : Cx} {tm : Nat → AV} {a : Act} {places : Array (Nat × Nat)} : ∀ {parts : List (Nat × Operand)} {cps : List (Nat × Nat × Opd)}, compParts P fs parts = some cps →
    (∀ (k : Nat) (f : Field) (j : TypeInfo), fs[k]? = some f → P.info? f.type = some j → places[k]? = some (f.offset, j.size)) → TRel c tm a →
    ∀ (k : Nat) (p : Nat × Nat × AV) (q : Nat × Value), (cps.map fun p => (p.1, p.2.1, ev tm p.2.2))[k]? = some p → (parts.map fun p => (p.1, a.eval p.2))[k]? = some q → places[q.1]? = some (p.1, p.2.1) ∧ VRel c p.2.2 q.2
  | [], cps, h, _, _, k, p, q, _, h2 => by simp at h2
  | (i, x) :: r, cps, h, hpl, ht, k, p, q, h1, h2 => by
    simp only [compParts] at h
    split at h
    · rename_i f hf
      split at h
      · rename_i j l hj hl
        simp only [Option.some.injEq] at h; subst h
        cases k with
        | zero =>
          simp only [List.map_cons, List.getElem?_cons_zero, Option.some.injEq] at h1 h2
          subst h1; subst h2
          exact ⟨hpl i f j hf hj, cO_rel ht x⟩
        | succ k =>
          simp only [List.map_cons, List.getElem?_cons_succ] at h1 h2
          exact compParts_rel hl hpl ht k p q h1 h2
      · simp at h
    · simp at h

theorem places_run {P : Program} {w : World} (fs : Array Field) (hall : fs.all (fun f => (P.info? f.type).isSome) = true) :
    ∃ places : Array (Nat × Nat), ((fs.mapM fun f => do pure (f.offset, ← sizeOf f.type)) : Sem (Array (Nat × Nat))).run P w = .ok places w ∧
      (∀ (k : Nat) (f : Field) (j : TypeInfo), fs[k]? = some f → P.info? f.type = some j → places[k]? = some (f.offset, j.size)) := by
  have key : ∀ (l : List Field), (∀ f ∈ l, (P.info? f.type).isSome) → ((l.mapM fun f => do pure (f.offset, ← sizeOf f.type)) : Sem (List (Nat × Nat))).run P w = .ok (l.map fun f => (f.offset, P.cellsOf f.type)) w := by
    intro l
    induction l with
    | nil => intro _; rfl
    | cons f r ih =>
      intro h
      have h1 := h f (by simp)
      obtain ⟨i, hi⟩ := Option.isSome_iff_exists.1 h1
      have ih := ih (fun g hg => h g (by simp [hg]))
      have hs : (sizeOf f.type).run P w = .ok (P.cellsOf f.type) w := by simp [sizeOf, typeInfo, hi, Program.cellsOf]
      simp only [List.mapM_cons, Sem.run_bind, hs, Result.andThen_ok, Sem.run_pure, ih, List.map_cons]
  have hl := key fs.toList (fun f hf => by
    rw [Array.all_eq_true_iff_forall_mem] at hall
    exact hall f (by simpa using hf))
  refine ⟨(fs.toList.map fun f => (f.offset, P.cellsOf f.type)).toArray, ?_, ?_⟩
  · rw [Array.mapM_eq_mapM_toList]
    simp only [Sem.run_map, hl, Result.andThen_ok]
  · intro k f j hf hj
    simp [hf, Program.cellsOf, hj]

theorem bslice_run {P : Program} {c : Cx} {tm : Nat → AV} {a : Act} {sz n : Nat} {zv : Value} {parts : Array (Nat × Operand)} {es : List (List AV)} (hs : 0 < sz) (hz : zv.cells.size = sz) (ht : TRel c tm a)
    (h : fillS sz (List.replicate n (zv.cells.toList.map ofV1)) ((parts.toList.map fun p => (p.1, cO p.2)).map fun p => (p.1, ev tm p.2)) = some es) :
    ∃ cc, Instr.fill (fun i => some (i * sz, sz)) ((Array.range (n * sz)).map (zv.cells[· % zv.cells.size]!)) (parts.toList.map fun p => (p.1, a.eval p.2)) = some cc ∧ es.length = n ∧ (∀ (i : Nat) (l : List AV), es[i]? = some l → l.length = sz) ∧ LRel c es.flatten cc.toList := by
  refine fillS_run (n := n) ?_ ?_ (by simp) ?_ (zeroRows_rel c hz hs) h
  · simp
  · intro k p q h1 h2
    simp only [List.map_map, List.getElem?_map, Option.map_eq_some_iff, Function.comp_apply] at h1 h2
    obtain ⟨y, hy, rfl⟩ := h1
    obtain ⟨y', hy', rfl⟩ := h2
    rw [hy] at hy'; simp only [Option.some.injEq] at hy'; subst hy'
    exact ⟨rfl, cO_rel ht y.2⟩
  · intro i l hl
    simp only [List.getElem?_replicate] at hl
    split at hl
    · simp only [Option.some.injEq] at hl; subst hl; simpa using hz
    · simp at hl

theorem bslice_exec {P : Program} {w : World} {a : Act} {t e : TypeId} {i : TypeInfo} {zv : Value} {n : Nat} {parts : Array (Nat × Operand)} {cc : Array Value} {dst : Option Tmp} {type : TypeId} {pos : String} {after : Array Edge} {guard : Option (Nat × Bool)}
    (hu : P.underlying t = some (.slice e)) (hi : P.info? e = some i) (hzv : i.zero = some zv) (hs0 : 0 < i.size) (hlim : n * i.size ≤ 16777216)
    (h1 : Instr.fill (fun k => some (k * i.size, i.size)) ((Array.range (n * i.size)).map (zv.cells[· % zv.cells.size]!)) (parts.toList.map fun p => (p.1, a.eval p.2)) = some cc) :
    (execOp a.eval ⟨dst, .buildSlice t n parts, type, pos, after, guard⟩).run P w = .ok (.value (.slice (some ⟨w.heap.size, 0, none⟩) n n)) { w with heap := w.heap.push (.cells cc e) } := by
  have hmap : (parts.map fun (i, x) => (i, a.eval x)).toList = parts.toList.map fun p => (p.1, a.eval p.2) := by simp
  have hlim' : ¬ (n * i.size > 2 ^ 24) := by omega
  simp only [execOp, Instr.buildSlice, Sem.run_bind, run_underlying hu, Result.andThen_ok, hmap]
  by_cases h0 : n * i.size = 0
  · have hn : n = 0 := by
      rcases Nat.mul_eq_zero.1 h0 with h | h
      · exact h
      · omega
    subst hn
    simp only [Nat.zero_mul] at h1
    have h1' : Instr.fill (fun k => some (k * i.size, i.size)) #[] (parts.toList.map fun p => (p.1, a.eval p.2)) = some cc := by simpa [Array.range_zero'] using h1
    simp [sizeOf, typeInfo, hi, newRow, Array.range_zero', h1']
  · simp [sizeOf, typeInfo, hi, hlim', h0, zeroValue, hzv, h1, newRow]

theorem map_two {α β : Type} {f : α → β} {xs : Array α} {x : α} (h : xs.toList = [x]) : xs.map f = #[f x] := by
  have : xs = #[x] := Array.toList_inj.1 (by simpa using h)
  subst this; simp
theorem map_pair {α β : Type} {f : α → β} {xs : Array α} {x y : α} (h : xs.toList = [x, y]) : xs.map f = #[f x, f y] := by
  have : xs = #[x, y] := Array.toList_inj.1 (by simpa using h)
  subst this; simp

theorem run_len_str {P : Program} {w : World} {ts : Array TypeId} {t ty : TypeId} (h0 : ts[0]? = some t) (h : P.underlying t = some .string) (b : ByteArray) :
    (Builtin.len_ ts ty #[.string b]).run P w = .ok (.int .i64 b.size) w := by
  unfold Builtin.len_
  rw [h0, show (#[Value.string b] : Array Value)[0]? = some (.string b) from rfl]
  simp only [Sem.run_bind, run_underlying h, Result.andThen_ok, Sem.run_pure, goInt]
theorem run_len_sl {P : Program} {w : World} {ts : Array TypeId} {t ty e : TypeId} (h0 : ts[0]? = some t) (h : P.underlying t = some (.slice e)) (ad : Option Addr) (n m : Nat) :
    (Builtin.len_ ts ty #[.slice ad n m]).run P w = .ok (.int .i64 n) w := by
  unfold Builtin.len_
  rw [h0, show (#[Value.slice ad n m] : Array Value)[0]? = some (.slice ad n m) from rfl]
  simp only [Sem.run_bind, run_underlying h, Result.andThen_ok, Sem.run_pure, goInt]
theorem run_cap_sl {P : Program} {w : World} {ts : Array TypeId} {t ty e : TypeId} (h0 : ts[0]? = some t) (h : P.underlying t = some (.slice e)) (ad : Option Addr) (n m : Nat) :
    (Builtin.cap_ ts ty #[.slice ad n m]).run P w = .ok (.int .i64 m) w := by
  unfold Builtin.cap_
  rw [h0, show (#[Value.slice ad n m] : Array Value)[0]? = some (.slice ad n m) from rfl]
  simp only [Sem.run_bind, run_underlying h, Result.andThen_ok, Sem.run_pure, goInt]

theorem builtin_exec {P : Program} {w : World} {a : Act} {b : Builtin} {args : Array Operand} {ts : Array TypeId} {dst : Option Tmp} {type : TypeId} {pos : String} {after : Array Edge} {guard : Option (Nat × Bool)} {u : Value} {w' : World}
    (h : (builtin b ts type (args.map fun | .const _ => true | _ => false) (args.map a.eval)).run P w = .ok (.value u) w') :
    (execOp a.eval ⟨dst, .call ⟨.builtin b, args, ts⟩, type, pos, after, guard⟩).run P w = .ok (.value u) w' := by
  simp only [execOp, resolve, Sem.run_bind, Sem.run_pure, Result.andThen_ok, invoke]
  exact h

theorem evP_builtin {P : Program} {b : Builtin} {args : Array Operand} {ts : Array TypeId} {dst : Option Tmp} {type : TypeId} {pos : String} {after : Array Edge} {guard : Option (Nat × Bool)} {co : COp} {tm : Nat → AV} {a : Act} {c : Cx} {v : AV} {nx : Nat}
    (hco : compBuiltin P b args.toList ts = some co) (he : evP tm co = some v) (ht : TRel c tm a) (hh : HRel c nx) :
    PGood P ⟨dst, .call ⟨.builtin b, args, ts⟩, type, pos, after, guard⟩ a c v := by
  have go : ∀ {u : Value}, (builtin b ts type (args.map fun | .const _ => true | _ => false) (args.map a.eval)).run P c.w = .ok (.value u) c.w → VRel c v u → PGood P ⟨dst, .call ⟨.builtin b, args, ts⟩, type, pos, after, guard⟩ a c v :=
    fun h hv => .same (builtin_exec h) hv
  unfold compBuiltin at hco
  split at hco
  · -- unsafe.SliceData
    rename_i x hargs
    have hm := map_two (f := a.eval) hargs
    have h1 := cO_rel ht x
    simp only [Option.some.injEq] at hco; subst hco
    simp only [evP] at he
    split at he
    · rename_i z es cp hx
      simp only [Option.some.injEq] at he; subst he
      rw [hx] at h1
      generalize e1 : a.eval x = u1 at h1
      cases h1 with
      | nil hc =>
        refine go (u := .pointer none) ?_ (.v _)
        rw [hm, e1]
        simp only [builtin, Sem.run_bind, Lib.run_unsafeSliceData_nil, Result.andThen_ok, Sem.run_pure]
    · rename_i r sz i len cap hx
      split at he
      · rename_i hb
        obtain ⟨h0, rfl⟩ := hb
        simp only [Option.some.injEq] at he; subst he
        rw [hx] at h1
        generalize e1 : a.eval x = u1 at h1
        cases h1 with
        | sl hι hs ha hl hcap hN hE hpm =>
          rename_i n p ad
          have ha' := ha (by omega)
          refine go (u := .pointer (some ad)) ?_ ?_
          · rw [hm, e1]
            simp only [builtin, Sem.run_bind, Lib.run_unsafeSliceData_row _ _ _ _ _ _ (show n ≠ 0 by omega), Result.andThen_ok, Sem.run_pure]
          · rw [ha', ← hs]
            exact VRel.ptr (off := 0) hι hpm
      · simp at he
    · simp at he
  · -- unsafe.String
    split at hco
    · split at hco
      · simp only [Option.some.injEq] at hco; subst hco; simp [evP] at he
      · simp at hco
    · simp at hco
  · -- len
    rename_i x hargs
    have hm := map_two (f := a.eval) hargs
    have h1 := cO_rel ht x
    split at hco
    · rename_i hts
      simp only [Option.some.injEq] at hco; subst hco
      simp only [Option.bind_eq_some_iff] at hts
      obtain ⟨t, ht0, htu⟩ := hts
      simp only [evP] at he
      split at he
      · rename_i s hx
        simp only [Option.some.injEq] at he; subst he
        rw [hx] at h1
        have hsz : (⟨s.toArray⟩ : ByteArray).size = s.length := by simp [ByteArray.size]
        refine go (u := .int .i64 s.length) ?_ (.v _)
        rw [hm, h1.str_inv]
        simp only [builtin, Sem.run_bind, run_len_str ht0 htu, hsz, Result.andThen_ok, Sem.run_pure]
      · simp at he
    · rename_i e hts
      simp only [Option.some.injEq] at hco; subst hco
      simp only [Option.bind_eq_some_iff] at hts
      obtain ⟨t, ht0, htu⟩ := hts
      simp only [evP] at he
      have key : ∀ (ad : Option Addr) (n m : Nat), a.eval x = .slice ad n m → v = .int .i64 n → PGood P ⟨dst, .call ⟨.builtin .len, args, ts⟩, type, pos, after, guard⟩ a c v := by
        intro ad n m e1 hv
        subst hv
        refine go (u := .int .i64 n) ?_ (.v _)
        rw [hm, e1]
        simp only [builtin, Sem.run_bind, run_len_sl ht0 htu, Result.andThen_ok, Sem.run_pure]
      split at he
      · rename_i hx
        simp only [Option.some.injEq] at he
        rw [hx] at h1
        generalize e1 : a.eval x = u at h1
        cases h1 with
        | sl a1 a2 a3 a4 a5 a6 a7 a8 => exact key _ _ _ e1 he.symm
      · rename_i hx
        simp only [Option.some.injEq] at he
        rw [hx] at h1
        generalize e1 : a.eval x = u at h1
        cases h1 with
        | nil _ => exact key _ _ _ e1 he.symm
        | rs g a1 a2 a3 a4 a5 a6 a7 => exact key _ _ _ e1 (by rw [← he, a1])
      · simp at he
    · simp at hco
  · -- cap
    rename_i x hargs
    have hm := map_two (f := a.eval) hargs
    have h1 := cO_rel ht x
    split at hco
    · rename_i e hts
      simp only [Option.some.injEq] at hco; subst hco
      simp only [Option.bind_eq_some_iff] at hts
      obtain ⟨t, ht0, htu⟩ := hts
      simp only [evP] at he
      have key : ∀ (ad : Option Addr) (n m : Nat), a.eval x = .slice ad n m → v = .int .i64 m → PGood P ⟨dst, .call ⟨.builtin .cap, args, ts⟩, type, pos, after, guard⟩ a c v := by
        intro ad n m e1 hv
        subst hv
        refine go (u := .int .i64 m) ?_ (.v _)
        rw [hm, e1]
        simp only [builtin, Sem.run_bind, run_cap_sl ht0 htu, Result.andThen_ok, Sem.run_pure]
      split at he
      · rename_i hx
        simp only [Option.some.injEq] at he
        rw [hx] at h1
        generalize e1 : a.eval x = u at h1
        cases h1 with
        | sl a1 a2 a3 a4 a5 a6 a7 a8 => exact key _ _ _ e1 (by rw [← he, a5 _ rfl])
      · rename_i hx
        simp only [Option.some.injEq] at he
        rw [hx] at h1
        generalize e1 : a.eval x = u at h1
        cases h1 with
        | nil hc => exact key _ _ _ e1 (by rw [← he, hc _ rfl])
        | rs g a1 a2 a3 a4 a5 a6 a7 => exact key _ _ _ e1 (by rw [← he, a3 _ rfl])
      · simp at he
    · simp at hco
  · -- min
    rename_i x y hargs
    have hm := map_pair (f := a.eval) hargs
    have h1 := cO_rel ht x
    have h2 := cO_rel ht y
    simp only [Option.some.injEq] at hco; subst hco
    simp only [evP] at he
    split at he
    · rename_i hx hy
      simp only [Option.some.injEq] at he; subst he
      rw [hx] at h1; rw [hy] at h2
      refine go ?_ (.v _)
      rw [hm, h1.v_inv, h2.v_inv]
      simp [builtin, Builtin.min_, Builtin.min2]
    · simp at he
  · -- max
    rename_i x y hargs
    have hm := map_pair (f := a.eval) hargs
    have h1 := cO_rel ht x
    have h2 := cO_rel ht y
    simp only [Option.some.injEq] at hco; subst hco
    simp only [evP] at he
    split at he
    · rename_i hx hy
      simp only [Option.some.injEq] at he; subst he
      rw [hx] at h1; rw [hy] at h2
      refine go ?_ (.v _)
      rw [hm, h1.v_inv, h2.v_inv]
      simp [builtin, Builtin.max_, Builtin.max2]
    · simp at he
  · -- append
    split at hco
    · split at hco
      · split at hco
        · split at hco
          · simp only [Option.some.injEq] at hco; subst hco; simp [evP] at he
          · simp at hco
        · simp at hco
      · split at hco
        · split at hco
          · simp only [Option.some.injEq] at hco; subst hco; simp [evP] at he
          · simp at hco
        · simp at hco
      · simp at hco
    · simp at hco
  · -- copy
    split at hco
    · split at hco
      · split at hco
        · simp only [Option.some.injEq] at hco; subst hco; simp [evP] at he
        · simp at hco
      · simp at hco
    · simp at hco
  · -- clear
    (repeat' split at hco) <;> first | (simp at hco; done) | (simp only [Option.some.injEq] at hco; subst hco; simp [evP] at he)
  · simp at hco

theorem eqCells_run {P : Program} {c : Cx} (d : Nat) {us ws : Array Value} : ∀ (fs : List Field) (k : Nat) {ks : List LK} {x y : List AV} {b : Bool}, eqKinds P fs k = some ks → eqCells ks x y = some b →
    (∀ (j : Nat) (av : AV), x[j]? = some av → ∃ u, us[k + j]? = some u ∧ VRel c av u) → (∀ (j : Nat) (av : AV), y[j]? = some av → ∃ u, ws[k + j]? = some u ∧ VRel c av u) →
    (Op.eqFields (d + 1) us ws fs).run P c.w = .ok b c.w
  | [], k, ks, x, y, b, hk, hb, hx, hy => by
    simp only [eqKinds, Option.some.injEq] at hk; subst hk
    unfold eqCells at hb
    split at hb
    · simp only [Option.some.injEq] at hb; subst hb; rfl
    · contradiction
    · simp at hb
  | f :: r, k, ks, x, y, b, hk, hb, hx, hy => by
    simp only [eqKinds] at hk
    split at hk
    · rename_i hf
      obtain ⟨hoff, hname⟩ := hf
      have step : ∀ {lk : LK} {l : List LK} {i : TypeInfo}, P.info? f.type = some i → (isAgg f.type).run P c.w = .ok false c.w → eqKinds P r (k + 1) = some l → eqCells (lk :: l) x y = some b →
          (∀ {p q : AV} {u w : Value} {b : Bool}, eqCell lk p q = some b → VRel c p u → VRel c q w → (Op.equalIn (d + 1) f.type u w).run P c.w = .ok b c.w) → (Op.eqFields (d + 1) us ws (f :: r)).run P c.w = .ok b c.w := by
        intro lk l i hi hag hl hb hcell
        cases x with
        | nil => simp [eqCells] at hb
        | cons p x' =>
        cases y with
        | nil => simp [eqCells] at hb
        | cons q y' =>
          simp only [eqCells] at hb
          split at hb
          · rename_i b1 b2 hb1 hb2
            simp only [Option.some.injEq] at hb; subst hb
            obtain ⟨u, hu, hpu⟩ := hx 0 p rfl
            obtain ⟨w, hw, hqw⟩ := hy 0 q rfl
            rw [Nat.add_zero] at hu hw
            have hpart : ∀ {zs : Array Value} {z : Value}, zs[k]? = some z → (part f.type zs f.offset).run P c.w = .ok z c.w := by
              intro zs z hz
              simp only [part, Sem.run_bind, hag, Result.andThen_ok, hoff]
              simp [hz]
            have ih := eqCells_run d (us := us) (ws := ws) r (k + 1) hl hb2 (fun j av hj => by have := hx (j + 1) av hj; rwa [show k + (j + 1) = k + 1 + j by omega] at this) (fun j av hj => by have := hy (j + 1) av hj; rwa [show k + (j + 1) = k + 1 + j by omega] at this)
            simp only [Op.eqFields]
            rw [if_pos hname]
            simp only [Sem.run_bind, hpart hu, hpart hw, Result.andThen_ok, hcell hb1 hpu hqw]
            cases b1 with
            | false => simp
            | true => simp only [Bool.not_true, Bool.false_eq_true, if_false, Bool.true_and]; exact ih
          · simp at hb
      split at hk
      · rename_i kk i l hu hi hl
        simp only [Option.some.injEq] at hk; subst hk
        refine step (i := i) hi (by simp [isAgg, run_underlying hu]) hl hb ?_
        intro p q u w b h hp hq
        unfold eqCell at h
        split at h
        · split at h
          · rename_i heq; subst heq
            simp only [Option.some.injEq] at h; subst h
            rw [hp.v_inv, hq.v_inv, run_equalIn_int c.w d f.type _ _ _ _ hu, beq_dec]
          · simp at h
        · contradiction
        · contradiction
        · simp at h
      · rename_i i l hu hi hl
        simp only [Option.some.injEq] at hk; subst hk
        refine step (i := i) hi (by simp [isAgg, run_underlying hu]) hl hb ?_
        intro p q u w b h hp hq
        unfold eqCell at h
        split at h
        · contradiction
        · simp only [Option.some.injEq] at h; subst h
          rw [hp.str_inv, hq.str_inv, run_equalIn_string c.w d f.type _ _ hu, toList_ba, toList_ba, beq_dec]
        · contradiction
        · simp at h
      · rename_i i l hu hi hl
        simp only [Option.some.injEq] at hk; subst hk
        refine step (i := i) hi (by simp [isAgg, run_underlying hu]) hl hb ?_
        intro p q u w b h hp hq
        unfold eqCell at h
        split at h
        · contradiction
        · contradiction
        · simp only [Option.some.injEq] at h; subst h
          rw [hp.v_inv, hq.v_inv, run_equalIn_bool' c.w d f.type _ _ hu]
        · simp at h
      · simp at hk
    · simp at hk

theorem evP_eqs {P : Program} {op : BinOp} {t yt : TypeId} {x y : Operand} {dst : Option Tmp} {type : TypeId} {pos : String} {after : Array Edge} {guard : Option (Nat × Bool)} {co : COp} {tm : Nat → AV} {a : Act} {c : Cx} {v : AV}
    (hco : compEqs P op t x y = some co) (he : evP tm co = some v) (ht : TRel c tm a) :
    PGood P ⟨dst, .binOp op t x y yt, type, pos, after, guard⟩ a c v := by
  unfold compEqs at hco
  split at hco
  · rename_i fs hu
    split at hco
    · simp at hco
    · rename_i hst
      split at hco
      · simp at hco
      · rename_i hg
        split at hco
        · rename_i ks hks
          have hfo : P.fieldsOf t = fs := by simp [Program.fieldsOf, hu]
          have h1 := cO_rel ht x
          have h2 := cO_rel ht y
          have key : ∀ (p q : List AV) (b : Bool), ev tm (cO x) = .agg p → ev tm (cO y) = .agg q → eqCells ks p q = some b → ∃ us ws, a.eval x = .agg us ∧ a.eval y = .agg ws ∧ (Op.equalIn 10000 t (.agg us) (.agg ws)).run P c.w = .ok b c.w := by
            intro p q b hx hy hb
            rw [hx] at h1; rw [hy] at h2
            obtain ⟨us, e1, l1, v1⟩ := h1.agg_inv
            obtain ⟨ws, e2, l2, v2⟩ := h2.agg_inv
            refine ⟨us, ws, e1, e2, ?_⟩
            rw [run_equalIn_struct c.w 9999 t us ws (by rw [hfo]; exact hu) (by simpa using hst), hfo]
            refine eqCells_run 9998 fs.toList 0 hks hb ?_ ?_
            · intro j av hj
              have hlt : j < us.size := by have := (List.getElem?_eq_some_iff.1 hj).1; omega
              exact ⟨us[j], by simp [hlt], v1 j av _ hj (by simp [hlt])⟩
            · intro j av hj
              have hlt : j < ws.size := by have := (List.getElem?_eq_some_iff.1 hj).1; omega
              exact ⟨ws[j], by simp [hlt], v2 j av _ hj (by simp [hlt])⟩
          have hg' : P.eqGuardType P.depth t = false := by simpa using hg
          split at hco
          · simp only [Option.some.injEq] at hco; subst hco
            simp only [evP] at he
            split at he
            · rename_i p q hx hy
              simp only [Option.map_eq_some_iff] at he
              obtain ⟨b, hb, rfl⟩ := he
              obtain ⟨us, ws, e1, e2, hr⟩ := key p q b hx hy hb
              refine .same (u := .bool b) ?_ (by simpa using VRel.v _)
              simp only [execOp, Sem.run_bind, e1, e2, run_eqGuard_agg c.w .eql t x y us ws hg', Result.andThen_ok, run_eql_struct, hr, Sem.run_pure]
            · simp at he
          · simp only [Option.some.injEq] at hco; subst hco
            simp only [evP] at he
            split at he
            · rename_i p q hx hy
              simp only [Option.map_eq_some_iff] at he
              obtain ⟨b, hb, rfl⟩ := he
              obtain ⟨us, ws, e1, e2, hr⟩ := key p q b hx hy hb
              refine .same (u := .bool (!b)) ?_ (by simpa using VRel.v _)
              simp only [execOp, Sem.run_bind, e1, e2, run_eqGuard_agg c.w .neq t x y us ws hg', Result.andThen_ok, run_neq_struct, hr, Sem.run_pure]
            · simp at he
          · simp at hco
        · simp at hco
  · simp at hco

theorem evP_sound {P : Program} {own : Bool} {o : Oper} {co : COp} {tm : Nat → AV} {a : Act} {c : Cx} {v : AV} (hc : compOp' P own o = some co) (he : evP tm co = some v) {nx : Nat} (ht : TRel c tm a) (hh : HRel c nx) :
    PGood P o a c v := by
  obtain ⟨dst, op, type, pos, after, guard⟩ := o
  unfold compOp' at hc
  split at hc
  · rename_i co' hco
    simp only [Option.some.injEq] at hc; subst hc
    cases op <;> simp only [compOp] at hco
    case move x =>
      simp only [Option.some.injEq] at hco; subst hco
      simp only [evP, Option.some.injEq] at he; subst he
      exact .same rfl (cO_rel ht x)
    case assign x =>
      simp only [Option.some.injEq] at hco; subst hco
      simp only [evP, Option.some.injEq] at he; subst he
      exact .same rfl (cO_rel ht x)
    case pick x y z =>
      simp only [Option.some.injEq] at hco; subst hco
      simp only [evP] at he
      split at he
      · rename_i b hb
        simp only [Option.some.injEq] at he; subst he
        have h1 := cO_rel ht x
        rw [hb] at h1
        have h2 := h1.v_inv
        refine .same (u := if b then a.eval y else a.eval z) ?_ ?_
        · simp [execOp, h2, asBool]
        · cases b
          · exact cO_rel ht z
          · exact cO_rel ht y
      · simp at he
    case alloc e =>
      split at hco <;> simp only [Option.map_eq_some_iff] at hco <;> obtain ⟨z, _, rfl⟩ := hco <;> simp [evP] at he
    case panic x => simp only [Option.some.injEq] at hco; subst hco; simp [evP] at he
    case box e x => simp only [Option.some.injEq] at hco; subst hco; simp [evP] at he
    case build t parts =>
      split at hco
      · rename_i fs z hu hz
        split at hco
        · rename_i hall
          simp only [Option.map_eq_some_iff] at hco
          obtain ⟨cps, hcps, rfl⟩ := hco
          simp only [evP, Option.map_eq_some_iff] at he
          obtain ⟨cells, hcells, rfl⟩ := he
          obtain ⟨i, zv, hi, hzv, hzs, rfl⟩ := zeroOf_spec hz
          -- the fields' places
          have hplaces : ∃ places : Array (Nat × Nat), ((fs.mapM fun f => do pure (f.offset, ← sizeOf f.type)) : Sem (Array (Nat × Nat))).run P c.w = .ok places c.w ∧
              (∀ (k : Nat) (f : Field) (j : TypeInfo), fs[k]? = some f → P.info? f.type = some j → places[k]? = some (f.offset, j.size)) := places_run (P := P) (w := c.w) fs hall
          obtain ⟨places, hpr, hpl⟩ := hplaces
          obtain ⟨cc, h1, h2⟩ := fill_run (c := c) (place := (places[·]?)) (cparts := parts.toList.map fun p => (p.1, a.eval p.2)) (by simpa using compParts_length hcps) (compParts_rel hcps hpl ht) (zero_rel c hzs) hcells
          refine .same (u := .agg cc) ?_ (.agg (by simpa using h2.1) (fun k av u h3 h4 => h2.2 k av u h3 (by rw [getElem?_arr]; exact h4)))
          have hmap : (parts.map fun (i, x) => (i, a.eval x)).toList = parts.toList.map fun p => (p.1, a.eval p.2) := by simp
          have hz1 : (zeroValue t).run P c.w = .ok zv c.w := by simp [zeroValue, typeInfo, hi, hzv]
          simp only [execOp, Instr.build, Sem.run_bind, hz1, run_underlying hu, Result.andThen_ok, hpr, hmap, h1, Sem.run_pure]
        · simp at hco
      · simp at hco
    case buildSlice t n parts =>
      split at hco
      · rename_i e hu
        split at hco
        · rename_i z i hz hi
          split at hco
          · rename_i hc
            obtain ⟨hs0, hlim⟩ := hc
            simp only [Option.some.injEq] at hco; subst hco
            cases own with
            | true => simp [evP] at he
            | false =>
              simp only [Bool.false_eq_true, ↓reduceIte, evP, Option.map_eq_some_iff] at he
              obtain ⟨es, hes, rfl⟩ := he
              obtain ⟨i', zv, hi', hzv, hzs, rfl⟩ := zeroOf_spec hz
              rw [hi] at hi'; simp only [Option.some.injEq] at hi'; subst hi'
              obtain ⟨cc, h1, h2, h3, h4⟩ := bslice_run (P := P) hs0 hzs ht hes
              refine ⟨.slice (some ⟨c.w.heap.size, 0, none⟩) n n, { c.w with heap := c.w.heap.push (.cells cc e) }, .inl ?_, Grow.push _ _, ?_⟩
              · exact bslice_exec hu hi hzv hs0 hlim h1
              · have hsz : es.flatten.length = cc.size := by simpa using h4.1
                refine .rs (fun p q => (cc[p * i.size + q]?).getD undef) h2 (Nat.le_refl _) (fun m hm => by simp only [Option.some.injEq] at hm; omega) h3 ?_ ?_ ?_
                · intro _
                  refine ⟨⟨by simp, ?_, ?_⟩, rfl⟩
                  · intro ho; exact absurd (hh.own_lt ho) (Nat.lt_irrefl _)
                  · intro hF; exact absurd (hh.F _ hF) (Nat.lt_irrefl _)
                · intro p q l av hp hq
                  have h5 := flat_get es p q l av h3 hp hq
                  obtain ⟨u, h6, h7⟩ := h4.get h5
                  rw [getElem?_arr] at h6
                  simp [World.cell?, h6]
                · intro p q l av hp hq
                  have h5 := flat_get es p q l av h3 hp hq
                  obtain ⟨u, h6, h7⟩ := h4.get h5
                  rw [getElem?_arr] at h6
                  simp only [h6, Option.getD_some]
                  exact h7.mono (Ext.of_grow (nx := nx) (Grow.push _ _))
          · simp at hco
        · simp at hco
      · simp at hco
    case load t x =>
      simp only [Option.map_eq_some_iff] at hco
      obtain ⟨n, hn, rfl⟩ := hco
      simp only [evP] at he
      split at he
      · rename_i cells hx
        have h1 := cO_rel ht x
        rw [hx] at h1
        generalize hu : a.eval x = u at h1
        cases h1 with
        | rp g hro hcell hvv =>
          rename_i B O
          obtain ⟨u, h2, h3⟩ := loadVar_run (P := P) hn (B := B) (O := O) (off := 0) (cells := cells) (fun k av hk => ⟨g k, hcell k av hk, hvv k av hk⟩) he
          exact .same (by simp only [execOp, hu, Instr.loadAt, Instr.sureAddr, Sem.run_bind, Sem.run_pure, Result.andThen_ok]; simp only [Nat.add_zero] at h2; simp [h2]) h3
      · simp at he
    case store t x y =>
      split at hco
      · split at hco
        · simp only [Option.some.injEq] at hco; subst hco; simp [evP] at he
        · simp at hco
      · simp at hco
    case nilCheck x =>
      simp only [Option.some.injEq] at hco; subst hco
      simp only [evP] at he
      have h1 := cO_rel ht x
      generalize hu : a.eval x = u at h1
      split at he
      · rename_i hx; rw [hx] at h1; simp only [Option.some.injEq] at he; subst he
        cases h1 with
        | ptr hp hpm => exact .same (by simp [execOp, hu]) (.ptr hp hpm)
      · rename_i hx; rw [hx] at h1; simp only [Option.some.injEq] at he; subst he
        cases h1 with
        | rp g a b d => exact .same (by simp [execOp, hu]) (.rp g a b d)
      · rename_i hx; rw [hx] at h1; simp only [Option.some.injEq] at he; subst he
        cases h1 with
        | fn a b d e => exact .same (by simp [execOp, hu]) (.fn a b d e)
      · simp at he
    case binOp op t x y yt =>
      unfold compBin at hco
      split at hco
      -- whole numbers, and texts
      iterate 2
        next hu =>
          simp only [Option.some.injEq] at hco; subst hco
          simp only [evP, binA] at he
          have h1 := cO_rel ht x
          have h2 := cO_rel ht y
          split at he
          · rename_i k p k' q hx hy
            rw [hx] at h1; rw [hy] at h2
            have e1 := h1.v_inv
            have e2 := h2.v_inv
            have hex : ∀ u, (binOp op t (.int k p) (.int k' q)).run P c.w = .ok u c.w → (execOp a.eval ⟨dst, .binOp op t x y yt, type, pos, after, guard⟩).run P c.w = .ok (.value u) c.w := by
              intro u h
              simp only [execOp, e1, e2, eqGuard_at_int]
              simp [h]
            split at he
            · obtain ⟨u, rfl, hr⟩ := shA_run (P := P) (w := c.w) (t := t) (k' := k') (.inl rfl) he
              exact .same (hex u hr) (.v u)
            · obtain ⟨u, rfl, hr⟩ := shA_run (P := P) (w := c.w) (t := t) (k' := k') (.inr rfl) he
              exact .same (hex u hr) (.v u)
            · rename_i hn1 hn2
              split at he
              · rename_i hk; subst hk
                obtain ⟨u, rfl, hr⟩ := intA_run (P := P) (w := c.w) (t := t) ⟨fun h => hn1 h, fun h => hn2 h⟩ he
                exact .same (hex u hr) (.v u)
              · simp at he
          · rename_i p q hx hy
            rw [hx] at h1; rw [hy] at h2
            have e1 := h1.str_inv
            have e2 := h2.str_inv
            obtain ⟨u, hv, hr⟩ := strA_run (P := P) (w := c.w) c (t := t) he
            exact .same (by simp only [execOp, e1, e2, eqGuard_at_string]; simp [hr]) hv
          · simp at he
      · rename_i hu
        simp only [Option.some.injEq] at hco; subst hco
        simp only [evP] at he
        have h1 := cO_rel ht x
        have h2 := cO_rel ht y
        split at he
        · rename_i p q hx hy
          rw [hx] at h1; rw [hy] at h2
          have e1 := h1.v_inv
          have e2 := h2.v_inv
          cases op <;> simp only [eqA, Option.some.injEq, reduceCtorEq] at he <;> subst he
          · exact .same (by simp only [execOp, e1, e2, eqGuard_at_bool]; simp [binOp, Op.equal, Op.maxDepth, run_equalIn_bool' c.w 9999 t p q hu]) (.v _)
          · exact .same (by simp only [execOp, e1, e2, eqGuard_at_bool]; simp [binOp, Op.equal, Op.maxDepth, run_equalIn_bool' c.w 9999 t p q hu]) (.v _)
        · simp at he
      · rename_i e hu
        simp only [Option.some.injEq] at hco; subst hco
        simp only [evP] at he
        have h1 := cO_rel ht x
        have h2 := cO_rel ht y
        have hnil := fun (ad : Option Addr) (n m : Nat) => run_equalIn_slice_nil (P := P) (w := c.w) 9999 hu ad n m
        have hex : ∀ (ad : Option Addr) (n m : Nat) (v : AV), a.eval x = .slice ad n m → a.eval y = .slice none 0 0 → eqA op ad.isNone = some v → PGood P ⟨dst, .binOp op t x y yt, type, pos, after, guard⟩ a c v := by
          intro ad n m v e1 e2 h
          cases op <;> simp only [eqA, Option.some.injEq, reduceCtorEq] at h <;> subst h
          · exact .same (by simp only [execOp, e1, e2, eqGuard_at_slice]; simp [binOp, Op.equal, Op.maxDepth, hnil]) (.v _)
          · exact .same (by simp only [execOp, e1, e2, eqGuard_at_slice]; simp [binOp, Op.equal, Op.maxDepth, hnil]) (.v _)
        split at he
        · rename_i nl _ _ _ _ _ _ hx hy
          rw [hx] at h1; rw [hy] at h2
          generalize e2 : a.eval y = u2 at h2
          generalize e1 : a.eval x = u1 at h1
          cases h2 with
          | nil hc2 =>
            cases h1 with
            | nil hc1 => exact hex none 0 0 _ e1 e2 he
            | rs g b d e f g' h i => exact hex (some _) _ _ _ e1 e2 he
        · rename_i hx hy
          rw [hx] at h1; rw [hy] at h2
          generalize e2 : a.eval y = u2 at h2
          generalize e1 : a.eval x = u1 at h1
          cases h2 with
          | nil hc2 =>
            cases h1 with
            | sl a b d e f g' h' h9 => exact hex (some _) _ _ _ e1 e2 he
        · simp at he
      · rename_i e hu
        split at hco
        · rename_i hcc
          obtain ⟨j, hj⟩ := Option.isSome_iff_exists.1 hcc.1
          simp only [Option.some.injEq] at hco; subst hco
          simp only [evP] at he
          have h1 := cO_rel ht x
          have h2 := cO_rel ht y
          have hex : ∀ (u1 u2 : Option Addr) (b : Bool) (v : AV), a.eval x = .pointer u1 → a.eval y = .pointer u2 → (Op.equalIn (9999 + 1) t (.pointer u1) (.pointer u2)).run P c.w = .ok b c.w → eqA op b = some v → PGood P ⟨dst, .binOp op t x y yt, type, pos, after, guard⟩ a c v := by
            intro u1 u2 b v e1 e2 hr h
            cases op <;> simp only [eqA, Option.some.injEq, reduceCtorEq] at h <;> subst h
            · exact .same (by simp only [execOp, e1, e2, eqGuard_at_pointer]; simp [binOp, Op.equal, Op.maxDepth, hr]) (.v _)
            · exact .same (by simp only [execOp, e1, e2, eqGuard_at_pointer]; simp [binOp, Op.equal, Op.maxDepth, hr]) (.v _)
          split at he
          · rename_i hx hy
            rw [hx] at h1; rw [hy] at h2
            exact hex none none true v h1.v_inv h2.v_inv (run_equalIn_ptr_nil 9999 hu none) he
          · rename_i r i o hx hy
            rw [hx] at h1; rw [hy] at h2
            have e2 := h2.v_inv
            generalize e1 : a.eval x = u1 at h1
            cases h1 with
            | ptr h h9 => exact hex (some _) none false v e1 e2 (run_equalIn_ptr_nil 9999 hu (some _)) he
          · rename_i cs hx hy
            rw [hx] at h1; rw [hy] at h2
            have e2 := h2.v_inv
            generalize e1 : a.eval x = u1 at h1
            cases h1 with
            | rp g b d f => exact hex (some _) none false v e1 e2 (run_equalIn_ptr_nil 9999 hu (some _)) he
          · rename_i r i o r' i' o' hx hy
            split at he
            · rename_i hsame
              obtain ⟨rfl, rfl, rfl⟩ := hsame
              rw [hx] at h1; rw [hy] at h2
              generalize e1 : a.eval x = u1 at h1
              generalize e2 : a.eval y = u2 at h2
              cases h1 with
              | ptr k1 k19 =>
                cases h2 with
                | ptr k2 k29 =>
                  rw [k1] at k2; simp only [Option.some.injEq] at k2; subst k2
                  exact hex (some _) (some _) true v e1 e2 (run_equalIn_ptr_same 9999 hu hj _) he
            · simp at he
          · simp at he
        · simp at hco
      · simp at hco
    case unOp op t x =>
      simp only [Option.some.injEq] at hco; subst hco
      simp only [evP, unA] at he
      have h1 := cO_rel ht x
      split at he
      · rename_i k n hx
        simp only [Option.some.injEq] at he; subst he
        rw [hx] at h1
        exact .same (by simp only [execOp, h1.v_inv, Op.unary, Op.intArith]; rfl) (.v _)
      · rename_i b hx
        simp only [Option.some.injEq] at he; subst he
        rw [hx] at h1
        exact .same (by simp [execOp, h1.v_inv, Op.unary]) (.v _)
      · simp at he
    case convert src dst' x =>
      have h1 := cO_rel ht x
      unfold compConv at hco
      split at hco
      · rename_i k0 k hs hd
        simp only [Option.some.injEq] at hco; subst hco
        simp only [evP] at he
        split at he
        · rename_i k1 n hx
          simp only [Option.some.injEq] at he; subst he
          rw [hx] at h1
          exact .same (by simp only [execOp, h1.v_inv, convert, Sem.run_bind, run_underlying hs, run_underlying hd, Result.andThen_ok]; rfl) (.v _)
        · simp at he
      · rename_i hs hd
        simp only [Option.some.injEq] at hco; subst hco
        simp only [evP] at he
        split at he
        · rename_i l hx
          simp only [Option.some.injEq] at he; subst he
          rw [hx] at h1
          exact .same (by simp only [execOp, h1.str_inv, convert, Sem.run_bind, run_underlying hs, run_underlying hd, Result.andThen_ok]; rfl) (.str l)
        · simp at he
      · rename_i e hs hd
        split at hco
        · simp only [Option.some.injEq] at hco; subst hco; simp [evP] at he
        · simp at hco
      · rename_i e hs hd
        split at hco
        · rename_i hu8
          simp only [Option.some.injEq] at hco; subst hco
          simp only [evP] at he
          split at he
          · rename_i nl sz es cp hx
            split at he
            · rename_i hsz
              simp only [Option.map_eq_some_iff] at he
              obtain ⟨l, hl, rfl⟩ := he
              rw [hx] at h1
              generalize e1 : a.eval x = u at h1
              cases h1 with
              | nil hcap =>
                simp only [toBytes, Option.some.injEq] at hl; subst hl
                refine .same (u := .string ByteArray.empty) ?_ (.str [])
                simp only [execOp, e1, convert, Sem.run_bind, run_underlying hs, run_underlying hd, run_underlying hu8, Result.andThen_ok]
                rfl
              | rs g hlen hle hcap hes hro hcell hvv =>
                rename_i n len ad
                have hsz1 : sz = 1 := by simpa using hsz
                subst hsz1
                obtain ⟨ns, hns, rfl⟩ := toBytes_spec hl
                have hload : (loadCells ad len).run P c.w = .ok (ns.map (Value.int .u8)).toArray c.w := by
                  have hl2 : (ns.map (Value.int .u8)).length = len := by rw [← hlen, hns]; simp
                  rw [← hl2]
                  refine run_loadCells_list c.w ad _ (fun j u hj => ?_)
                  simp only [List.getElem?_map, Option.map_eq_some_iff] at hj
                  obtain ⟨q, hq, rfl⟩ := hj
                  have h5 : es[j]? = some [.v (.int .u8 q)] := by rw [hns]; simp [hq]
                  obtain ⟨hr1, hr2⟩ := hro (ne_nil_of_get h5)
                  obtain ⟨B, O, sp⟩ := ad
                  simp only at hr2; subst hr2
                  have h6 := hcell j 0 _ _ h5 rfl
                  have h7 := (hvv j 0 _ _ h5 rfl).v_inv
                  rw [h7] at h6
                  rw [add_addr]
                  simpa using h6
                refine .same (u := .string (ns.foldl (fun r n => r.push (UInt8.ofNat n.toNat)) ByteArray.empty)) ?_ ?_
                · have hrun := run_bytesToString c.w ad len n ns hload
                  have hcv := run_convert_bytes_string c.w src dst' e (some ad) len n hs hu8 hd
                  simp only [execOp, e1, Sem.run_bind, hcv, hrun, Result.andThen_ok, Sem.run_pure]
                · have := rel_str c (ns.foldl (fun r n => r.push (UInt8.ofNat n.toNat)) ByteArray.empty)
                  rw [fold_push] at this
                  simpa using this
            · simp at he
          · simp at he
        · simp at hco
      · rename_i k hs hd
        simp only [Option.some.injEq] at hco; subst hco
        simp only [evP] at he
        split at he
        · rename_i k1 n hx
          simp only [Option.some.injEq] at he; subst he
          rw [hx] at h1
          exact .same (u := .string (Utf8.encode n)) (by simp only [execOp, h1.v_inv, convert, Sem.run_bind, run_underlying hs, run_underlying hd, Result.andThen_ok]; rfl) (rel_str c _)
        · simp at he
      · split at hco
        · simp only [Option.some.injEq] at hco; subst hco; simp [evP] at he
        · simp at hco
      · split at hco
        · simp only [Option.some.injEq] at hco; subst hco; simp [evP] at he
        · simp at hco
      · simp at hco
    case makeInterface t x =>
      split at hco
      · simp at hco
      · simp at hco
      · rename_i d hd hu
        simp only [Option.some.injEq] at hco; subst hco
        simp only [evP, Option.some.injEq] at he; subst he
        refine .same (u := .iface t (a.eval x)) ?_ (.ifc (cO_rel ht x))
        simp only [execOp, Instr.makeInterface, Sem.run_bind, run_underlying hu, Result.andThen_ok]
        cases d <;> first | rfl | skip
        all_goals exact absurd rfl (hd _)
    case makeFunc fn first cap =>
      simp only [Option.some.injEq] at hco; subst hco
      simp only [evP, Option.some.injEq] at he; subst he
      have hl : ∀ (xs : Array Operand) (k : Nat) (av : AV) (u : Value), ((xs.toList.map cO).map (ev tm))[k]? = some av → (xs.map a.eval)[k]? = some u → VRel c av u := by
        intro xs k av u h1 h2
        simp only [List.getElem?_map, Option.map_eq_some_iff, Array.getElem?_map] at h1 h2
        obtain ⟨y, ⟨z, hz, rfl⟩, rfl⟩ := h1
        obtain ⟨z', hz', rfl⟩ := h2
        rw [getElem?_arr] at hz
        rw [hz] at hz'
        simp only [Option.some.injEq] at hz'; subst hz'
        exact cO_rel ht z
      exact .same (by simp [execOp, Instr.makeFunc]) (.fn (by simp) (by simp) (hl first) (hl cap))
    case makeSlice t l n =>
      split at hco
      · split at hco
        · split at hco
          · simp only [Option.some.injEq] at hco; subst hco; simp [evP] at he
          · simp at hco
        · simp at hco
      · simp at hco
    case slice t x lo hi mx =>
      have h1 := cO_rel ht x
      split at hco
      · rename_i hu
        split at hco
        · simp only [Option.some.injEq] at hco; subst hco
          simp only [evP] at he
          cases hx : ev tm (cO x) <;> rw [hx] at he h1 <;> (try (simp [sliceStr] at he; done))
          have e1 := h1.str_inv
          obtain ⟨u, h2, h3⟩ := slice_str_run (P := P) hu (evo_rel ht lo) (evo_rel ht hi) he
          exact .same (by simp only [execOp, e1]; simp [h2]) h3
        · simp at hco
      · rename_i e hu
        simp only [Option.map_eq_some_iff] at hco
        obtain ⟨i, hi', rfl⟩ := hco
        simp only [evP] at he
        cases hx : ev tm (cO x) <;> rw [hx] at he h1 <;> (try (simp [sliceA] at he; done))
        · obtain ⟨u, h2, h3⟩ := slice_sl_run (P := P) hu hi' h1 (evo_rel ht lo) (evo_rel ht hi) (evo_rel ht mx) he
          exact .same (by simp only [execOp]; simp [h2]) h3
        · obtain ⟨u, h2, h3⟩ := slice_rs_run (P := P) hu hi' h1 (evo_rel ht lo) (evo_rel ht hi) (evo_rel ht mx) he
          exact .same (by simp only [execOp]; simp [h2]) h3
      · simp at hco
    case fieldAddr s x f =>
      split at hco
      · rename_i fs hu
        split at hco
        · rename_i fd hf
          split at hco
          · rename_i i hi
            split at hco
            · simp at hco
            · rename_i hsz
              simp only [Option.some.injEq] at hco; subst hco
              simp only [evP] at he
              have h1 := cO_rel ht x
              generalize e1 : a.eval x = u at h1
              have hex : ∀ (B O : Nat), u = .pointer (some ⟨B, O, none⟩) → (execOp a.eval ⟨dst, .fieldAddr s x f, type, pos, after, guard⟩).run P c.w = .ok (.value (.pointer (some ⟨B, O + fd.offset, none⟩))) c.w := by
                rintro B O rfl
                simp only [execOp, e1, Instr.fieldAt, Sem.run_bind, run_underlying hu, Result.andThen_ok]
                simp [hf, Instr.sureAddr, fieldPlace, sizeOf, typeInfo, hi, hsz, add_addr]
              split at he
              · rename_i hx; rw [hx] at h1; simp only [Option.some.injEq] at he; subst he
                cases h1 with
                | ptr hp hpm => exact .same (hex _ _ rfl) (by rw [Nat.add_assoc]; exact .ptr hp hpm)
              · rename_i cells hx; rw [hx] at h1; simp only [Option.some.injEq] at he; subst he
                cases h1 with
                | rp g hro hcell hvv =>
                  refine .same (hex _ _ rfl) (.rp (fun k => g (fd.offset + k)) ?_ ?_ ?_)
                  · intro hne; exact hro (by rintro rfl; simp at hne)
                  · intro k av hk; rw [List.getElem?_drop] at hk; rw [Nat.add_assoc]; exact hcell _ av hk
                  · intro k av hk; rw [List.getElem?_drop] at hk; exact hvv _ av hk
              · simp at he
          · simp at hco
        · simp at hco
      · simp at hco
    case field t x f =>
      split at hco
      · rename_i fs hu
        split at hco
        · rename_i fd hf
          simp only [Option.map_eq_some_iff] at hco
          obtain ⟨n, hn, rfl⟩ := hco
          simp only [evP] at he
          split at he
          · rename_i cs hx
            have h1 := cO_rel ht x
            rw [hx] at h1
            obtain ⟨us, e1, hl, hv⟩ := h1.agg_inv
            obtain ⟨u, h2, h3⟩ := part_run (P := P) hn hl hv he
            exact .same (by simp only [execOp, e1, Instr.field, Sem.run_bind, run_underlying hu, Result.andThen_ok]; simp [hf, asAgg, h2]) h3
          · simp at he
        · simp at hco
      · simp at hco
    case indexAddr t x i =>
      split at hco
      · rename_i e hu
        simp only [Option.map_eq_some_iff] at hco
        obtain ⟨j, hj, rfl⟩ := hco
        simp only [evP] at he
        have h1 := cO_rel ht x
        have h2 := cO_rel ht i
        split at he
        · rename_i r sz k len cp kd n hx hi
          split at he
          · rename_i hb
            obtain ⟨hsz, h0, hlt⟩ := hb
            simp only [Option.some.injEq] at he; subst he
            rw [hx] at h1; rw [hi] at h2
            have e2 := h2.v_inv
            generalize e1 : a.eval x = u at h1
            cases h1 with
            | sl hι hs ha hl hcap hN hE hpm =>
              rename_i m p ad
              have ha' := ha (by omega)
              subst ha'
              refine .same (u := .pointer (some ((⟨p.B, p.O + k * sz, none⟩ : Addr).add (n.toNat * j.size)))) ?_ ?_
              · simp only [execOp, e1, e2, Instr.indexAt, asIntOf, Sem.run_bind, Sem.run_pure, run_underlying hu, Result.andThen_ok]
                simp [h0, hlt, sizeOf, typeInfo, hj]
              · rw [add_addr, ← hsz]
                have := VRel.ptr (c := c) (i := k + n.toNat) (off := 0) hι hpm
                rw [hs, Nat.add_mul] at this
                simpa [Nat.add_assoc] using this
          · simp at he
        · rename_i nl sz es cp kd n hx hi
          split at he
          · rename_i hb
            obtain ⟨hsz, h0⟩ := hb
            simp only [Option.map_eq_some_iff] at he
            obtain ⟨l, hl, rfl⟩ := he
            rw [hx] at h1; rw [hi] at h2
            have e2 := h2.v_inv
            generalize e1 : a.eval x = u at h1
            cases h1 with
            | nil _ => simp at hl
            | rs g hlen hle hcap hes hro hcell hvv =>
              rename_i m len ad
              have hlt : n < len := by
                have := (List.getElem?_eq_some_iff.1 hl).1
                omega
              have hne : es ≠ [] := ne_nil_of_get hl
              obtain ⟨hr1, hr2⟩ := hro hne
              obtain ⟨B, O, sp⟩ := ad
              simp only at hr2; subst hr2
              refine .same (u := .pointer (some ((⟨B, O, none⟩ : Addr).add (n.toNat * j.size)))) ?_ ?_
              · simp only [execOp, e1, e2, Instr.indexAt, asIntOf, Sem.run_bind, Sem.run_pure, run_underlying hu, Result.andThen_ok]
                simp [h0, hlt, sizeOf, typeInfo, hj]
              · rw [add_addr, ← hsz]
                exact .rp (fun q => g n.toNat q) (fun _ => hr1) (fun q av hq => hcell n.toNat q l av hl hq) (fun q av hq => hvv n.toNat q l av hl hq)
          · simp at he
        · simp at he
      · simp at hco
    case index t x i =>
      split at hco
      · rename_i hu
        simp only [Option.some.injEq] at hco; subst hco
        simp only [evP] at he
        split at he
        · rename_i s kd n hx hi
          split at he
          · rename_i h0
            simp only [Option.map_eq_some_iff] at he
            obtain ⟨b, hb, rfl⟩ := he
            have h1 := cO_rel ht x
            have h2 := cO_rel ht i
            rw [hx] at h1; rw [hi] at h2
            have hlt : n.toNat < s.length := (List.getElem?_eq_some_iff.1 hb).1
            have hb' : s[n.toNat] = b := (List.getElem?_eq_some_iff.1 hb).2
            refine .same (u := .int .u8 b.toNat) ?_ (.v _)
            simp only [execOp, h1.str_inv, h2.v_inv, Instr.index, asIntOf, Sem.run_bind, Sem.run_pure, run_underlying hu, Result.andThen_ok]
            have hget : (⟨s.toArray⟩ : ByteArray)[n.toNat]? = some b := by
              rw [← hb', getElem?_pos (⟨s.toArray⟩ : ByteArray) n.toNat (by simpa [ByteArray.size] using hlt)]
              simp [ByteArray.getElem_eq_getElem_data]
            simp [h0, hget]
          · simp at he
        · simp at he
      · simp at hco
    case extract x i =>
      simp only [Option.some.injEq] at hco; subst hco
      simp only [evP] at he
      split at he
      · rename_i vs hx
        have h1 := cO_rel ht x
        rw [hx] at h1
        obtain ⟨us, e1, hl, hv⟩ := h1.tup_inv
        have hlt : i < us.size := by have := (List.getElem?_eq_some_iff.1 he).1; omega
        exact .same (u := us[i]) (by simp [execOp, e1, Instr.extract, hlt]) (hv i v _ he (by simp [hlt]))
      · simp at he
    case call cl =>
      obtain ⟨callee, args, ts⟩ := cl
      cases callee with
      | value f =>
        cases f <;> simp only [] at hco <;> (try (split at hco)) <;> simp only [Option.some.injEq, reduceCtorEq] at hco <;> subst hco <;> simp [evP] at he
      | invoke r m => simp at hco
      | builtin b =>
        simp only [] at hco
        split at hco
        · unfold compTapp at hco
          (repeat' split at hco) <;> simp only [Option.some.injEq, reduceCtorEq] at hco <;> subst hco <;> simp [evP] at he
        · exact evP_builtin hco he ht hh
    all_goals (first | (simp at hco; done) | skip)
  · rename_i hn
    cases op
    case binOp => exact evP_eqs hc he ht
    all_goals
      exfalso
      have hm := compMap_cases hc
      cases hm <;> simp [evP] at he

end Go.Ai
