/- Blocks whose type is told: variables, bytes that grow, and strings made of them without a copy. -/
import Derived.Test.YtooomkpingiojaaGreatAiOpsK
namespace Go.Ai
set_option linter.unusedVariables false
set_option linter.unusedSimpArgs false

theorem RunsTo.det {P : Program} {o : Oper} {a : Act} {w w1 w2 : World} {u1 u2 : Value} (h1 : RunsTo P o a w u1 w1) (h2 : RunsTo P o a w u2 w2) : u1 = u2 ∧ w1 = w2 := by
  rcases h1 with h1 | ⟨h1, rfl⟩ <;> rcases h2 with h2 | ⟨h2, rfl⟩ <;> rw [h1] at h2 <;> simp at h2
  · exact ⟨h2.1, h2.2⟩
  · exact ⟨rfl, h2⟩
theorem HRel.up {c : Cx} {nx : Nat} (h : HRel c nx) : HRel c (nx + 1) :=
  ⟨fun r h1 => by have := h.dom r h1; omega, fun r p h1 => by have := h.lt r p h1; omega, h.blk, h.inj, h.F, h.ty, h.gl⟩

/-- A block's type is told at a free number behind it. -/
theorem addTy {c : Cx} {nx q : Nat} (hh : HRel c nx) (hq : q + 1 < nx) (hι : c.ι (q + 1) = none) {t : TypeId} {k : Nat} {p : Place} {cs : Array Value} {fz : Nat × Nat} (h1 : c.ι q = some p) (h2 : p.O = 0) (h3 : c.w.heap[p.B]? = some (.cells cs t fz)) (h4 : k ≤ cs.size) :
    HRel ⟨c.F, c.ι, hupd c.hp (q + 1) (some [[.ty t k]]), c.w⟩ nx ∧ Ext c ⟨c.F, c.ι, hupd c.hp (q + 1) (some [[.ty t k]]), c.w⟩ := by
  let c' : Cx := ⟨c.F, c.ι, hupd c.hp (q + 1) (some [[.ty t k]]), c.w⟩
  have hho : ∀ r, r ≠ q + 1 → c'.hp r = c.hp r := fun r hr => by show hupd _ _ _ r = _; simp [hupd, hr]
  have hhq : c'.hp (q + 1) = some [[.ty t k]] := by show hupd _ _ _ (q + 1) = _; simp [hupd]
  have hne : ∀ r p, c'.ι r = some p → r ≠ q + 1 := by rintro r p h rfl; have h : c.ι (q + 1) = some p := h; rw [hι] at h; cases h
  have hext : Ext c c' := by
    refine ⟨rfl, fun _ _ h => h, Nat.le_refl _, ?_, rfl, rfl, rfl⟩
    intro B hB ho
    refine ⟨?_, rfl⟩
    rintro ⟨r, p, e1, e2, e3⟩
    exact ho ⟨r, p, by rw [← hho r (hne r p e2)]; exact e1, e2, e3⟩
  refine ⟨⟨?_, hh.lt, ?_, ?_, hh.F, ⟨?_, ?_⟩, hh.gl.ext hext⟩, hext⟩
  · intro r hr
    by_cases he : r = q + 1
    · omega
    · have hr : c'.hp r ≠ none := hr
      rw [hho r he] at hr; exact hh.dom r hr
  · intro r es p' e1 e2
    have e1 : c'.hp r = some es := e1
    rw [hho r (hne r p' e2)] at e1
    obtain ⟨hF, o, h3, h4⟩ := hh.blk r es p' e1 e2
    exact ⟨hF, o, h3, h4.move fun x u h => h.mono hext⟩
  · intro r r' p1 p2 e1 e2 e3 e4 e5
    have e1 : c'.hp r ≠ none := e1
    have e2 : c'.hp r' ≠ none := e2
    rw [hho r (hne r p1 e3)] at e1; rw [hho r' (hne r' p2 e4)] at e2
    exact hh.inj r r' p1 p2 e1 e2 e3 e4 e5
  · intro r t' k' hr
    have hr : c'.hp (r + 1) = _ := hr
    by_cases he : r = q
    · subst he
      rw [hhq] at hr; simp only [Option.some.injEq, List.cons.injEq, AV.ty.injEq, and_true] at hr
      obtain ⟨rfl, rfl⟩ := hr
      exact ⟨p, cs, fz, h1, h2, h3, h4⟩
    · rw [hho (r + 1) (by omega)] at hr; exact hh.ty.1 r t' k' hr
  · intro r t' hr
    have hr : c'.hp (r + 1) = _ := hr
    by_cases he : r = q
    · subst he; rw [hhq] at hr; simp at hr
    · rw [hho (r + 1) (by omega)] at hr
      obtain ⟨p', cs', fz', g1, g2, g3⟩ := hh.ty.2 r t' hr
      exact ⟨p', cs', fz', g1, g2, fun hn => g3 (by
        by_cases h8 : r = q + 1
        · subst h8; rw [hι] at g1; cases g1
        · rw [← hho r h8]; exact hn)⟩

/-- It is told at a free number behind a block that no mark lies on it. -/
theorem addUm {c : Cx} {nx q : Nat} (hh : HRel c nx) (hq : q + 1 < nx) (hι : c.ι (q + 1) = none) {t : TypeId} {p : Place} {cs : Array Value} (h1 : c.ι q = some p) (h3 : c.w.heap[p.B]? = some (.cells cs t (0, 0))) :
    HRel ⟨c.F, c.ι, hupd c.hp (q + 1) (some [[.ty t 0], []]), c.w⟩ nx ∧ Ext c ⟨c.F, c.ι, hupd c.hp (q + 1) (some [[.ty t 0], []]), c.w⟩ := by
  let c' : Cx := ⟨c.F, c.ι, hupd c.hp (q + 1) (some [[.ty t 0], []]), c.w⟩
  have hho : ∀ r, r ≠ q + 1 → c'.hp r = c.hp r := fun r hr => by show hupd _ _ _ r = _; simp [hupd, hr]
  have hhq : c'.hp (q + 1) = some [[.ty t 0], []] := by show hupd _ _ _ (q + 1) = _; simp [hupd]
  have hne : ∀ r p, c'.ι r = some p → r ≠ q + 1 := by rintro r p h rfl; have h : c.ι (q + 1) = some p := h; rw [hι] at h; cases h
  have hext : Ext c c' := by
    refine ⟨rfl, fun _ _ h => h, Nat.le_refl _, ?_, rfl, rfl, rfl⟩
    intro B hB ho
    refine ⟨?_, rfl⟩
    rintro ⟨r, p, e1, e2, e3⟩
    exact ho ⟨r, p, by rw [← hho r (hne r p e2)]; exact e1, e2, e3⟩
  refine ⟨⟨?_, hh.lt, ?_, ?_, hh.F, ⟨?_, ?_⟩, hh.gl.ext hext⟩, hext⟩
  · intro r hr
    by_cases he : r = q + 1
    · omega
    · have hr : c'.hp r ≠ none := hr
      rw [hho r he] at hr; exact hh.dom r hr
  · intro r es p' e1 e2
    have e1 : c'.hp r = some es := e1
    rw [hho r (hne r p' e2)] at e1
    obtain ⟨hF, o, h3, h4⟩ := hh.blk r es p' e1 e2
    exact ⟨hF, o, h3, h4.move fun x u h => h.mono hext⟩
  · intro r r' p1 p2 e1 e2 e3 e4 e5
    have e1 : c'.hp r ≠ none := e1
    have e2 : c'.hp r' ≠ none := e2
    rw [hho r (hne r p1 e3)] at e1; rw [hho r' (hne r' p2 e4)] at e2
    exact hh.inj r r' p1 p2 e1 e2 e3 e4 e5
  · intro r t' k' hr
    have hr : c'.hp (r + 1) = _ := hr
    by_cases he : r = q
    · subst he
      rw [hhq] at hr; simp at hr
    · rw [hho (r + 1) (by omega)] at hr; exact hh.ty.1 r t' k' hr
  · intro r t' hr
    have hr : c'.hp (r + 1) = _ := hr
    by_cases he : r = q
    · subst he
      rw [hhq] at hr; simp only [Option.some.injEq, List.cons.injEq, AV.ty.injEq, and_true] at hr
      subst hr
      exact ⟨p, cs, _, h1, h3, fun _ => rfl⟩
    · rw [hho (r + 1) (by omega)] at hr
      obtain ⟨p', cs', fz', g1, g2, g3⟩ := hh.ty.2 r t' hr
      exact ⟨p', cs', fz', g1, g2, fun hn => g3 (by
        by_cases h8 : r = q + 1
        · subst h8; rw [hι] at g1; cases g1
        · rw [← hho r h8]; exact hn)⟩

theorem tlit_good {P : Program} {a : Act} {c : Cx} {nx : Nat} (hh : HRel c nx) {t e : TypeId} {i : TypeInfo} {zv : Value} {n : Nat} {parts : Array (Nat × Operand)} {tm : Nat → AV} (ht : TRel c tm a) {es : Blk}
    (hu : P.underlying t = some (.slice e)) (hi : P.info? e = some i) (hzv : i.zero = some zv) (hzs : zv.cells.size = i.size) (hs0 : 0 < i.size) (hlim : n * i.size ≤ 16777216)
    (hes : fillS i.size (List.replicate n (zv.cells.toList.map ofV1)) ((parts.toList.map fun p => (p.1, cO p.2)).map fun p => (p.1, ev tm p.2)) = some es) {dst : Option Tmp} {type : TypeId} {pos : String} {after : Array Edge} {guard : Option (Nat × Bool)} :
    EGood P ⟨dst, .buildSlice t n parts, type, pos, after, guard⟩ a c (.sl nx i.size 0 es.length (some es.length)) (hupd (hupd c.hp nx (some es)) (nx + 1) (some [[.ty e 0], []])) (nx + 2) := by
  obtain ⟨cc, h1, h2, h3, h4⟩ := bslice_run (P := P) hs0 hzs ht hes
  have hcs : cc.size = n * i.size := by
    have := h4.1
    rw [flat_length es h3, h2] at this
    simpa using this.symm
  let w' : World := { c.w with heap := c.w.heap.push (.cells cc e) }
  obtain ⟨k1, k2⟩ := push_rel (nx := nx) hh (w' := w') (cs := cc) (e := e) (fz := (0, 0)) (es := es) (sz := i.size) rfl rfl rfl rfl (by intro o h; simp) (by
    intro k y hy
    obtain ⟨h5, h6⟩ := rows_of h3 h4 k y hy
    exact ⟨h5, fun j av hj => let ⟨u, h7, h8⟩ := h6 j av hj; ⟨u, by rw [← getElem?_arr]; exact h7, h8⟩⟩)
  obtain ⟨m1, m2⟩ := addUm (q := nx) (t := e) (p := ⟨c.w.heap.size, 0, i.size, cc.size, []⟩) (cs := cc) k1.up (by omega) k1.fresh (by show iupd _ _ _ nx = _; simp [iupd]) (by show (c.w.heap.push _)[c.w.heap.size]? = _; simp)
  refine ⟨.slice (some ⟨c.w.heap.size, 0, none⟩) n n, w', _, .inl (bslice_exec hu hi hzv hs0 hlim h1), k2.trans m2, m1, ?_⟩
  rw [h2]
  exact .sl (p := ⟨c.w.heap.size, 0, i.size, cc.size, []⟩) (by show iupd _ _ _ nx = _; simp [iupd]) rfl (fun _ => by simp) (Nat.le_refl _) (fun m hm => by simp only [Option.some.injEq] at hm; exact hm.symm) (fun _ => by simp [hcs]) (fun h => by simp at h) (Nat.zero_le _)

theorem talloc_good {P : Program} {a : Act} {c : Cx} {nx : Nat} (hh : HRel c nx) {e : TypeId} {z : List AV} (hz : zeroOf P e = some z) {dst : Option Tmp} {type : TypeId} {pos : String} {after : Array Edge} {guard : Option (Nat × Bool)} :
    EGood P ⟨dst, .alloc e, type, pos, after, guard⟩ a c (.ptr nx 0 0) (hupd (hupd c.hp nx (some [z])) (nx + 1) (some [[.ty e z.length]])) (nx + 2) := by
  obtain ⟨i, zv, hi, hzv, hzs, rfl⟩ := zeroOf_spec hz
  let w' : World := { c.w with heap := c.w.heap.push (.cells zv.cells e) }
  obtain ⟨h1, h2⟩ := push_rel (nx := nx) hh (w' := w') (cs := zv.cells) (e := e) (fz := (0, 0)) (es := [zv.cells.toList.map ofV1]) (sz := (zv.cells.toList.map ofV1).length) rfl rfl rfl rfl (by intro o h; simp) (by
    intro k x hx
    obtain ⟨h1, h2⟩ := one_row (zero_rel c hzs) k x hx
    exact ⟨h1, fun j av hj => let ⟨u, h3, h4⟩ := h2 j av hj; ⟨u, by rw [← getElem?_arr]; exact h3, h4⟩⟩)
  obtain ⟨h3, h4⟩ := addTy (q := nx) (t := e) (k := (zv.cells.toList.map ofV1).length) (p := ⟨c.w.heap.size, 0, (zv.cells.toList.map ofV1).length, zv.cells.size, []⟩) (cs := zv.cells) (fz := (0, 0)) h1.up (by omega)
    h1.fresh (by show iupd _ _ _ nx = _; simp [iupd]) rfl (by show (c.w.heap.push _)[c.w.heap.size]? = _; simp) (by simp)
  refine ⟨.pointer (some ⟨c.w.heap.size, 0, none⟩), w', _, .inl ?_, h2.trans h4, h3, ?_⟩
  · simp [execOp, Instr.alloc, zeroValue, typeInfo, hi, hzv, newVar, newRow, w']
  · have := VRel.ptr (c := ⟨c.F, iupd c.ι nx ⟨c.w.heap.size, 0, (zv.cells.toList.map ofV1).length, zv.cells.size, []⟩, hupd (hupd c.hp nx (some [zv.cells.toList.map ofV1])) (nx + 1) (some [[.ty e (zv.cells.toList.map ofV1).length]]), w'⟩) (r := nx) (i := 0) (off := 0) (p := ⟨c.w.heap.size, 0, (zv.cells.toList.map ofV1).length, zv.cells.size, []⟩) (by show iupd _ _ _ nx = _; simp [iupd]) (Nat.zero_le _)
    simpa using this

theorem append_fits_val {P : Program} {ts : Array TypeId} {ty t e t2 : TypeId} {d2 : TypeDesc} {i : TypeInfo} {w w' : World} {base : Option Addr} {sLen sCap n : Nat} {x u : Value} {arr : Array Value} (h0 : ts[0]? = some t) (h1 : ts[1]? = some t2) (hu : P.underlying t = some (.slice e)) (hu2 : P.underlying t2 = some d2) (hd : ∀ k, d2 ≠ .int k) (hi : P.info? e = some i)
    (hl : (Builtin.lenOf x).run P w = .ok n w) (hf : (Builtin.firstCells i.size n x).run P w = .ok arr w) (hfit : sLen + n ≤ sCap)
    (hr : (Builtin.append_ ts ty #[.slice base sLen sCap, x]).run P w = .ok u w') : u = .slice base (sLen + n) sCap := by
  have hz' : (d2 matches .int _) = false := by cases d2 <;> first | rfl | exact absurd rfl (hd _)
  have hsz : (sizeOf e).run P w = .ok i.size w := by simp [sizeOf, typeInfo, hi]
  unfold Builtin.append_ at hr
  rw [h0, h1, show (#[Value.slice base sLen sCap, x] : Array Value)[0]? = some (.slice base sLen sCap) from rfl, show (#[Value.slice base sLen sCap, x] : Array Value)[1]? = some x from rfl] at hr
  simp only [Sem.run_bind, run_underlying hu, run_underlying hu2, hsz, Result.andThen_ok, Sem.run_pure] at hr
  simp only [hz', Bool.false_eq_true, if_false, hl, Result.andThen_ok, hfit, if_true, Bool.not_false, Sem.run_bind, hf] at hr
  cases base with
  | none => simp at hr; exact hr.1.symm
  | some ad =>
    simp only at hr
    cases hst : (storeCells (ad.add (sLen * i.size)) arr.toList).run P w with
    | ok y w2 => simp [hst] at hr; exact hr.1.symm
    | _ => simp [hst] at hr

/-- What an append to bytes does, with their block's type told. -/
theorem tappA_good {P : Program} {o : Oper} {a : Act} {c : Cx} {nx : Nat} (hh : HRel c nx) {ts : Array TypeId} {ty e : TypeId} {s : AV} {su x : Value} {new : Blk} {arr zc : Array Value} {v : AV} {hp' : Heap} {nx' : Nat}
    (hexec : ∀ u w', (Builtin.append_ ts ty #[su, x]).run P c.w = .ok u w' → RunsTo P o a c.w u w') (hinv : ∀ u w', RunsTo P o a c.w u w' → (Builtin.append_ ts ty #[su, x]).run P c.w = .ok u w') (hs : VRel c s su) (hz : zc.size = 1)
    (hrows : ∀ (i : Nat) (l : List AV), new[i]? = some l → l.length = 1) (hrel : LRel c new.flatten arr.toList) (hone : new.all (fun l => l.all AV.one) = true)
    (fitsR : ∀ (base : Option Addr) (sLen sCap : Nat) (w' : World), sLen + new.length ≤ sCap → (match base with | some ad => storeCells (ad.add (sLen * 1)) arr.toList | none => pure ()).run P c.w = .ok () w' → (Builtin.append_ ts ty #[.slice base sLen sCap, x]).run P c.w = .ok (.slice base (sLen + new.length) sCap) w')
    (fitsE : ∀ (base : Option Addr) (sLen sCap : Nat) (u : Value) (w' : World), sLen + new.length ≤ sCap → (Builtin.append_ ts ty #[.slice base sLen sCap, x]).run P c.w = .ok u w' → u = .slice base (sLen + new.length) sCap)
    (growR : ∀ (base : Option Addr) (sLen sCap : Nat) (old : Array Value), (∀ w', w'.heap = c.w.heap → (Builtin.firstCells 1 sLen (.slice base sLen sCap)).run P w' = .ok old w') → ¬ sLen + new.length ≤ sCap → (sLen + new.length) * 1 ≤ 140737488355328 →
      ∃ cap w', sLen + new.length ≤ cap ∧ (Builtin.append_ ts ty #[.slice base sLen sCap, x]).run P c.w = .ok (.slice (some ⟨c.w.heap.size, 0, none⟩) (sLen + new.length) cap) w' ∧
      w'.heap = c.w.heap.push (.cells (old ++ arr ++ Builtin.zeroCells zc (cap - (sLen + new.length))) e) ∧ w'.os = c.w.os ∧ w'.tape = c.w.tape ∧ w'.output = c.w.output)
    (hA : tappA e s new c.hp nx = some (v, hp', nx')) : EGood P o a c v hp' nx' := by
  have plain := fun {v : AV} {hp1 : Heap} {nx1 : Nat} => appA_good (P := P) (o := o) (a := a) (nx := nx) (v := v) (hp' := hp1) (nx' := nx1) hh (bytes := 1) (sz := 1) hexec hs rfl (by omega) hz hrows hrel hone fitsR growR
  unfold tappA at hA
  split at hA
  · rename_i z
    split at hA
    · rename_i h0
      simp only [Option.some.injEq, Prod.mk.injEq] at hA
      obtain ⟨rfl, rfl, rfl⟩ := hA
      exact plain (by simp [appA, h0])
    · rename_i h0
      split at hA
      · rename_i hle
        simp only [Option.some.injEq, Prod.mk.injEq] at hA
        obtain ⟨rfl, rfl, rfl⟩ := hA
        have hpos : 0 < new.length := by omega
        obtain ⟨u, w', ι', hr, hx, hrel', hv⟩ := plain (v := .sl nx 1 0 new.length none) (hp1 := hupd c.hp nx (some new)) (nx1 := nx + 1) (by
          simp only [appA, true_or, if_true]
          rw [if_neg h0]
          simp [hpos, hle])
        have hsu : su = .slice none 0 0 := by cases hs with | nil _ => rfl
        have hrun := hinv u w' hr
        rw [hsu] at hrun
        obtain ⟨cap, w2, hc, hrun2, hheap, _⟩ := growR none 0 0 #[] (fun w' _ => by simp [Builtin.firstCells]) (by omega) (by omega)
        rw [hrun] at hrun2
        simp only [Result.ok.injEq] at hrun2
        obtain ⟨rfl, rfl⟩ := hrun2
        rw [Nat.zero_add] at hv
        have hv' := hv
        cases hv with
        | sl hι hs' ha hl hcap hN hE hpm =>
          rename_i p
          have ha' := ha (by omega)
          simp only [Addr.mk.injEq, Nat.zero_mul, Nat.add_zero, and_true] at ha'
          obtain ⟨g1, g2⟩ := ha'
          obtain ⟨k1, k2⟩ := addTy (q := nx) (t := e) (k := 0) (p := p) (fz := (0, 0)) hrel'.up (by omega) hrel'.fresh hι g2.symm (by show w'.heap[p.B]? = _; rw [← g1, hheap]; simp; rfl) (Nat.zero_le _)
          exact ⟨_, w', ι', hr, hx.trans k2, k1, by rw [Nat.zero_add]; exact hv'.mono k2⟩
      · cases hA
  · rename_i q sz i len
    split at hA
    · rename_i hb
      obtain ⟨rfl, rfl⟩ := hb
      split at hA
      · rename_i t' k es hty hes
        split at hA
        · rename_i hb
          obtain ⟨rfl, hle⟩ := hb
          split at hA
          · rename_i hfit
            simp only [Option.some.injEq, Prod.mk.injEq] at hA
            obtain ⟨rfl, rfl, rfl⟩ := hA
            exact plain (by simp only [appA, if_true, hes, Nat.zero_add]; rw [if_neg (by omega), if_pos hfit])
          · rename_i hnfit
            split at hA
            · rename_i hlim
              simp only [Option.some.injEq, Prod.mk.injEq] at hA
              obtain ⟨rfl, rfl, rfl⟩ := hA
              obtain ⟨u, w', ι', hr, hx, hrel', hv⟩ := plain (v := .sl nx 1 0 (len + new.length) none) (hp1 := hupd (hupd c.hp q none) nx (some (es.take len ++ new))) (nx1 := nx + 1) (by
                simp only [appA, if_true, hes, Nat.zero_add, List.drop_zero]
                rw [if_neg (by omega), if_neg hnfit, if_pos (by omega)])
              have hel : elemsA c.hp 1 (.sl q 1 0 len none) = some ((es.drop 0).take len) := by simp [elemsA, hes, hle]
              obtain ⟨_, _, helr⟩ := elems_run (P := P) hh hs hel
              obtain ⟨ys, y1, _⟩ := helr ((es.drop 0).take len).length (Nat.le_refl _)
              have hlen : ((es.drop 0).take len).length = len := by simp; omega
              rw [hlen] at y1
              have hrun := hinv u w' hr
              have hv' := hv
              cases hs with
              | @sl _ _ _ _ m _ p ad hι hs' ha hl hcap hN hE =>
                have hnew : 0 < new.length := by omega
                cases hv with
                | @sl _ _ _ _ m2 _ p2 ad2 hι2 hs2 ha2 hl2 hcap2 hN2 hE2 =>
                  have hm2 : m2 ≠ 0 := by omega
                  have ha2' := ha2 hm2
                  have key : p2.O = 0 ∧ ∃ cs fz, w'.heap[p2.B]? = some (.cells cs t' fz) := by
                    by_cases hf : len + new.length ≤ m
                    · have hu := fitsE _ _ _ _ _ hf hrun
                      simp only [Value.slice.injEq, Option.some.injEq] at hu
                      obtain ⟨rfl, _, rfl⟩ := hu
                      have ha' := ha hm2
                      rw [ha'] at ha2'
                      simp only [Addr.mk.injEq, Nat.zero_mul, Nat.add_zero, and_true] at ha2'
                      obtain ⟨p0, cs, fz, g1, g2, g3, g4⟩ := hrel'.ty.1 q t' k (by
                        show hupd _ _ _ (q + 1) = _
                        have hqn : q + 1 < nx := hh.dom (q + 1) (by rw [hty]; simp)
                        simp [hupd, show ¬ q + 1 = nx by omega, hty])
                      have : ι' q = some p := hx.ι q p hι
                      have g1 : ι' q = some p0 := g1
                      rw [this] at g1; simp only [Option.some.injEq] at g1; subst g1
                      exact ⟨by rw [← ha2'.2, g2], cs, fz, by rw [← ha2'.1]; exact g3⟩
                    · obtain ⟨cap, w2, hc, hrun2, hheap, _⟩ := growR _ _ _ _ y1 hf (by omega)
                      rw [hrun] at hrun2
                      simp only [Result.ok.injEq, Value.slice.injEq, Option.some.injEq] at hrun2
                      obtain ⟨⟨rfl, _, _⟩, rfl⟩ := hrun2
                      simp only [Addr.mk.injEq, Nat.zero_mul, Nat.add_zero, and_true] at ha2'
                      exact ⟨ha2'.2.symm, _, _, by rw [← ha2'.1, hheap]; exact Array.getElem?_push_size⟩
                  obtain ⟨hO, cs, fz, hc⟩ := key
                  obtain ⟨k1, k2⟩ := addTy (q := nx) (t := t') (k := 0) (p := p2) hrel'.up (by omega) hrel'.fresh hι2 hO hc (Nat.zero_le _)
                  exact ⟨_, w', ι', hr, hx.trans k2, k1, hv'.mono k2⟩
            · cases hA
        · cases hA
      · cases hA
    · cases hA
  · cases hA

theorem toB8_spec : ∀ {es : Blk} {l : List UInt8}, toB8 es = some l → es = bytesOf l
  | [], l, h => by simp [toB8] at h; subst h; rfl
  | c :: r, l, h => by
    simp only [toB8] at h
    split at h
    · rename_i b l' hb hl
      split at h
      · rename_i n
        split at h
        · rename_i hn
          simp only [Option.some.injEq] at h; subst h
          rw [toB8_spec hl, hn]; rfl
        · cases h
      · cases h
    · cases h

/-- A block is let go, and marked as it may be. -/
theorem drop_rel {c : Cx} {nx : Nat} (hh : HRel c nx) {q : Nat} {es : Blk} {p : Place} (hq : c.hp q = some es) (hp : c.ι q = some p) {w' : World} {cs : Array Value} {e : TypeId} {fz fz' : Nat × Nat}
    (hb : c.w.heap[p.B]? = some (.cells cs e fz)) (hsize : w'.heap.size = c.w.heap.size) (hgo : ∀ B, B ≠ p.B → w'.heap[B]? = c.w.heap[B]?) (hgn : w'.heap[p.B]? = some (.cells cs e fz'))
    (hos : w'.os = c.w.os) (htape : w'.tape = c.w.tape) (hout : w'.output = c.w.output) :
    let c' : Cx := ⟨c.F, c.ι, hupd c.hp q none, w'⟩
    HRel c' nx ∧ Ext c c' := by
  intro c'
  have hhq : c'.hp q = none := by show hupd _ _ _ q = _; simp [hupd]
  have hho : ∀ r, r ≠ q → c'.hp r = c.hp r := fun r hr => by show hupd _ _ _ r = _; simp [hupd, hr]
  have hne : ∀ r, c'.hp r ≠ none → r ≠ q := by rintro r h rfl; exact h hhq
  have howner : c.own p.B := ⟨q, p, by simp [hq], hp, rfl⟩
  have hext : Ext c c' := by
    refine ⟨rfl, fun _ _ h => h, by show _ ≤ w'.heap.size; omega, ?_, hos, htape, hout⟩
    intro B hB ho
    refine ⟨?_, hgo B (by rintro rfl; exact ho howner)⟩
    rintro ⟨r, p', e1, e2, e3⟩
    exact ho ⟨r, p', by rw [← hho r (hne r e1)]; exact e1, e2, e3⟩
  refine ⟨⟨?_, hh.lt, ?_, ?_, ?_, ?_, hh.gl.ext hext⟩, hext⟩
  · intro r hr; exact hh.dom r (by rw [← hho r (hne r hr)]; exact hr)
  · intro r es' p' e1 e2
    have hr : r ≠ q := hne r (by rw [e1]; simp)
    have e1' : c.hp r = some es' := by rw [← hho r hr]; exact e1
    obtain ⟨hF, o, h3, h4⟩ := hh.blk r es' p' e1' e2
    have hB : p'.B ≠ p.B := fun h => hr (hh.inj r q p' p (by simp [e1']) (by simp [hq]) e2 hp h)
    exact ⟨hF, o, (hgo _ hB).trans h3, h4.move fun x u h => h.mono hext⟩
  · intro r r' p1 p2 e1 e2 e3 e4 e5
    exact hh.inj r r' p1 p2 (by rw [← hho r (hne r e1)]; exact e1) (by rw [← hho r' (hne r' e2)]; exact e2) e3 e4 e5
  · intro B hB
    have := hh.F B hB
    show B < w'.heap.size
    omega
  · refine ⟨hh.ty.1.to (fun r t k rest hr => by
      have hr' : c'.hp r = _ := hr
      rw [← hho r (hne r (by rw [hr']; simp))]; exact hr') (fun _ _ h => h) fun B cs1 t fz1 hB => ?_, fun r t hr => ?_⟩
    · by_cases he : B = p.B
      · subst he
        rw [hb, Option.some.injEq, Obj.cells.injEq] at hB
        obtain ⟨rfl, rfl, rfl⟩ := hB
        exact ⟨cs, fz', hgn, rfl⟩
      · exact ⟨cs1, fz1, (hgo B he).trans hB, rfl⟩
    · have hr' : c'.hp (r + 1) = _ := hr
      rw [hho _ (hne _ (by rw [hr']; simp))] at hr'
      obtain ⟨p', cs', f', g1, g2, g3⟩ := hh.ty.2 r t hr'
      by_cases hB : p'.B = p.B
      · rw [hB, hb, Option.some.injEq, Obj.cells.injEq] at g2
        obtain ⟨rfl, rfl, rfl⟩ := g2
        refine ⟨p', cs, fz', g1, by show w'.heap[p'.B]? = _; rw [hB]; exact hgn, fun hn => ?_⟩
        have hn : c'.hp r ≠ none := hn
        have hrq := hne r hn
        exact absurd (hh.inj r q p' p (by rw [← hho r hrq]; exact hn) (by simp [hq]) g1 hp hB) hrq
      · exact ⟨p', cs', f', g1, (hgo _ hB).trans g2, fun hn => g3 (by
          have hn : c'.hp r ≠ none := hn
          rw [← hho r (hne r hn)]; exact hn)⟩

theorem ustr_good {P : Program} {o : Oper} {a : Act} {c : Cx} {nx : Nat} (hh : HRel c nx) {pt it ty e : TypeId} {q n : Nat} {xu : Value} {es : Blk} {l : List UInt8} {k : Nat} (hp : P.underlying pt = some (.pointer e)) (hc : P.cellsOf e = 1)
    (hexec : ∀ u w', (Builtin.unsafeString_ #[pt, it] ty #[xu, .int .i64 n]).run P c.w = .ok u w' → RunsTo P o a c.w u w') (hx : VRel c (.ptr q 0 0) xu) (hty : c.hp (q + 1) = some [[.ty e k]]) (hes : c.hp q = some es) (h0 : 0 < n) (hn : n ≤ es.length) (hl : toB8 (es.take n) = some l) (h63 : n ≤ 9223372036854775807) :
    EGood P o a c (.str l) (hupd c.hp q none) nx := by
  cases hx with
  | @ptr _ _ _ p hι hpm =>
    obtain ⟨p0, cs0, fz0, g1, g2, g3, _⟩ := hh.ty.1 q e k hty
    rw [hι] at g1; simp only [Option.some.injEq] at g1; subst g1
    obtain ⟨_, cs, e', fz, h3, h4, h5, h6⟩ := hh.cells hes hι hpm
    rw [g3, Option.some.injEq, Obj.cells.injEq] at h3
    obtain ⟨rfl, rfl, rfl⟩ := h3
    have hns := toB8_spec hl
    have hlen : l.length = n := by
      have := congrArg List.length hns
      simp [bytesOf] at this; omega
    have hat : ∀ (j : Nat) (x : UInt8), l[j]? = some x → cs0[j]? = some (Value.int .u8 x.toNat) := by
      intro j x hj
      have hjl : j < n := by have := (List.getElem?_eq_some_iff.1 hj).1; omega
      have h7 : es[j]? = some [.v (.int .u8 x.toNat)] := by
        have h8 : (es.take n)[j]? = some [.v (.int .u8 x.toNat)] := by rw [hns]; simp [bytesOf, hj]
        rw [List.getElem?_take, if_pos hjl] at h8; exact h8
      obtain ⟨h8, h9⟩ := h6 j _ h7
      obtain ⟨u, h10, h11⟩ := h9 0 _ rfl
      have h8 : p.sz = 1 := by simpa using h8.symm
      rw [h11.v_inv, h8, g2] at h10
      simpa using h10
    have hrow : ∀ (j : Nat) (x : UInt8), l[j]? = some x → c.w.cell? ((⟨p.B, 0, none⟩ : Addr).add j) = some (.int .u8 x.toNat) := by
      intro j x hj
      rw [add_addr]
      simp only [World.cell?, g3]
      simpa using hat j x hj
    have hsz : l.length ≤ cs0.size := by
      have hlast : l.length - 1 < l.length := by omega
      have := hat (l.length - 1) _ (List.getElem?_eq_getElem hlast)
      have := (Array.getElem?_eq_some_iff.1 this).1
      omega
    have hrun := Lib.run_unsafeString_row (P := P) c.w pt it ty e hp hc p.B cs0.size (by simp [World.shape?, g3]) l (by intro h; subst h; simp at hlen; omega) hsz (by omega) hrow
    rw [hlen] at hrun
    have hxe : (⟨p.B, p.O + 0 * p.sz + 0, none⟩ : Addr) = ⟨p.B, 0, none⟩ := by rw [g2]; simp
    rw [hxe] at hexec
    have hlt : p.B < c.w.heap.size := (Array.getElem?_eq_some_iff.1 g3).1
    have hne : ¬ n = 0 := by omega
    have hfr : ∃ fz', (c.w.freeze ⟨p.B, 0, none⟩ n).heap[p.B]? = some (.cells cs0 e fz') := by
      obtain ⟨lo, hi⟩ := fz0
      simp [World.freeze, hne, Array.getElem?_modify, g3]
    obtain ⟨fz', hfr⟩ := hfr
    obtain ⟨k1, k2⟩ := drop_rel hh hes hι (w' := c.w.freeze ⟨p.B, 0, none⟩ n) g3 (by simp [World.freeze, hne]) (fun B hB => by
      simp [World.freeze, hne, Array.getElem?_modify, Ne.symm hB]) hfr (by simp [World.freeze, hne]) (by simp [World.freeze, hne]) (by simp [World.freeze, hne])
    exact ⟨_, _, c.ι, hexec _ _ hrun, k2, k1, .str _⟩

theorem evE_tapp {P : Program} {b : Builtin} {args : Array Operand} {ts : Array TypeId} {dst : Option Tmp} {type : TypeId} {pos : String} {after : Array Edge} {guard : Option (Nat × Bool)} {co : COp} {tm : Nat → AV} {a : Act} {c : Cx} {v : AV} {hp' : Heap} {nx nx' : Nat}
    (hco : compTapp P b args.toList ts = some co) (he : evE tm c.hp nx co = some (v, hp', nx')) (ht : TRel c tm a) (hh : HRel c nx) :
    EGood P ⟨dst, .call ⟨.builtin b, args, ts⟩, type, pos, after, guard⟩ a c v hp' nx' := by
  unfold compTapp at hco
  split at hco
  · rename_i s x hargs
    have hm := map_pair (f := a.eval) hargs
    have h1 := cO_rel ht s
    have h2 := cO_rel ht x
    split at hco
    · rename_i t t2 ht0 ht1
      have go : ∀ (e : TypeId) (d2 : TypeDesc) (z : List AV) (i : TypeInfo), P.underlying t = some (.slice e) → P.underlying t2 = some d2 → (∀ k, d2 ≠ .int k) → zeroOf P e = some z → P.info? e = some i → i.size = 1 ∧ i.bytes = 1 ∧ isU8 P e = true → co = .tapp e (cO s) (cO x) →
          EGood P ⟨dst, .call ⟨.builtin .append, args, ts⟩, type, pos, after, guard⟩ a c v hp' nx' := by
        intro e d2 z i hu hu2 hd hz hi hb hceq
        subst hceq
        obtain ⟨hs1, hb1, hu8⟩ := hb
        obtain ⟨i', zv, hi', hzv, hzs, rfl⟩ := zeroOf_spec hz
        rw [hi] at hi'; simp only [Option.some.injEq] at hi'; subst hi'
        simp only [evE] at he
        split at he
        · rename_i new hel
          split at he
          · rename_i hone
            generalize hsu : a.eval s = su at h1 hm
            generalize hxu : a.eval x = xu at h2 hm
            obtain ⟨e1, e2, e3⟩ := elems_run (P := P) hh h2 hel
            obtain ⟨ys, y1, y2⟩ := e3 new.length (Nat.le_refl _)
            rw [List.take_length] at y2
            have y1' : ∀ w' : World, w'.heap = c.w.heap → (Builtin.firstCells i.size new.length xu).run P w' = .ok ys.toArray w' := by rw [hs1]; exact y1
            refine tappA_good (ts := ts) (ty := type) (x := xu) (arr := ys.toArray) (zc := zv.cells) hh ?_ ?_ h1 (by rw [hzs, hs1]) e2 (by simpa using y2) hone ?_ ?_ ?_ he
            · intro u w' hrun
              refine .inl (builtin_exec ?_)
              rw [hm]
              simp only [builtin, Sem.run_bind, hrun, Result.andThen_ok, Sem.run_pure]
            · intro u w' hr
              have hbe : (execOp a.eval ⟨dst, .call ⟨.builtin .append, args, ts⟩, type, pos, after, guard⟩).run P c.w = ((Builtin.append_ ts type #[su, xu]).run P c.w).andThen fun v w' => .ok (.value v) w' := by
                simp only [execOp, resolve, Sem.run_bind, Sem.run_pure, Result.andThen_ok, invoke]
                rw [hm]
                simp only [builtin, Sem.run_bind, Sem.run_pure]
              rcases hr with hr | ⟨hr, _⟩
              · rw [hbe] at hr
                cases hq : (Builtin.append_ ts type #[su, xu]).run P c.w with
                | ok u2 w2 => rw [hq] at hr; simp at hr; rw [hr.1, hr.2]
                | _ => rw [hq] at hr; simp [Result.andThen] at hr
              · rw [hbe] at hr
                cases hq : (Builtin.append_ ts type #[su, xu]).run P c.w with
                | ok u2 w2 => rw [hq] at hr; simp at hr
                | _ => rw [hq] at hr; simp [Result.andThen] at hr
            · intro base sLen sCap w' hfit hst
              have := append_fits_run (P := P) (ty := type) (x := xu) (n := new.length) (arr := ys.toArray) ht0 ht1 hu hu2 hd hi e1 (y1' c.w rfl) hfit (w' := w') (base := base) (sLen := sLen) (sCap := sCap) (by rw [hs1]; exact hst)
              exact this
            · intro base sLen sCap u w' hfit hr
              exact append_fits_val ht0 ht1 hu hu2 hd hi e1 (y1' c.w rfl) hfit hr
            · intro base sLen sCap old ho hfit hby
              exact append_grow_run ht0 ht1 hu hu2 hd hi hzv e1 y1' (by rw [hs1]; exact ho) hfit (by omega) (by rw [hb1]; exact hby)
          · simp at he
        · simp at he
      split at hco
      · rename_i e hu hu2
        split at hco
        · rename_i z i hz hi
          split at hco
          · rename_i hb
            simp only [Option.some.injEq] at hco
            exact go e _ z i hu hu2 (fun k h => by cases h) hz hi hb hco.symm
          · simp at hco
        · simp at hco
      · rename_i e q hu hu2
        split at hco
        · rename_i z i hz hi
          split at hco
          · rename_i hb
            simp only [Option.some.injEq] at hco
            exact go e _ z i hu hu2 (fun k h => by cases h) hz hi hb hco.symm
          · simp at hco
        · simp at hco
      · simp at hco
    · simp at hco
  · simp at hco
end Go.Ai
