/- Operations that make or change owned memory: the one theorem. -/
import Derived.Test.YtooomkpingiojaaGreatAiOpsM
import Derived.Test.YtooomkpingiojaaGreatAiOpsO
namespace Go.Ai
set_option linter.unusedVariables false
set_option linter.unusedSimpArgs false

theorem zeros_flat (c : Cx) {zv : Value} {sz n : Nat} (hz : zv.cells.size = sz) : LRel c (List.replicate n (zv.cells.toList.map ofV1)).flatten (Builtin.zeroCells zv.cells n).toList := by
  rcases Nat.eq_zero_or_pos sz with h0 | h0
  · have hnil : zv.cells.toList = [] := by
      have : zv.cells.size = 0 := by omega
      simpa using this
    have h1 : (List.replicate n (zv.cells.toList.map ofV1)).flatten = [] := by
      rw [hnil]
      simp
    have h2 : Builtin.zeroCells zv.cells n = #[] := zeroCells_nil hz (by rw [h0]; simp)
    rw [h1, h2]
    exact ⟨rfl, fun k av u h => by simp at h⟩
  · have := zeroRows_rel c (len := n) hz h0
    unfold Builtin.zeroCells
    rw [hz]
    rw [hz] at this
    exact this

theorem map_single {α β : Type} {f : α → β} {args : Array α} {x : α} (h : args.toList = [x]) : args.map f = #[f x] := by
  have : args = #[x] := Array.toList_inj.1 (by simpa using h)
  subst this; simp

theorem clear_good {P : Program} {a : Act} {c : Cx} {nx : Nat} (hh : HRel c nx) {ts : Array TypeId} {t e : TypeId} {inf : TypeInfo} {args : Array Operand} {x : Operand} {tm : Nat → AV} (ht : TRel c tm a) {r i len : Nat} {cap : Option Nat} {es : Blk} {z : List AV}
    (h0 : ts[0]? = some t) (hu : P.underlying t = some (.slice e)) (hi : P.info? e = some inf) (hz : zeroOf P e = some z) (hargs : args.toList = [x])
    (hd : ev tm (cO x) = .sl r inf.size i len cap) (hes : c.hp r = some es) (hin : i + len ≤ es.length) (hzl : z.length = inf.size) (hpos : 0 < inf.size) (hzo : z.all AV.one = true)
    {dst : Option Tmp} {type : TypeId} {pos : String} {after : Array Edge} {guard : Option (Nat × Bool)} :
    EGood P ⟨dst, .call ⟨.builtin .clear, args, ts⟩, type, pos, after, guard⟩ a c (.v (.tuple #[])) (hupd c.hp r (some (spliceL es i (List.replicate len z)))) nx := by
  have hm := map_single (f := a.eval) hargs
  have h1 := cO_rel ht x
  rw [hd] at h1
  generalize hud : a.eval x = ud at h1 hm
  obtain ⟨i', zv, hi', hzv, hzs, hze⟩ := zeroOf_spec hz
  have hii : inf = i' := by rw [hi] at hi'; exact Option.some.inj hi'
  subst hii
  cases h1 with
  | sl hι hps ha hl hcap hN hE hpm =>
    rename_i m p ad
    obtain ⟨hF, cs, ee, fz, g3, g4, g5, g6⟩ := hh.cells hes hι hpm
    have hrows : ∀ (k : Nat) (l : List AV), (List.replicate len z)[k]? = some l → l.length = inf.size := by
      intro k l hk
      rw [List.getElem?_replicate] at hk
      split at hk
      · simp only [Option.some.injEq] at hk; rw [← hk, hzl]
      · cases hk
    have y2 : LRel c (List.replicate len z).flatten (Builtin.zeroCells zv.cells len).toList := by rw [hze]; exact zeros_flat c hzs
    have hylen : (Builtin.zeroCells zv.cells len).toList.length = len * inf.size := by
      have := y2.1
      rw [flat_length _ hrows, List.length_replicate] at this
      exact this.symm
    by_cases hl0 : len = 0
    · subst hl0
      have hrun : (Builtin.clear_ ts type #[.slice (some ad) 0 m]).run P c.w = .ok (.tuple #[]) c.w := by
        unfold Builtin.clear_
        rw [h0, show (#[Value.slice (some ad) 0 m] : Array Value)[0]? = some (.slice (some ad) 0 m) from rfl]
        simp [Sem.run_bind, run_underlying hu, Result.andThen_ok, Sem.run_pure]
      have hsame : hupd c.hp r (some (spliceL es i (List.replicate 0 z))) = c.hp := by
        rw [show List.replicate 0 z = [] from rfl, spliceL_nil]
        funext q; unfold hupd; split
        · rename_i h; rw [h, hes]
        · rfl
      refine ⟨_, c.w, c.ι, .inl (builtin_exec ?_), ?_, ?_, .v _⟩
      · rw [hm]
        simp only [builtin, Sem.run_bind, hrun, Result.andThen_ok, Sem.run_pure]
      · rw [hsame]; exact Ext.refl c
      · rw [hsame]; exact hh
    · have hm0 : m ≠ 0 := by omega
      have had := ha hm0
      have hle : p.O + i * inf.size + (Builtin.zeroCells zv.cells len).toList.length ≤ cs.size := by
        rw [g4, hylen]
        have := hN hm0
        have h9 : i * inf.size + len * inf.size ≤ (i + m) * inf.size := by
          rw [← Nat.add_mul]; exact Nat.mul_le_mul_right _ (by omega)
        omega
      have honeT : ∀ v ∈ (Builtin.zeroCells zv.cells len).toList, v.oneCell' = true := one_cells y2 (by
        rw [List.all_eq_true]
        intro y hy
        obtain ⟨l, hl1, hl2⟩ := List.mem_flatten.1 hy
        rw [(List.mem_replicate.1 hl1).2] at hl2
        exact List.all_eq_true.1 hzo y hl2)
      obtain ⟨w', cs', s1, s2, s3, s4, s5, s6⟩ := storeCells_run (P := P) (B := p.B) (o := p.O + i * inf.size) (Builtin.zeroCells zv.cells len).toList 0 c.w cs g3 (by omega) (by intro k hk; rw [g4] at hk; exact g5 k hk) honeT
      rw [Nat.add_zero] at s3
      have hrun : (Builtin.clear_ ts type #[.slice (some ad) len m]).run P c.w = .ok (.tuple #[]) w' := by
        unfold Builtin.clear_
        rw [h0, show (#[Value.slice (some ad) len m] : Array Value)[0]? = some (.slice (some ad) len m) from rfl]
        have hzv' : (zeroValue e).run P c.w = .ok zv c.w := by simp [zeroValue, typeInfo, hi', hzv]
        obtain ⟨len, rfl⟩ : ∃ k, len = k + 1 := ⟨len - 1, by omega⟩
        rw [had]
        simp only [Sem.run_bind, run_underlying hu, Result.andThen_ok, hzv', s1, Sem.run_pure]
      have hget : ∀ q, cs'[q]? = if p.O + i * inf.size ≤ q ∧ q < p.O + i * inf.size + (Builtin.zeroCells zv.cells len).toList.length then (Builtin.zeroCells zv.cells len).toList[q - (p.O + i * inf.size)]? else cs[q]? := by
        intro q
        rw [← getElem?_arr, s3, getElem?_spliceL _ _ _ (by simpa using hle)]
        simp only [getElem?_arr]
      have hTlen : (List.replicate len z).length = len := by simp
      obtain ⟨k1, k2⟩ := write_rel hh hes hι g3 s2 (by
          have := congrArg List.length s3
          rw [length_spliceL _ _ _ (by simpa using hle)] at this
          simpa using this) s4 s5 s6 (es' := spliceL es i (List.replicate len z)) (by
        intro k l hk
        have hlt : i + (List.replicate len z).length ≤ es.length := by omega
        rw [getElem?_spliceL _ _ _ hlt] at hk
        split at hk
        · rename_i hkr
          obtain ⟨h7, h8⟩ := rows_of hrows y2 _ l hk
          refine ⟨h7.trans hps.symm, fun j av hj => ?_⟩
          obtain ⟨u, h9, h10⟩ := h8 j av hj
          refine ⟨u, ?_, h10⟩
          have hjl := (List.getElem?_eq_some_iff.1 hj).1
          rw [hps, hget]
          have hq : p.O + k * inf.size + j = p.O + i * inf.size + ((k - i) * inf.size + j) := by
            have : k * inf.size = i * inf.size + (k - i) * inf.size := by rw [← Nat.add_mul]; congr 1; omega
            omega
          have hlt2 : (k - i) * inf.size + j < (Builtin.zeroCells zv.cells len).toList.length := (List.getElem?_eq_some_iff.1 h9).1
          rw [if_pos (by omega), hq, Nat.add_sub_cancel_left]; exact h9
        · rename_i hkr
          obtain ⟨h7, h8⟩ := g6 k l hk
          refine ⟨h7, fun j av hj => ?_⟩
          have hjl := (List.getElem?_eq_some_iff.1 hj).1
          rw [hget, if_neg]
          · exact h8 j av hj
          · rintro ⟨q1, q2⟩
            rw [hps] at q1 q2 h7
            rw [hylen] at q2
            rcases Nat.lt_or_ge k i with hlt | hge
            · have := Nat.mul_le_mul_right inf.size (Nat.succ_le_of_lt hlt)
              rw [Nat.succ_mul] at this; omega
            · have hk2 : i + len ≤ k := by omega
              have := Nat.mul_le_mul_right inf.size hk2
              rw [Nat.add_mul] at this; omega)
      refine ⟨_, w', c.ι, .inl (builtin_exec ?_), k2, k1, .v _⟩
      rw [hm]
      simp only [builtin, Sem.run_bind, hrun, Result.andThen_ok, Sem.run_pure]

theorem evE_builtin {P : Program} {b : Builtin} {args : Array Operand} {ts : Array TypeId} {dst : Option Tmp} {type : TypeId} {pos : String} {after : Array Edge} {guard : Option (Nat × Bool)} {co : COp} {tm : Nat → AV} {a : Act} {c : Cx} {v : AV} {hp' : Heap} {nx nx' : Nat}
    (hco : compBuiltin P b args.toList ts = some co) (he : evE tm c.hp nx co = some (v, hp', nx')) (ht : TRel c tm a) (hh : HRel c nx) :
    EGood P ⟨dst, .call ⟨.builtin b, args, ts⟩, type, pos, after, guard⟩ a c v hp' nx' := by
  unfold compBuiltin at hco
  split at hco
  · simp only [Option.some.injEq] at hco; subst hco; simp [evE] at he
  · -- unsafe.String
    rename_i x y hargs
    have hm := map_pair (f := a.eval) hargs
    have h1 := cO_rel ht x
    have h2 := cO_rel ht y
    split at hco
    · rename_i e hb hsz
      split at hco
      · rename_i hcc
        simp only [Option.some.injEq] at hco; subst hco
        simp only [Option.bind_eq_some_iff] at hb
        obtain ⟨pt, hpt, hpu⟩ := hb
        obtain ⟨it, hts⟩ : ∃ it, ts = #[pt, it] := by
          obtain ⟨l⟩ := ts
          match l, hsz with
          | [p, q], _ => simp at hpt; subst hpt; exact ⟨q, rfl⟩
        subst hts
        simp only [evE] at he
        split at he
        · rename_i hx hy
          simp only [Option.some.injEq, Prod.mk.injEq] at he
          obtain ⟨rfl, rfl, rfl⟩ := he
          rw [hx] at h1; rw [hy] at h2
          refine ⟨.string .empty, c.w, c.ι, .inl (builtin_exec ?_), Ext.refl c, hh, .str []⟩
          rw [hm, h1.v_inv, h2.v_inv]
          simp only [builtin, Sem.run_bind, Lib.run_unsafeString_none, Result.andThen_ok, Sem.run_pure]
        · rename_i q n hx hy
          split at he
          · rename_i t' k es hty hes
            split at he
            · rename_i hn
              obtain ⟨rfl, hn0, hn1, hn2⟩ := hn
              simp only [Option.map_eq_some_iff, Prod.mk.injEq] at he
              obtain ⟨l, hl, rfl, rfl, rfl⟩ := he
              rw [hx] at h1; rw [hy] at h2
              have e2 := h2.v_inv
              obtain ⟨m, rfl⟩ : ∃ m : Nat, n = m := ⟨n.toNat, by omega⟩
              generalize e1 : a.eval x = xu at h1 hm
              have hbound : m ≤ 9223372036854775807 := by omega
              refine ustr_good (pt := pt) (it := it) (ty := type) (e := t') hh hpu hcc.1 ?_ h1 hty hes (by omega) (by omega) (by simpa using hl) hbound
              intro u w' hrun
              refine .inl (builtin_exec ?_)
              rw [hm, e2]
              simp only [builtin, Sem.run_bind, hrun, Result.andThen_ok, Sem.run_pure]
            · simp at he
          · simp at he
        · simp at he
      · simp at hco
    · simp at hco
  · split at hco <;> simp only [Option.some.injEq, reduceCtorEq] at hco <;> subst hco <;> simp [evE] at he
  · split at hco <;> simp only [Option.some.injEq, reduceCtorEq] at hco <;> subst hco; simp [evE] at he
  · simp only [Option.some.injEq] at hco; subst hco; simp [evE] at he
  · simp only [Option.some.injEq] at hco; subst hco; simp [evE] at he
  · -- append
    rename_i s x hargs
    have hm := map_pair (f := a.eval) hargs
    have h1 := cO_rel ht s
    have h2 := cO_rel ht x
    split at hco
    · rename_i t t2 ht0 ht1
      split at hco
      · -- so many zeros
        rename_i e kk hu hu2
        split at hco
        · rename_i z i hz hi
          split at hco
          · rename_i hs0
            obtain ⟨hs0, hb0⟩ := hs0
            simp only [Option.some.injEq] at hco; subst hco
            obtain ⟨i', zv, hi', hzv, hzs, rfl⟩ := zeroOf_spec hz
            rw [hi] at hi'; simp only [Option.some.injEq] at hi'; subst hi'
            simp only [evE] at he
            split at he
            · rename_i k m hx
              split at he
              · rename_i hc
                obtain ⟨hm0, hmb, hm1, hzl, hone⟩ := hc
                rw [hx] at h2
                have e2 := h2.v_inv
                generalize hsu : a.eval s = su at h1 hm
                have hrows : ∀ (q : Nat) (l : List AV), (List.replicate m.toNat (zv.cells.toList.map ofV1))[q]? = some l → l.length = i.size := by
                  intro q l h
                  simp only [List.getElem?_replicate] at h
                  split at h
                  · simp only [Option.some.injEq] at h; subst h; simpa using hzs
                  · simp at h
                refine appA_good (ts := ts) (n := m.toNat) (e := e) (ty := type) (x := .int k m) (arr := Builtin.zeroCells zv.cells m.toNat) (zc := zv.cells) hh ?_ h1 (by simp) hs0 hzs hrows (zeros_flat c hzs) ?_ ?_ ?_ he
                · intro u w' hrun
                  refine .inl (builtin_exec ?_)
                  rw [hm, e2]
                  simp only [builtin, Sem.run_bind, hrun, Result.andThen_ok, Sem.run_pure]
                · rw [List.all_eq_true]
                  intro l hl
                  rw [List.eq_of_mem_replicate hl]; exact hone
                · intro base sLen sCap w' hfit hst
                  exact appz_fits_run ht0 ht1 hu hu2 hi hzv hzs hm0 hm1 hmb hfit hst
                · intro base sLen sCap old ho hfit hby
                  exact appz_grow_run ht0 ht1 hu hu2 hi hzv hzs hm0 hm1 hmb ho hfit hb0 hby
              · simp at he
            · simp at he
          · simp at hco
        · simp at hco
      · rename_i e d2 hnint hu hu2
        split at hco
        · rename_i z i hz hi
          split at hco
          · rename_i hs0
            obtain ⟨hs0, hb0⟩ := hs0
            simp only [Option.some.injEq] at hco; subst hco
            obtain ⟨i', zv, hi', hzv, hzs, rfl⟩ := zeroOf_spec hz
            rw [hi] at hi'; simp only [Option.some.injEq] at hi'; subst hi'
            simp only [evE] at he
            split at he
            · rename_i new hel
              split at he
              · rename_i hone
                generalize hsu : a.eval s = su at h1 hm
                generalize hxu : a.eval x = xu at h2 hm
                obtain ⟨e1, e2, e3⟩ := elems_run (P := P) hh h2 hel
                obtain ⟨ys, y1, y2⟩ := e3 new.length (Nat.le_refl _)
                rw [List.take_length] at y2
                have hd : ∀ k, d2 ≠ .int k := fun k hk => hnint k hk
                refine appA_good (ts := ts) (n := new.length) (e := e) (ty := type) (x := xu) (arr := ys.toArray) (zc := zv.cells) hh ?_ h1 rfl hs0 hzs e2 (by simpa using y2) hone ?_ ?_ he
                · intro u w' hrun
                  refine .inl (builtin_exec ?_)
                  rw [hm]
                  simp only [builtin, Sem.run_bind, hrun, Result.andThen_ok, Sem.run_pure]
                · intro base sLen sCap w' hfit hst
                  exact append_fits_run ht0 ht1 hu hu2 hd hi e1 (y1 c.w rfl) hfit hst
                · intro base sLen sCap old ho hfit hby
                  exact append_grow_run ht0 ht1 hu hu2 hd hi hzv e1 y1 ho hfit hb0 hby
              · simp at he
            · simp at he
          · simp at hco
        · simp at hco
      · simp at hco
    · simp at hco
  · -- copy
    rename_i d s hargs
    split at hco
    · rename_i e hts
      simp only [Option.bind_eq_some_iff] at hts
      obtain ⟨t, ht0, htu⟩ := hts
      split at hco
      · rename_i i hi
        split at hco
        · simp only [Option.some.injEq] at hco; subst hco
          simp only [evE] at he
          split at he
          · rename_i src hsrc
            split at he
            · rename_i r z i' len cap hd
              split at he
              · rename_i hz
                subst hz
                split at he
                · rename_i es hes
                  split at he
                  · rename_i hc
                    simp only [Option.some.injEq, Prod.mk.injEq] at he
                    obtain ⟨rfl, rfl, rfl⟩ := he
                    exact copy_good hh ht ht0 htu hi hargs hsrc hd hes hc.1 hc.2
                  · simp at he
                · simp at he
              · simp at he
            · simp at he
          · simp at he
        · simp at hco
      · simp at hco
    · simp at hco
  · -- clear
    rename_i x hargs
    split at hco
    · rename_i e hts
      simp only [Option.bind_eq_some_iff] at hts
      obtain ⟨t, ht0, htu⟩ := hts
      split at hco
      · rename_i z i hz hi
        split at hco
        · simp only [Option.some.injEq] at hco; subst hco
          simp only [evE] at he
          split at he
          · rename_i r z' i' len cap hd
            split at he
            · rename_i hzz
              subst hzz
              split at he
              · rename_i es hes
                split at he
                · rename_i hc
                  simp only [Option.some.injEq, Prod.mk.injEq] at he
                  obtain ⟨rfl, rfl, rfl⟩ := he
                  exact clear_good hh ht ht0 htu hi hz hargs hd hes hc.1 hc.2.1 hc.2.2.1 hc.2.2.2
                · simp at he
              · simp at he
            · simp at he
          · simp at he
        · simp at hco
      · simp at hco
    · simp at hco
  · simp at hco

theorem evE_sound {P : Program} {own : Bool} {o : Oper} {co : COp} {tm : Nat → AV} {a : Act} {c : Cx} {v : AV} {hp' : Heap} {nx nx' : Nat} (hc : compOp' P own o = some co) (he : evE tm c.hp nx co = some (v, hp', nx')) (ht : TRel c tm a) (hh : HRel c nx) :
    EGood P o a c v hp' nx' := by
  obtain ⟨dst, op, type, pos, after, guard⟩ := o
  unfold compOp' at hc
  split at hc
  · rename_i co' hco
    simp only [Option.some.injEq] at hc; subst hc
    cases op <;> simp only [compOp] at hco
    case alloc e =>
      split at hco
      · simp only [Option.map_eq_some_iff] at hco
        obtain ⟨z, hz, rfl⟩ := hco
        simp only [evE, Option.some.injEq, Prod.mk.injEq] at he
        obtain ⟨rfl, rfl, rfl⟩ := he
        exact talloc_good hh hz
      · simp only [Option.map_eq_some_iff] at hco
        obtain ⟨z, hz, rfl⟩ := hco
        simp only [evE, Option.some.injEq, Prod.mk.injEq] at he
        obtain ⟨rfl, rfl, rfl⟩ := he
        exact alloc_good hh hz
    case panic x => simp only [Option.some.injEq] at hco; subst hco; simp [evE] at he
    case box e x =>
      simp only [Option.some.injEq] at hco; subst hco
      simp only [evE] at he
      split at he
      · rename_i hone
        simp only [Option.some.injEq, Prod.mk.injEq] at he
        obtain ⟨rfl, rfl, rfl⟩ := he
        exact box_good hh ht hone
      · simp at he
    case buildSlice t n parts =>
      split at hco
      · rename_i e hu
        split at hco
        · rename_i z i hz hi
          split at hco
          · rename_i hcc
            simp only [Option.some.injEq] at hco; subst hco
            cases own with
            | false => simp [evE] at he
            | true =>
              simp only [↓reduceIte, evE] at he
              split at he
              · rename_i es hes
                simp only [Option.some.injEq, Prod.mk.injEq] at he
                obtain ⟨rfl, rfl, rfl⟩ := he
                obtain ⟨i', zv, hi', hzv, hzs, rfl⟩ := zeroOf_spec hz
                rw [hi] at hi'; simp only [Option.some.injEq] at hi'; subst hi'
                exact tlit_good hh ht hu hi hzv hzs hcc.1 hcc.2 hes
              · simp at he
          · simp at hco
        · simp at hco
      · simp at hco
    case store t x y =>
      split at hco
      · rename_i i hi
        split at hco
        · rename_i h0
          simp only [Option.some.injEq] at hco; subst hco
          simp only [evE] at he
          split at he
          · rename_i r j o hx
            split at he
            · rename_i es hes
              split at he
              · rename_i l hl
                split at he
                · rename_i hcc
                  simp only [Option.some.injEq, Prod.mk.injEq] at he
                  obtain ⟨rfl, rfl, rfl⟩ := he
                  exact store_good hh ht hi h0 hx hes hl hcc.1 hcc.2.1 hcc.2.2
                · simp at he
              · simp at he
            · simp at he
          · simp at he
        · simp at hco
      · simp at hco
    case convert src dst' x =>
      unfold compConv at hco
      split at hco
      · simp only [Option.some.injEq] at hco; subst hco; simp [evE] at he
      · simp only [Option.some.injEq] at hco; subst hco; simp [evE] at he
      · rename_i e hs hd
        split at hco
        · rename_i hu8
          simp only [Option.some.injEq] at hco; subst hco
          simp only [evE] at he
          split at he
          · rename_i l hx
            simp only [Option.some.injEq, Prod.mk.injEq] at he
            obtain ⟨rfl, rfl, rfl⟩ := he
            have h1 := cO_rel ht x
            rw [hx] at h1
            exact s2b_good hh hs hd hu8 h1.str_inv
          · simp at he
        · simp at hco
      · split at hco
        · simp only [Option.some.injEq] at hco; subst hco; simp [evE] at he
        · simp at hco
      · simp only [Option.some.injEq] at hco; subst hco; simp [evE] at he
      · split at hco
        · simp only [Option.some.injEq] at hco; subst hco; simp [evE] at he
        · simp at hco
      · split at hco
        · simp only [Option.some.injEq] at hco; subst hco; simp [evE] at he
        · simp at hco
      · simp at hco
    case makeSlice t l n =>
      split at hco
      · rename_i e hu
        split at hco
        · rename_i z i hz hi
          split at hco
          · rename_i hcc
            simp only [Option.some.injEq] at hco; subst hco
            simp only [evE] at he
            split at he
            · rename_i k1 p k2 q hx hy
              split at he
              · rename_i hb
                simp only [Option.some.injEq, Prod.mk.injEq] at he
                obtain ⟨rfl, rfl, rfl⟩ := he
                obtain ⟨i', zv, hi', hzv, hzs, rfl⟩ := zeroOf_spec hz
                rw [hi] at hi'; simp only [Option.some.injEq] at hi'; subst hi'
                have h1 := cO_rel ht l
                have h2 := cO_rel ht n
                rw [hx] at h1; rw [hy] at h2
                exact mkslice_good hh hu hi hzv hzs hcc.1 h1.v_inv h2.v_inv hb.1 hb.2.1 hb.2.2.1 hb.2.2.2
              · simp at he
            · simp at he
          · simp at hco
        · simp at hco
      · simp at hco
    case call cl =>
      obtain ⟨callee, args, ts⟩ := cl
      cases callee with
      | value f =>
        cases f <;> simp only [] at hco <;> (try (split at hco)) <;> simp only [Option.some.injEq, reduceCtorEq] at hco <;> subst hco <;> simp [evE] at he
      | invoke r m => simp at hco
      | builtin b =>
        simp only [] at hco
        split at hco
        · exact evE_tapp hco he ht hh
        · exact evE_builtin hco he ht hh
    all_goals (first | (simp at hco; done) | skip)
    all_goals ((try unfold compBin at hco); (repeat' split at hco) <;> (first | (simp only [Option.some.injEq, reduceCtorEq] at hco; done) | (simp only [Option.some.injEq] at hco; subst hco; simp [evE] at he; done) | (simp only [Option.map_eq_some_iff] at hco; obtain ⟨_, _, rfl⟩ := hco; simp [evE] at he; done)))
  · cases op
    case binOp =>
      unfold compEqs at hc
      (repeat' split at hc) <;> simp only [Option.some.injEq, reduceCtorEq] at hc <;> subst hc <;> simp [evE] at he
    all_goals exact evE_map (compMap_cases hc) he ht hh

end Go.Ai
