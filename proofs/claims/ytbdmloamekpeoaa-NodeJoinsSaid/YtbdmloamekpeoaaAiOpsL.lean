/- Operations that make or change owned memory: the one theorem. -/
import Derived.Test.YtbdmloamekpeoaaAiOpsM
namespace Go.Ai
set_option linter.unusedVariables false
set_option linter.unusedSimpArgs false

theorem zeros_flat (c : Cx) {zv : Value} {sz n : Nat} (hz : zv.cells.size = sz) : LRel c (List.replicate n (zv.cells.toList.map ofV1)).flatten (Builtin.zeroCells zv.cells n).toList := by
  rcases Nat.eq_zero_or_pos sz with h0 | h0
  · have hnil : zv.cells.toList = [] := by
      have : zv.cells.size = 0 := by omega
      simpa using this
    have h1 : (List.replicate n (zv.cells.toList.map ofV1)).flatten = [] := by
      rw [hnil]
      simp
    have h2 : Builtin.zeroCells zv.cells n = #[] := zeroCells_nil hz (by rw [h0]; simp)
    rw [h1, h2]
    exact ⟨rfl, fun k av u h => by simp at h⟩
  · have := zeroRows_rel c (len := n) hz h0
    unfold Builtin.zeroCells
    rw [hz]
    rw [hz] at this
    exact this

theorem evE_builtin {P : Program} {b : Builtin} {args : Array Operand} {ts : Array TypeId} {dst : Option Tmp} {type : TypeId} {pos : String} {after : Array Edge} {guard : Option (Nat × Bool)} {co : COp} {tm : Nat → AV} {a : Act} {c : Cx} {v : AV} {hp' : Heap} {nx nx' : Nat}
    (hco : compBuiltin P b args.toList ts = some co) (he : evE tm c.hp nx co = some (v, hp', nx')) (ht : TRel c tm a) (hh : HRel c nx) :
    EGood P ⟨dst, .call ⟨.builtin b, args, ts⟩, type, pos, after, guard⟩ a c v hp' nx' := by
  unfold compBuiltin at hco
  split at hco
  · simp only [Option.some.injEq] at hco; subst hco; simp [evE] at he
  · -- unsafe.String
    rename_i x y hargs
    have hm := map_pair (f := a.eval) hargs
    have h1 := cO_rel ht x
    have h2 := cO_rel ht y
    split at hco
    · rename_i e hb hsz
      split at hco
      · rename_i hcc
        simp only [Option.some.injEq] at hco; subst hco
        simp only [Option.bind_eq_some_iff] at hb
        obtain ⟨pt, hpt, hpu⟩ := hb
        obtain ⟨it, hts⟩ : ∃ it, ts = #[pt, it] := by
          obtain ⟨l⟩ := ts
          match l, hsz with
          | [p, q], _ => simp at hpt; subst hpt; exact ⟨q, rfl⟩
        subst hts
        simp only [evE] at he
        split at he
        · rename_i hx hy
          simp only [Option.some.injEq, Prod.mk.injEq] at he
          obtain ⟨rfl, rfl, rfl⟩ := he
          rw [hx] at h1; rw [hy] at h2
          refine ⟨.string .empty, c.w, c.ι, .inl (builtin_exec ?_), Ext.refl c, hh, .str []⟩
          rw [hm, h1.v_inv, h2.v_inv]
          simp only [builtin, Sem.run_bind, Lib.run_unsafeString_none, Result.andThen_ok, Sem.run_pure]
        · rename_i q n hx hy
          split at he
          · rename_i t' k es hty hes
            split at he
            · rename_i hn
              obtain ⟨rfl, hn0, hn1, hn2⟩ := hn
              simp only [Option.map_eq_some_iff, Prod.mk.injEq] at he
              obtain ⟨l, hl, rfl, rfl, rfl⟩ := he
              rw [hx] at h1; rw [hy] at h2
              have e2 := h2.v_inv
              obtain ⟨m, rfl⟩ : ∃ m : Nat, n = m := ⟨n.toNat, by omega⟩
              generalize e1 : a.eval x = xu at h1 hm
              have hbound : m ≤ 9223372036854775807 := by omega
              refine ustr_good (pt := pt) (it := it) (ty := type) (e := t') hh hpu hcc.1 ?_ h1 hty hes (by omega) (by omega) (by simpa using hl) hbound
              intro u w' hrun
              refine .inl (builtin_exec ?_)
              rw [hm, e2]
              simp only [builtin, Sem.run_bind, hrun, Result.andThen_ok, Sem.run_pure]
            · simp at he
          · simp at he
        · simp at he
      · simp at hco
    · simp at hco
  · split at hco <;> simp only [Option.some.injEq, reduceCtorEq] at hco <;> subst hco <;> simp [evE] at he
  · split at hco <;> simp only [Option.some.injEq, reduceCtorEq] at hco <;> subst hco; simp [evE] at he
  · simp only [Option.some.injEq] at hco; subst hco; simp [evE] at he
  · simp only [Option.some.injEq] at hco; subst hco; simp [evE] at he
  · -- append
    rename_i s x hargs
    have hm := map_pair (f := a.eval) hargs
    have h1 := cO_rel ht s
    have h2 := cO_rel ht x
    split at hco
    · rename_i t t2 ht0 ht1
      split at hco
      · -- so many zeros
        rename_i e kk hu hu2
        split at hco
        · rename_i z i hz hi
          split at hco
          · rename_i hs0
            obtain ⟨hs0, hb0⟩ := hs0
            simp only [Option.some.injEq] at hco; subst hco
            obtain ⟨i', zv, hi', hzv, hzs, rfl⟩ := zeroOf_spec hz
            rw [hi] at hi'; simp only [Option.some.injEq] at hi'; subst hi'
            simp only [evE] at he
            split at he
            · rename_i k m hx
              split at he
              · rename_i hc
                obtain ⟨hm0, hmb, hm1, hzl, hone⟩ := hc
                rw [hx] at h2
                have e2 := h2.v_inv
                generalize hsu : a.eval s = su at h1 hm
                have hrows : ∀ (q : Nat) (l : List AV), (List.replicate m.toNat (zv.cells.toList.map ofV1))[q]? = some l → l.length = i.size := by
                  intro q l h
                  simp only [List.getElem?_replicate] at h
                  split at h
                  · simp only [Option.some.injEq] at h; subst h; simpa using hzs
                  · simp at h
                refine appA_good (ts := ts) (n := m.toNat) (e := e) (ty := type) (x := .int k m) (arr := Builtin.zeroCells zv.cells m.toNat) (zc := zv.cells) hh ?_ h1 (by simp) hs0 hzs hrows (zeros_flat c hzs) ?_ ?_ ?_ he
                · intro u w' hrun
                  refine .inl (builtin_exec ?_)
                  rw [hm, e2]
                  simp only [builtin, Sem.run_bind, hrun, Result.andThen_ok, Sem.run_pure]
                · rw [List.all_eq_true]
                  intro l hl
                  rw [List.eq_of_mem_replicate hl]; exact hone
                · intro base sLen sCap w' hfit hst
                  exact appz_fits_run ht0 ht1 hu hu2 hi hzv hzs hm0 hm1 hmb hfit hst
                · intro base sLen sCap old ho hfit hby
                  exact appz_grow_run ht0 ht1 hu hu2 hi hzv hzs hm0 hm1 hmb ho hfit hb0 hby
              · simp at he
            · simp at he
          · simp at hco
        · simp at hco
      · rename_i e d2 hnint hu hu2
        split at hco
        · rename_i z i hz hi
          split at hco
          · rename_i hs0
            obtain ⟨hs0, hb0⟩ := hs0
            simp only [Option.some.injEq] at hco; subst hco
            obtain ⟨i', zv, hi', hzv, hzs, rfl⟩ := zeroOf_spec hz
            rw [hi] at hi'; simp only [Option.some.injEq] at hi'; subst hi'
            simp only [evE] at he
            split at he
            · rename_i new hel
              split at he
              · rename_i hone
                generalize hsu : a.eval s = su at h1 hm
                generalize hxu : a.eval x = xu at h2 hm
                obtain ⟨e1, e2, e3⟩ := elems_run (P := P) hh h2 hel
                obtain ⟨ys, y1, y2⟩ := e3 new.length (Nat.le_refl _)
                rw [List.take_length] at y2
                have hd : ∀ k, d2 ≠ .int k := fun k hk => hnint k hk
                refine appA_good (ts := ts) (n := new.length) (e := e) (ty := type) (x := xu) (arr := ys.toArray) (zc := zv.cells) hh ?_ h1 rfl hs0 hzs e2 (by simpa using y2) hone ?_ ?_ he
                · intro u w' hrun
                  refine .inl (builtin_exec ?_)
                  rw [hm]
                  simp only [builtin, Sem.run_bind, hrun, Result.andThen_ok, Sem.run_pure]
                · intro base sLen sCap w' hfit hst
                  exact append_fits_run ht0 ht1 hu hu2 hd hi e1 (y1 c.w rfl) hfit hst
                · intro base sLen sCap old ho hfit hby
                  exact append_grow_run ht0 ht1 hu hu2 hd hi hzv e1 y1 ho hfit hb0 hby
              · simp at he
            · simp at he
          · simp at hco
        · simp at hco
      · simp at hco
    · simp at hco
  · -- copy
    rename_i d s hargs
    split at hco
    · rename_i e hts
      simp only [Option.bind_eq_some_iff] at hts
      obtain ⟨t, ht0, htu⟩ := hts
      split at hco
      · rename_i i hi
        split at hco
        · simp only [Option.some.injEq] at hco; subst hco
          simp only [evE] at he
          split at he
          · rename_i src hsrc
            split at he
            · rename_i r z i' len cap hd
              split at he
              · rename_i hz
                subst hz
                split at he
                · rename_i es hes
                  split at he
                  · rename_i hc
                    simp only [Option.some.injEq, Prod.mk.injEq] at he
                    obtain ⟨rfl, rfl, rfl⟩ := he
                    exact copy_good hh ht ht0 htu hi hargs hsrc hd hes hc.1 hc.2
                  · simp at he
                · simp at he
              · simp at he
            · simp at he
          · simp at he
        · simp at hco
      · simp at hco
    · simp at hco
  · simp at hco

theorem evE_sound {P : Program} {own : Bool} {o : Oper} {co : COp} {tm : Nat → AV} {a : Act} {c : Cx} {v : AV} {hp' : Heap} {nx nx' : Nat} (hc : compOp' P own o = some co) (he : evE tm c.hp nx co = some (v, hp', nx')) (ht : TRel c tm a) (hh : HRel c nx) :
    EGood P o a c v hp' nx' := by
  obtain ⟨dst, op, type, pos, after, guard⟩ := o
  unfold compOp' at hc
  split at hc
  · rename_i co' hco
    simp only [Option.some.injEq] at hc; subst hc
    cases op <;> simp only [compOp] at hco
    case alloc e =>
      split at hco
      · simp only [Option.map_eq_some_iff] at hco
        obtain ⟨z, hz, rfl⟩ := hco
        simp only [evE, Option.some.injEq, Prod.mk.injEq] at he
        obtain ⟨rfl, rfl, rfl⟩ := he
        exact talloc_good hh hz
      · simp only [Option.map_eq_some_iff] at hco
        obtain ⟨z, hz, rfl⟩ := hco
        simp only [evE, Option.some.injEq, Prod.mk.injEq] at he
        obtain ⟨rfl, rfl, rfl⟩ := he
        exact alloc_good hh hz
    case panic x => simp only [Option.some.injEq] at hco; subst hco; simp [evE] at he
    case box e x =>
      simp only [Option.some.injEq] at hco; subst hco
      simp only [evE] at he
      split at he
      · rename_i hone
        simp only [Option.some.injEq, Prod.mk.injEq] at he
        obtain ⟨rfl, rfl, rfl⟩ := he
        exact box_good hh ht hone
      · simp at he
    case buildSlice t n parts =>
      split at hco
      · rename_i e hu
        split at hco
        · rename_i z i hz hi
          split at hco
          · rename_i hcc
            simp only [Option.some.injEq] at hco; subst hco
            cases own with
            | false => simp [evE] at he
            | true =>
              simp only [evE] at he
              split at he
              · rename_i es hes
                simp only [Option.some.injEq, Prod.mk.injEq] at he
                obtain ⟨rfl, rfl, rfl⟩ := he
                obtain ⟨i', zv, hi', hzv, hzs, rfl⟩ := zeroOf_spec hz
                rw [hi] at hi'; simp only [Option.some.injEq] at hi'; subst hi'
                exact bslice_good hh ht hu hi hzv hzs hcc.1 hcc.2 hes
              · simp at he
          · simp at hco
        · simp at hco
      · simp at hco
    case store t x y =>
      split at hco
      · rename_i i hi
        split at hco
        · rename_i h0
          simp only [Option.some.injEq] at hco; subst hco
          simp only [evE] at he
          split at he
          · rename_i r j o hx
            split at he
            · rename_i es hes
              split at he
              · rename_i l hl
                split at he
                · rename_i hcc
                  simp only [Option.some.injEq, Prod.mk.injEq] at he
                  obtain ⟨rfl, rfl, rfl⟩ := he
                  exact store_good hh ht hi h0 hx hes hl hcc.1 hcc.2.1 hcc.2.2
                · simp at he
              · simp at he
            · simp at he
          · simp at he
        · simp at hco
      · simp at hco
    case convert src dst' x =>
      unfold compConv at hco
      split at hco
      · simp only [Option.some.injEq] at hco; subst hco; simp [evE] at he
      · simp only [Option.some.injEq] at hco; subst hco; simp [evE] at he
      · rename_i e hs hd
        split at hco
        · rename_i hu8
          simp only [Option.some.injEq] at hco; subst hco
          simp only [evE] at he
          split at he
          · rename_i l hx
            simp only [Option.some.injEq, Prod.mk.injEq] at he
            obtain ⟨rfl, rfl, rfl⟩ := he
            have h1 := cO_rel ht x
            rw [hx] at h1
            exact s2b_good hh hs hd hu8 h1.str_inv
          · simp at he
        · simp at hco
      · split at hco
        · simp only [Option.some.injEq] at hco; subst hco; simp [evE] at he
        · simp at hco
      · simp only [Option.some.injEq] at hco; subst hco; simp [evE] at he
      · split at hco
        · simp only [Option.some.injEq] at hco; subst hco; simp [evE] at he
        · simp at hco
      · split at hco
        · simp only [Option.some.injEq] at hco; subst hco; simp [evE] at he
        · simp at hco
      · simp at hco
    case makeSlice t l n =>
      split at hco
      · rename_i e hu
        split at hco
        · rename_i z i hz hi
          split at hco
          · rename_i hcc
            simp only [Option.some.injEq] at hco; subst hco
            simp only [evE] at he
            split at he
            · rename_i k1 p k2 q hx hy
              split at he
              · rename_i hb
                simp only [Option.some.injEq, Prod.mk.injEq] at he
                obtain ⟨rfl, rfl, rfl⟩ := he
                obtain ⟨i', zv, hi', hzv, hzs, rfl⟩ := zeroOf_spec hz
                rw [hi] at hi'; simp only [Option.some.injEq] at hi'; subst hi'
                have h1 := cO_rel ht l
                have h2 := cO_rel ht n
                rw [hx] at h1; rw [hy] at h2
                exact mkslice_good hh hu hi hzv hzs hcc.1 h1.v_inv h2.v_inv hb.1 hb.2.1 hb.2.2.1 hb.2.2.2
              · simp at he
            · simp at he
          · simp at hco
        · simp at hco
      · simp at hco
    case call cl =>
      obtain ⟨callee, args, ts⟩ := cl
      cases callee with
      | value f =>
        cases f <;> simp only [] at hco <;> (try (split at hco)) <;> simp only [Option.some.injEq, reduceCtorEq] at hco <;> subst hco <;> simp [evE] at he
      | invoke r m => simp at hco
      | builtin b =>
        simp only [] at hco
        split at hco
        · exact evE_tapp hco he ht hh
        · exact evE_builtin hco he ht hh
    all_goals (first | (simp at hco; done) | skip)
    all_goals ((try unfold compBin at hco); (repeat' split at hco) <;> (first | (simp only [Option.some.injEq, reduceCtorEq] at hco; done) | (simp only [Option.some.injEq] at hco; subst hco; simp [evE] at he; done) | (simp only [Option.map_eq_some_iff] at hco; obtain ⟨_, _, rfl⟩ := hco; simp [evE] at he; done)))
  · cases op <;> simp only [reduceCtorEq] at hc
    unfold compEqs at hc
    (repeat' split at hc) <;> simp only [Option.some.injEq, reduceCtorEq] at hc <;> subst hc <;> simp [evE] at he

end Go.Ai
