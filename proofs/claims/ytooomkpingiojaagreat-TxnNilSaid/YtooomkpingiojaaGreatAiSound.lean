/- Regions, code, calls: what the interpreter says holds of the model. -/
import Derived.Test.YtooomkpingiojaaGreatAiOpsL
import Derived.Test.YtooomkpingiojaaGreatAiRules
import Derived.LoopN
namespace Go.Ai
set_option linter.unusedVariables false
set_option linter.unusedSimpArgs false

structure SR (c : Cx) (s : St) (nt : Nat) (a : Act) : Prop where
  tm : TRel c s.tm a
  sz : a.tmps.size = nt
  df : a.defers = c.F.G
  hp : c.hp = s.hp
  rel : HRel c s.nx

/-- What a call may come to. -/
def CallPost (c : Cx) (k : Kd) (v : AV) (hp' : Heap) (nx nx' : Nat) : Ending → World → Prop := fun e w' =>
  ∃ u ι', e = .returned u ∧ (k = .p → ι' = c.ι ∧ hp' = c.hp ∧ nx' = nx) ∧ Ext c ⟨c.F, ι', hp', w'⟩ ∧ HRel ⟨c.F, ι', hp', w'⟩ nx' ∧ VRel ⟨c.F, ι', hp', w'⟩ v u

/-- What a call comes to, whether the function has a body or not. -/
def CallsX (P : Program) (f : Nat) (cargs : Array Value) (w : World) (Q : Ending → World → Prop) : Prop :=
  (hasBody P f = true ∧ Calls P f cargs w Q) ∨ ∃ u w', (callFunc f cargs).run P w = .ok (.value u) w' ∧ Q (.returned u) w'
theorem CallsX.mono {P : Program} {f : Nat} {cargs : Array Value} {w : World} {Q Q' : Ending → World → Prop} (h : CallsX P f cargs w Q) (hQ : ∀ e w', Q e w' → Q' e w') : CallsX P f cargs w Q' := by
  rcases h with ⟨h1, h2⟩ | ⟨u, w', h1, h2⟩
  · exact .inl ⟨h1, Calls.mono h2 hQ⟩
  · exact .inr ⟨u, w', h1, hQ _ _ h2⟩

structure RelSound (P : Program) (R : CallRel) : Prop where
  kind : ∀ f args hp nx v hp' nx' k, R f args hp nx v hp' nx' k → k = .p ∨ k = .e
  pure : ∀ f args hp nx v hp' nx', R f args hp nx v hp' nx' .p → hp' = hp ∧ nx' = nx ∧ ∀ hp2 nx2, R f args hp2 nx2 v hp2 nx2 .p
  calls : ∀ f args hp nx v hp' nx' k, R f args hp nx v hp' nx' k → ∀ (c : Cx) (cargs : Array Value), c.hp = hp → HRel c nx → LRel c args cargs.toList → CallsX P f cargs c.w (CallPost c k v hp' nx nx')

theorem hasBody_spec {P : Program} {f : Nat} (h : hasBody P f = true) : ∃ fn c, P.funcs[f]? = some fn ∧ (fn.name == "runtime.NumGoroutine") = false ∧ fn.body = some c := by
  unfold hasBody at h
  split at h
  · rename_i fn hf
    simp only [Bool.and_eq_true, Bool.not_eq_true'] at h
    obtain ⟨c, hc⟩ := Option.isSome_iff_exists.1 h.2
    exact ⟨fn, c, hf, h.1, hc⟩
  · simp at h

theorem callFunc_run {P : Program} {w : World} {f : Nat} (h : hasBody P f = true) (args : Array Value) : (callFunc f args).run P w = .ok (.enter f args) w := by
  obtain ⟨fn, c, h1, h2, h3⟩ := hasBody_spec h
  simp only [callFunc, Sem.run_bind, run_program, Result.andThen_ok, h1]
  rw [if_neg (by rw [h2]; simp)]
  simp [h3]

theorem put_size (a : Act) (d : Option Nat) (u : Value) : (a.put d u).tmps.size = a.tmps.size := by
  cases d <;> simp [Act.put]
theorem put_defers (a : Act) (d : Option Nat) (u : Value) : (a.put d u).defers = a.defers := by
  cases d <;> rfl

theorem TRel.put {c : Cx} {tm : Nat → AV} {a : Act} (h : TRel c tm a) {d : Option Nat} {v : AV} {u : Value} (hv : VRel c v u) (hd : d.all (· < a.tmps.size) = true) (s : St) (hs : s.tm = tm) (hp : Heap) (nx : Nat) : TRel c (s.put d v hp nx).tm (a.put d u) := by
  cases d with
  | none => simp only [St.put, Act.put]; rw [hs]; exact h
  | some d =>
    simp only [Option.all_some, decide_eq_true_eq] at hd
    intro t
    simp only [St.put, Act.put, tupd]
    split
    · rename_i ht; subst ht
      have : (a.tmps.setIfInBounds t u).getD t undef = u := by simp [hd]
      rw [this]; exact hv
    · rename_i ht
      have : (a.tmps.setIfInBounds d u).getD t undef = a.tmps.getD t undef := by
        simp [Array.getElem?_setIfInBounds_ne (fun h => ht h.symm)]
      rw [this, hs]; exact h t

theorem wanted_run {c : Cx} {tm : Nat → AV} {a : Act} {ops : Array Oper} {o : Oper} {g : Option (Nat × Bool)} {b : Bool} (hg : compGuard ops o.guard = some g) (hw : wantedA tm g = some b) (ht : TRel c tm a) :
    Region.wanted o (yielded ops a.tmps) = b := by
  unfold compGuard at hg
  split at hg
  · rename_i hn
    simp only [Option.some.injEq] at hg; subst hg
    simp only [wantedA, Option.some.injEq] at hw; subst hw
    simp [Region.wanted, hn]
  · rename_i j want hn
    split at hg
    · rename_i d hd
      simp only [Option.some.injEq] at hg; subst hg
      have hr := ht d
      simp only [wantedA] at hw
      split at hw
      · rename_i q hq
        simp only [Option.some.injEq] at hw; subst hw
        rw [hq] at hr
        have e := hr.v_inv
        have hlt : d < a.tmps.size := by
          rcases Nat.lt_or_ge d a.tmps.size with h | h
          · exact h
          · rw [Array.getD_eq_getD_getElem?, Array.getElem?_eq_none h] at e; simp [undef] at e
        have hget : a.tmps[d]? = some (.bool q) := by
          rw [Array.getD_eq_getD_getElem?, Array.getElem?_eq_getElem hlt] at e
          rw [Array.getElem?_eq_getElem hlt]; simpa using e
        simp only [Region.wanted, hn, yielded, hd, Option.bind_some, hget]
        cases q <;> cases want <;> rfl
      · rename_i q hq
        simp only [Option.some.injEq] at hw; subst hw
        rw [hq] at hr
        have e := hr.v_inv
        have hy : yielded ops a.tmps j = none := by
          simp only [yielded, hd, Option.bind_some]
          rcases Nat.lt_or_ge d a.tmps.size with h | h
          · rw [Array.getD_eq_getD_getElem?, Array.getElem?_eq_getElem h] at e
            rw [Array.getElem?_eq_getElem h]
            simp at e
            rw [e]
          · rw [Array.getElem?_eq_none h]
        simp only [Region.wanted, hn, hy]
        rfl
      · simp at hw
    · simp at hg

/-- One operation. -/
theorem WOp_sound {P : Program} {R : CallRel} (hR : RelSound P R) {own : Bool} {o : Oper} {co : COp} {nt : Nat} {c : Cx} {s : St} {a : Act} {K : AV → Heap → Nat → Kd → Prop} {Q : Exit → Act → World → Prop} {K' : Act → World → Prop}
    (hc : compOp' P own o = some co) (hs : SR c s nt a) (hd : o.dst.all (· < nt) = true) (h : WOp R co s K)
    (hK : ∀ v hp' nx' k c' u, K v hp' nx' k → (k = .p → c'.ι = c.ι ∧ hp' = s.hp ∧ nx' = s.nx) → Ext c c' → c'.hp = hp' → HRel c' nx' → VRel c' v u → K' (a.put o.dst u) c'.w) :
    o.wp P a c.w K' Q := by
  have value : ∀ {u : Value} {w' : World}, RunsTo P o a c.w u w' → K' (a.put o.dst u) w' → o.wp P a c.w K' Q := by
    intro u w' hr hk
    unfold Oper.wp
    rcases hr with hr | ⟨hr, rfl⟩
    · rw [hr]; exact hk
    · rw [hr]; exact hk
  have call : ∀ {f : Nat} {args : List AV} {cargs : Array Value}, WCall R f args s.hp s.nx K → LRel c args cargs.toList → (execOp a.eval o).run P c.w = (callFunc f cargs).run P c.w → o.wp P a c.w K' Q := by
    rintro f args cargs ⟨v, hp', nx', k, hr, hk⟩ ha he
    unfold Oper.wp
    rw [he]
    rcases hR.calls _ _ _ _ _ _ _ _ hr c cargs hs.hp hs.rel ha with ⟨hb, hC⟩ | ⟨u0, w', hrun, u, ι', hu, hkp, hext, hrel, hv⟩
    · rw [callFunc_run hb]
      refine Calls.mono hC ?_
      rintro e w' ⟨u, ι', rfl, hkp, hext, hrel, hv⟩
      exact hK v hp' nx' k ⟨c.F, ι', hp', w'⟩ u hk (fun h => by rw [← hs.hp]; exact hkp h) hext rfl hrel hv
    · rw [hrun]
      simp only [Ending.returned.injEq] at hu; subst hu
      exact hK v hp' nx' k ⟨c.F, ι', hp', w'⟩ u0 hk (fun h => by rw [← hs.hp]; exact hkp h) hext rfl hrel hv
  unfold WOp at h
  split at h
  · -- a call of a function
    rename_i f args
    obtain ⟨dst, op, type, pos, after, guard⟩ := o
    have hform : ∃ cl, op = .call cl ∧ cl.callee = .value (.func f) ∧ cl.args.toList.map cO = args := by
      unfold compOp' at hc
      split at hc
      · rename_i co' hco
        simp only [Option.some.injEq] at hc; subst hc
        cases op <;> simp only [compOp] at hco
        case call cl =>
          obtain ⟨callee, as, ts⟩ := cl
          cases callee with
          | value g =>
            cases g <;> simp only [] at hco
            case func f' =>
              simp only [Option.some.injEq, COp.call.injEq] at hco
              obtain ⟨rfl, rfl⟩ := hco
              exact ⟨_, rfl, rfl, rfl⟩
            all_goals simp at hco
          | invoke r m => simp at hco
          | builtin b => simp only [] at hco; unfold compTapp compBuiltin at hco; (repeat' split at hco) <;> simp at hco
        all_goals (first | (simp at hco; done) | skip)
        all_goals ((try unfold compBin at hco); (try unfold compConv at hco); (repeat' split at hco) <;> (first | (simp at hco; done) | (simp only [Option.map_eq_some_iff] at hco; obtain ⟨_, _, h⟩ := hco; cases h; done)))
      · cases op
        case binOp =>
          unfold compEqs at hc
          (repeat' split at hc) <;> simp at hc
        all_goals (exfalso; have hmm := compMap_cases hc; cases hmm)
    obtain ⟨⟨callee, as, ts⟩, rfl, hcal, rfl⟩ := hform
    simp only at hcal; subst hcal
    refine call (cargs := as.map a.eval) h ?_ ?_
    · refine ⟨by simp, fun k av u h1 h2 => ?_⟩
      simp only [List.map_map, List.getElem?_map, Option.map_eq_some_iff, Array.toList_map, Function.comp_apply] at h1 h2
      obtain ⟨y, hy, rfl⟩ := h1
      obtain ⟨y', hy', rfl⟩ := h2
      rw [hy] at hy'; simp only [Option.some.injEq] at hy'; subst hy'
      exact cO_rel hs.tm y
    · simp only [execOp, resolve, Act.eval, Deferred.ofValue, Sem.run_bind, Sem.run_pure, Result.andThen_ok, invoke]
      simp
  · -- a call of a value
    rename_i g args
    split at h
    · rename_i f first cap hg
      obtain ⟨dst, op, type, pos, after, guard⟩ := o
      have hform : ∃ cl g', op = .call cl ∧ cl.callee = .value g' ∧ cO g' = g ∧ cl.args.toList.map cO = args := by
        unfold compOp' at hc
        split at hc
        · rename_i co' hco
          simp only [Option.some.injEq] at hc; subst hc
          cases op <;> simp only [compOp] at hco
          case call cl =>
            obtain ⟨callee, as, ts⟩ := cl
            cases callee with
            | value g =>
              cases g <;> simp only [] at hco
              case func f' => simp at hco
              all_goals
                simp only [Option.some.injEq, COp.callv.injEq] at hco
                obtain ⟨rfl, rfl⟩ := hco
                exact ⟨_, _, rfl, rfl, rfl, rfl⟩
            | invoke r m => simp at hco
            | builtin b => simp only [] at hco; unfold compTapp compBuiltin at hco; (repeat' split at hco) <;> simp at hco
          all_goals (first | (simp at hco; done) | skip)
          all_goals ((try unfold compBin at hco); (try unfold compConv at hco); (repeat' split at hco) <;> (first | (simp at hco; done) | (simp only [Option.map_eq_some_iff] at hco; obtain ⟨_, _, h⟩ := hco; cases h; done)))
        · cases op
          case binOp =>
            unfold compEqs at hc
            (repeat' split at hc) <;> simp at hc
          all_goals (exfalso; have hmm := compMap_cases hc; cases hmm)
      obtain ⟨⟨callee, as, ts⟩, g', rfl, hcal, rfl, rfl⟩ := hform
      simp only at hcal; subst hcal
      have hgr := cO_rel hs.tm g'
      rw [hg] at hgr
      generalize hgu : a.eval g' = gu at hgr
      cases hgr with
      | fn l1 l2 hx hy =>
        rename_i cx cy
        refine call (cargs := cx ++ as.map a.eval ++ cy) h ?_ ?_
        · rw [Array.toList_append, Array.toList_append]
          refine LRel.append (LRel.append ⟨by simpa using l1, fun k av u h1 h2 => hx k av u h1 (by rw [← getElem?_arr]; exact h2)⟩ ?_) ⟨by simpa using l2, fun k av u h1 h2 => hy k av u h1 (by rw [← getElem?_arr]; exact h2)⟩
          refine ⟨by simp, fun k av u h1 h2 => ?_⟩
          simp only [List.map_map, List.getElem?_map, Option.map_eq_some_iff, Array.toList_map, Function.comp_apply] at h1 h2
          obtain ⟨y, hy, rfl⟩ := h1
          obtain ⟨y', hy', rfl⟩ := h2
          rw [hy] at hy'; simp only [Option.some.injEq] at hy'; subst hy'
          exact cO_rel hs.tm y
        · simp only [execOp, resolve, hgu, Deferred.ofValue, Sem.run_bind, Sem.run_pure, Result.andThen_ok, invoke]
    · exact h.elim
  · -- all else
    split at h
    · rename_i v hv
      obtain ⟨u, w', hr, hg, hvv⟩ := evP_sound hc hv hs.tm hs.rel
      refine value hr (hK v s.hp s.nx .p { c with w := w' } u h (fun _ => ⟨rfl, rfl, rfl⟩) (Ext.of_grow (nx := s.nx) hg) hs.hp (hs.rel.grow hg) hvv)
    · split at h
      · rename_i v r hv
        rw [← hs.hp] at hv
        obtain ⟨u, w', hr, hg, hvv⟩ := evR_sound hc hv hs.tm hs.rel
        refine value hr (hK v s.hp s.nx (.r r) { c with w := w' } u h (fun _ => ⟨rfl, rfl, rfl⟩) (Ext.of_grow (nx := s.nx) hg) hs.hp (hs.rel.grow hg) hvv)
      · split at h
        · rename_i v hp' nx' hv
          rw [← hs.hp] at hv
          obtain ⟨u, w', ι', hr, hext, hrel, hvv⟩ := evE_sound hc hv hs.tm hs.rel
          exact value hr (hK v hp' nx' _ ⟨c.F, ι', hp', w'⟩ u h (fun h => by cases co <;> simp [kdE] at h) hext rfl hrel hvv)
        · exact h.elim

end Go.Ai
