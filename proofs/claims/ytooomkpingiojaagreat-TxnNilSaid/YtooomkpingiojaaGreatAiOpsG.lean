/- Operations that read, make or change owned memory. -/
import Derived.Test.YtooomkpingiojaaGreatAiOpsN
namespace Go.Ai
set_option linter.unusedVariables false
set_option linter.unusedSimpArgs false

def EGood (P : Program) (o : Oper) (a : Act) (c : Cx) (v : AV) (hp' : Heap) (nx' : Nat) : Prop :=
  ∃ u w' ι', RunsTo P o a c.w u w' ∧ Ext c ⟨c.F, ι', hp', w'⟩ ∧ HRel ⟨c.F, ι', hp', w'⟩ nx' ∧ VRel ⟨c.F, ι', hp', w'⟩ v u

theorem info_of_cells {P : Program} {e : TypeId} (h : 0 < P.cellsOf e) : ∃ j, P.info? e = some j ∧ j.size = P.cellsOf e ∧ j.size ≠ 0 := by
  unfold Program.cellsOf at h ⊢
  cases hi : P.info? e with
  | none => simp [hi] at h
  | some j => exact ⟨j, rfl, by simp, by simp [hi] at h; omega⟩
theorem liesAt_same {P : Program} {u : TypeId} (hc : 0 < P.cellsOf u) (count : Nat) (hn : 1 ≤ count) : liesAt P P.depth u count 0 u 1 = true := by
  have hd : P.depth = (2 * (P.types.size + Made.depth) + 1) + 1 := rfl
  rw [hd]
  simp only [liesAt, Bool.or_eq_true]
  left
  rw [hd]
  have h0 : P.cellsOf u ≠ 0 := by omega
  simp [rowAt, h0, hn, sameLayout]

theorem evR_sound {P : Program} {own : Bool} {o : Oper} {co : COp} {tm : Nat → AV} {a : Act} {c : Cx} {v : AV} {r : Nat} (hc : compOp' P own o = some co) (he : evR tm c.hp co = some (v, r)) {nx : Nat} (ht : TRel c tm a) (hh : HRel c nx) :
    PGood P o a c v := by
  obtain ⟨dst, op, type, pos, after, guard⟩ := o
  unfold compOp' at hc
  split at hc
  · rename_i co' hco
    simp only [Option.some.injEq] at hc; subst hc
    cases op <;> simp only [compOp] at hco
    case load t x =>
      simp only [Option.map_eq_some_iff] at hco
      obtain ⟨n, hn, rfl⟩ := hco
      simp only [evR] at he
      split at he
      · rename_i r' i o hx
        split at he
        · rename_i es hes
          split at he
          · rename_i l hl
            simp only [Option.map_eq_some_iff, Prod.mk.injEq] at he
            obtain ⟨v', hv', rfl, rfl⟩ := he
            have h1 := cO_rel ht x
            rw [hx] at h1
            generalize hu : a.eval x = u at h1
            cases h1 with
            | ptr hι hpm =>
              rename_i p
              obtain ⟨hF, cs, e, fz, h3, h4, h5, h6⟩ := hh.cells hes hι hpm
              obtain ⟨h7, h8⟩ := h6 i l hl
              obtain ⟨u, h9, h10⟩ := loadVar_run (P := P) hn (B := p.B) (O := p.O + i * p.sz) (off := o) (cells := l) (fun k av hk => by
                obtain ⟨u, h11, h12⟩ := h8 k av hk
                refine ⟨u, ?_, h12⟩
                simp only [World.cell?, h3]
                simpa using h11) hv'
              exact .same (by simp only [execOp, hu, Instr.loadAt, Instr.sureAddr, Sem.run_bind, Sem.run_pure, Result.andThen_ok, h9]) h10
          · simp at he
        · simp at he
      · simp at he
    case convert src dst' x =>
      unfold compConv at hco
      split at hco
      · simp only [Option.some.injEq] at hco; subst hco; simp [evR] at he
      · simp only [Option.some.injEq] at hco; subst hco; simp [evR] at he
      · split at hco
        · simp only [Option.some.injEq] at hco; subst hco; simp [evR] at he
        · simp at hco
      · rename_i e hs hd
        split at hco
        · rename_i hu8
          simp only [Option.some.injEq] at hco; subst hco
          simp only [evR] at he
          split at he
          · rename_i r' sz i len cp hx
            split at he
            · rename_i es hes
              split at he
              · rename_i hle
                obtain ⟨hsz, hle⟩ := hle
                simp only [Option.map_eq_some_iff, Prod.mk.injEq] at he
                obtain ⟨l, hl, rfl, rfl⟩ := he
                have h1 := cO_rel ht x
                rw [hx] at h1
                have hel : elemsA c.hp 1 (.sl r' sz i len cp) = some ((es.drop i).take len) := by simp [elemsA, hsz, hes, hle]
                generalize e1 : a.eval x = u at h1
                obtain ⟨hlen, hrows, hfirst⟩ := elems_run (P := P) hh h1 hel
                obtain ⟨ns, hns, rfl⟩ := toBytes_spec hl
                obtain ⟨ys, hys0, hrel⟩ := hfirst ((es.drop i).take len).length (Nat.le_refl _)
                have hys := hys0 c.w rfl
                clear hys0
                rw [List.take_length] at hrel
                have hfl : ((es.drop i).take len).flatten = ns.map (fun n => AV.v (.int .u8 n)) := by
                  rw [hns]
                  clear hns hl
                  induction ns with
                  | nil => rfl
                  | cons q r ih => simp [ih]
                have hyv : ys = ns.map (Value.int .u8) := by
                  apply List.ext_getElem?
                  intro k
                  rw [hfl] at hrel
                  by_cases hk : k < ns.length
                  · obtain ⟨u, h3, h4⟩ := hrel.get (k := k) (av := .v (.int .u8 ns[k])) (by simp [hk])
                    rw [h3, h4.v_inv]; simp [hk]
                  · have := hrel.1
                    rw [List.getElem?_eq_none (by simp at this; omega), List.getElem?_eq_none (by simp; omega)]
                cases h1 with
                | sl hι hs' ha hll hcap hN hE hpm =>
                  rename_i m p ad
                  have hlen' : ((es.drop i).take len).length = len := by simp; omega
                  have hload : (loadCells ad len).run P c.w = .ok (ns.map (Value.int .u8)).toArray c.w := by
                    have := hys
                    rw [hlen', hyv] at this
                    simpa [Builtin.firstCells] using this
                  refine .same (u := .string (ns.foldl (fun r n => r.push (UInt8.ofNat n.toNat)) ByteArray.empty)) ?_ ?_
                  · have hrun := run_bytesToString c.w ad len m ns hload
                    have hcv := run_convert_bytes_string c.w src dst' e (some ad) len m hs hu8 hd
                    simp only [execOp, e1, Sem.run_bind, hcv, hrun, Result.andThen_ok, Sem.run_pure]
                  · have := rel_str c (ns.foldl (fun r n => r.push (UInt8.ofNat n.toNat)) ByteArray.empty)
                    rw [fold_push] at this
                    simpa using this
              · simp at he
            · simp at he
          · simp at he
        · simp at hco
      · simp only [Option.some.injEq] at hco; subst hco; simp [evR] at he
      · rename_i e hs hd
        split at hco
        · rename_i h0
          simp only [Option.some.injEq] at hco; subst hco
          simp only [evR] at he
          split at he
          · rename_i r' hx
            split at he
            · rename_i l0 lr es hes
              simp only [Option.some.injEq, Prod.mk.injEq] at he
              obtain ⟨rfl, rfl⟩ := he
              have h1 := cO_rel ht x
              rw [hx] at h1
              have h1' := h1
              generalize e1 : a.eval x = u1 at h1
              cases h1 with
              | ptr hι hpm =>
                rename_i p
                obtain ⟨_, cs, el, fz, h3, h4, h5, h6⟩ := hh.cells hes hι hpm
                obtain ⟨h7, h8⟩ := h6 0 _ rfl
                obtain ⟨u, h9, _⟩ := h8 0 _ rfl
                obtain ⟨j, hj, hj1, hj2⟩ := info_of_cells h0
                have hlt : p.O < cs.size := by
                  have := (Array.getElem?_eq_some_iff.1 h9).1
                  omega
                have hsh : c.w.shape? p.B = some (el, cs.size) := by simp [World.shape?, h3]
                refine .same (u := .pointer (some ⟨p.B, p.O + 0 * p.sz + 0, none⟩)) ?_ (.ptr hι hpm)
                have hr := Lib.run_to_unsafe (P := P) c.w (src := src) (dst := dst') (⟨p.B, p.O + 0 * p.sz + 0, none⟩ : Addr) hs hd hj hj2 hsh (by simpa using hlt)
                simp only [execOp, e1, Sem.run_bind, hr, Result.andThen_ok, Sem.run_pure]
            · simp at he
          · simp at he
        · simp at hco
      · rename_i u0 hs hd
        split at hco
        · rename_i h0
          simp only [Option.some.injEq] at hco; subst hco
          simp only [evR] at he
          split at he
          · rename_i q hx
            split at he
            · rename_i t' k' hes
              split at he
              · rename_i hb
                obtain ⟨rfl, rfl⟩ := hb
                simp only [Option.some.injEq, Prod.mk.injEq] at he
                obtain ⟨rfl, rfl⟩ := he
                have h1 := cO_rel ht x
                rw [hx] at h1
                generalize e1 : a.eval x = u1 at h1
                cases h1 with
                | ptr hι hpm =>
                  rename_i p
                  obtain ⟨p', cs, fz, g1, g2, g3, g4⟩ := hh.ty.1 q _ _ hes
                  rw [hι] at g1; simp only [Option.some.injEq] at g1; subst g1
                  obtain ⟨j, hj, hj1, hj2⟩ := info_of_cells h0
                  have hsh : c.w.shape? p.B = some (t', cs.size) := by simp [World.shape?, g3]
                  refine .same (u := .pointer (some ⟨p.B, p.O + 0 * p.sz + 0, none⟩)) ?_ (.ptr hι hpm)
                  have hz : p.O + 0 * p.sz + 0 = 0 := by rw [g2]; simp
                  have hr := Lib.run_from_unsafe (P := P) c.w (src := src) (dst := dst') (⟨p.B, p.O + 0 * p.sz + 0, none⟩ : Addr) hs hd hj hsh (by
                    show liesAt P P.depth t' (cs.size / P.cellsOf t') (p.O + 0 * p.sz + 0) t' 1 = true
                    rw [hz]
                    exact liesAt_same h0 _ ((Nat.le_div_iff_mul_le h0).2 (by omega)))
                  simp only [execOp, e1, Sem.run_bind, hr, Result.andThen_ok, Sem.run_pure]
              · simp at he
            · simp at he
          · simp at he
        · simp at hco
      · simp at hco
    case alloc e => split at hco <;> simp only [Option.map_eq_some_iff] at hco <;> obtain ⟨z, _, rfl⟩ := hco <;> simp [evR] at he
    case call cl =>
      obtain ⟨callee, args, ts⟩ := cl
      cases callee with
      | value f =>
        cases f <;> simp only [] at hco <;> (try (split at hco)) <;> simp only [Option.some.injEq, reduceCtorEq] at hco <;> subst hco <;> simp [evR] at he
      | invoke r m => simp at hco
      | builtin b =>
        unfold compTapp compBuiltin at hco
        (repeat' split at hco) <;> simp only [Option.some.injEq, reduceCtorEq] at hco <;> (try subst hco) <;> simp [evR] at he
    all_goals (first | (simp at hco; done) | skip)
    all_goals ((try unfold compBin at hco); (repeat' split at hco) <;> (first | (simp only [Option.some.injEq, reduceCtorEq] at hco; done) | (simp only [Option.some.injEq] at hco; subst hco; simp [evR] at he; done) | (simp only [Option.map_eq_some_iff] at hco; obtain ⟨_, _, rfl⟩ := hco; simp [evR] at he; done)))
  · cases op
    case binOp =>
      unfold compEqs at hc
      (repeat' split at hc) <;> simp only [Option.some.injEq, reduceCtorEq] at hc <;> subst hc <;> simp [evR] at he
    all_goals exact evR_map (compMap_cases hc) he ht hh

end Go.Ai
