/- Maps: what is read. -/
import Derived.Test.YtooomkpingiojaaGreatAiOpsF
import Derived.MapKept
namespace Go.Ai
set_option linter.unusedVariables false
set_option linter.unusedSimpArgs false

/-- The kind of keys that a type has. -/
def LKd : LK → TypeDesc → Prop
  | .i, d => ∃ q, d = .int q
  | .s, d => d = .string
  | .b, d => d = .bool
theorem lkOf_spec {P : Program} {k : TypeId} {lk : LK} (h : lkOf P k = some lk) : ∃ d, P.underlying k = some d ∧ LKd lk d := by
  unfold lkOf at h
  split at h <;> first | (cases h; done) | (rename_i hu; cases h; exact ⟨_, hu, by first | rfl | exact ⟨_, rfl⟩⟩)

theorem sameNow_eq {c : Cx} {lk : LK} {d : TypeDesc} (hl : LKd lk d) {k k' : AV} {kv kv' : Value} {b : Bool} (h : eqCell lk k k' = some b) (h1 : VRel c k kv) (h2 : VRel c k' kv') : Instr.sameNow d kv kv' = some b ∧ (b = true → kv' = kv) := by
  unfold eqCell at h
  split at h
  · split at h
    · rename_i hk
      subst hk
      simp only [Option.some.injEq] at h; subst h
      have e1 := h1.v_inv
      have e2 := h2.v_inv
      subst e1; subst e2
      obtain ⟨q, rfl⟩ := hl
      refine ⟨by simp [Instr.sameNow, beq_dec], fun h => ?_⟩
      have := of_decide_eq_true h
      rw [this]
    · cases h
  · rename_i a b'
    simp only [Option.some.injEq] at h; subst h
    have e1 := h1.str_inv
    have e2 := h2.str_inv
    subst e1; subst e2
    have hl : d = .string := hl
    subst hl
    refine ⟨?_, fun h => ?_⟩
    · simp only [Instr.sameNow, Option.some.injEq]
      rw [Bool.eq_iff_iff, MapKept.bytes_beq]
      simp
    · have := of_decide_eq_true h
      rw [this]
  · simp only [Option.some.injEq] at h; subst h
    have e1 := h1.v_inv
    have e2 := h2.v_inv
    subst e1; subst e2
    have hl : d = .bool := hl
    subst hl
    refine ⟨rfl, fun h => ?_⟩
    simp only [beq_iff_eq] at h
    rw [h]
  · cases h

theorem findM_run {c : Cx} {lk : LK} {d : TypeDesc} (hl : LKd lk d) {k : AV} {kv : Value} (hk : VRel c k kv) : ∀ (es : Blk) (l : List MapEntry) (i0 : Nat), es.length = l.length →
    (∀ (i : Nat) (row : List AV) (e : MapEntry), es[i]? = some row → l[i]? = some e → ∃ k' v', row = [k', v'] ∧ VRel c k' e.key ∧ VRel c v' e.val) → ∀ res, findM lk k es = some res →
    match res with
    | none => Instr.findNow d kv l i0 = some none
    | some (j, v) => ∃ e, l[j]? = some e ∧ VRel c v e.val ∧ e.key = kv ∧ Instr.findNow d kv l i0 = some (some (i0 + j, e.val))
  | [], [], i0, _, _, res, h => by simp only [findM, Option.some.injEq] at h; subst h; rfl
  | [], _ :: _, i0, hlen, _, res, h => by simp at hlen
  | _ :: _, [], i0, hlen, _, res, h => by simp at hlen
  | row :: es, e :: l, i0, hlen, hrows, res, h => by
    obtain ⟨k', v', rfl, hk', hv'⟩ := hrows 0 _ e rfl rfl
    simp only [findM] at h
    split at h
    · rename_i heq
      simp only [Option.some.injEq] at h; subst h
      obtain ⟨g1, g2⟩ := sameNow_eq hl heq hk hk'
      exact ⟨e, rfl, hv', g2 rfl, by simp only [Instr.findNow, g1, Nat.add_zero]⟩
    · rename_i heq
      obtain ⟨g1, _⟩ := sameNow_eq hl heq hk hk'
      have ih := findM_run hl hk es l (i0 + 1) (by simpa using hlen) (fun i row' e' h1 h2 => hrows (i + 1) row' e' (by simpa using h1) (by simpa using h2))
      cases hf : findM lk k es with
      | none => rw [hf] at h; cases h
      | some r =>
        have ih := ih r hf
        rw [hf] at h
        cases r with
        | none =>
          simp only [Option.some.injEq] at h; subst h
          simp only [Instr.findNow, g1]; exact ih
        | some p =>
          obtain ⟨j, v⟩ := p
          simp only [Option.some.injEq] at h; subst h
          obtain ⟨e', h1, h2, h3, h4⟩ := ih
          refine ⟨e', by simpa using h1, h2, h3, ?_⟩
          simp only [Instr.findNow, g1]
          rw [h4]; congr 2; simp only [Prod.mk.injEq, and_true]; omega
    · cases h

theorem checkKey_run {P : Program} {w : World} {kt : TypeId} {lk : LK} {d : TypeDesc} (hd : P.underlying kt = some d) (hl : LKd lk d) (em : Bool) (v : Value) : (Instr.checkKey em 10000 kt v).run P w = .ok () w := by
  unfold Instr.checkKey
  cases lk with
  | i => obtain ⟨q, rfl⟩ := hl; simp [run_underlying hd, Result.andThen]
  | s => have hl : d = .string := hl; subst hl; simp [run_underlying hd, Result.andThen]
  | b => have hl : d = .bool := hl; subst hl; simp [run_underlying hd, Result.andThen]

theorem evR_map {P : Program} {op : Op} {co : COp} (hm : MapOp P op co) {dst : Option Tmp} {type : TypeId} {pos : String} {after : Array Edge} {guard : Option (Nat × Bool)} {tm : Nat → AV} {a : Act} {c : Cx} {v : AV} {r : Nat} (he : evR tm c.hp co = some (v, r)) {nx : Nat} (ht : TRel c tm a) (hh : HRel c nx) :
    PGood P ⟨dst, op, type, pos, after, guard⟩ a c v := by
  cases hm with
  | mk h => simp [evR] at he
  | set h hl => simp [evR] at he
  | del ha h0 h hl => simp [evR] at he
  | range h => simp [evR] at he
  | next => simp [evR] at he
  | entr => simp [evR] at he
  | entry h hl hi hz => simp [evR] at he
  | estore => simp [evR] at he
  | @look t kt et x k ok lk i z h hl hi hz =>
    simp only [evR] at he
    split at he
    · rename_i r' hx
      split at he
      · rename_i es hes
        split at he
        · have h1 := cO_rel ht x
          have h2 := cO_rel ht k
          rw [hx] at h1
          generalize hux : a.eval x = ux at h1
          cases h1 with
          | mp hι hpm =>
            rename_i p
            obtain ⟨_, ents, clock, hb, hrows, _⟩ := hh.map hes hι hpm
            obtain ⟨d, hd, hld⟩ := lkOf_spec hl
            have hzv : (zeroValue et).run P c.w = .ok z c.w := by simp [zeroValue, typeInfo, hi, hz]
            have hck := fun em => checkKey_run (P := P) (w := c.w) hd hld em (a.eval k)
            have key := findM_run hld h2 es ents.toList 0 (by simpa using hrows.1) (fun i row e h3 h4 => hrows.2 i row e h3 (by simpa using h4))
            split at he
            · rename_i j v' hf
              simp only [Option.some.injEq, Prod.mk.injEq] at he
              obtain ⟨rfl, rfl⟩ := he
              obtain ⟨e, h3, h4, _, h5⟩ := key _ hf
              have hrun : (Instr.lookup t (.map (some p.B)) (a.eval k) ok).run P c.w = .ok (if ok then .tuple #[e.val, .bool true] else e.val) c.w := by
                unfold Instr.lookup
                simp [run_underlying h, MapKept.run_getObj_map hb, hck, MapKept.run_findKey hd h5, Result.andThen]
              refine .same (u := if ok then .tuple #[e.val, .bool true] else e.val) (by simp only [execOp, hux]; simp [hrun]) ?_
              cases ok
              · exact h4
              · exact .tup rfl fun q av u h6 h7 => by
                  match q with
                  | 0 => simp at h6 h7; subst h6; subst h7; exact h4
                  | 1 => simp at h6 h7; subst h6; subst h7; exact .v _
                  | q + 2 => simp at h6
            · rename_i hf
              simp only [Option.some.injEq, Prod.mk.injEq] at he
              obtain ⟨rfl, rfl⟩ := he
              have h5 := key _ hf
              have hrun : (Instr.lookup t (.map (some p.B)) (a.eval k) ok).run P c.w = .ok (if ok then .tuple #[z, .bool false] else z) c.w := by
                unfold Instr.lookup
                simp [run_underlying h, MapKept.run_getObj_map hb, hck, MapKept.run_findKey hd h5, hzv, Result.andThen]
              refine .same (u := if ok then .tuple #[z, .bool false] else z) (by simp only [execOp, hux]; simp [hrun]) ?_
              cases ok
              · exact ofV_rel c z
              · exact .tup rfl fun q av u h6 h7 => by
                  match q with
                  | 0 => simp at h6 h7; subst h6; subst h7; exact ofV_rel c z
                  | 1 => simp at h6 h7; subst h6; subst h7; exact .v _
                  | q + 2 => simp at h6
            · cases he
        · cases he
      · cases he
    · cases he
  | @len t kt et x args ts ha h0 h =>
    simp only [evR] at he
    split at he
    · rename_i r' hx
      split at he
      · rename_i es hes
        simp only [Option.some.injEq, Prod.mk.injEq] at he
        obtain ⟨rfl, rfl⟩ := he
        have h1 := cO_rel ht x
        rw [hx] at h1
        generalize hux : a.eval x = ux at h1
        cases h1 with
        | mp hι hpm =>
          rename_i p
          obtain ⟨_, ents, clock, hb, hrows, _⟩ := hh.map hes hι hpm
          have hm : args.map a.eval = #[.map (some p.B)] := by
            have : args = #[x] := Array.toList_inj.1 (by simpa using ha)
            subst this; simp [hux]
          have hrun : (Builtin.len_ ts type #[.map (some p.B)]).run P c.w = .ok (goInt ents.size) c.w := by
            unfold Builtin.len_
            rw [h0, show (#[Value.map (some p.B)] : Array Value)[0]? = some (.map (some p.B)) from rfl]
            simp [run_underlying h, MapKept.run_getObj_map hb, Result.andThen]
          refine .same (u := goInt ents.size) (builtin_exec ?_) ?_
          · rw [hm]; simp only [builtin, Sem.run_bind, hrun, Result.andThen_ok, Sem.run_pure]
          · rw [hrows.1]; exact .v _
      · cases he
    · cases he
end Go.Ai
