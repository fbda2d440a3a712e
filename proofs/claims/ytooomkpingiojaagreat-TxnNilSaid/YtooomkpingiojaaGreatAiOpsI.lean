/- Appending. -/
import Derived.Test.YtooomkpingiojaaGreatAiOpsH
namespace Go.Ai
set_option linter.unusedVariables false
set_option linter.unusedSimpArgs false

section
variable {P : Program} {ts : Array TypeId} {t t2 ty e : TypeId} {i : TypeInfo} {d2 : TypeDesc}

theorem append_fits_run {w w' : World} {base : Option Addr} {sLen sCap n : Nat} {x : Value} {arr : Array Value} (h0 : ts[0]? = some t) (h1 : ts[1]? = some t2) (hu : P.underlying t = some (.slice e)) (hu2 : P.underlying t2 = some d2) (hd : ∀ k, d2 ≠ .int k) (hi : P.info? e = some i)
    (hl : (Builtin.lenOf x).run P w = .ok n w) (hf : (Builtin.firstCells i.size n x).run P w = .ok arr w) (hfit : sLen + n ≤ sCap)
    (hst : (match base with | some a => storeCells (a.add (sLen * i.size)) arr.toList | none => pure ()).run P w = .ok () w') :
    (Builtin.append_ ts ty #[.slice base sLen sCap, x]).run P w = .ok (.slice base (sLen + n) sCap) w' := by
  have hz' : (d2 matches .int _) = false := by cases d2 <;> first | rfl | exact absurd rfl (hd _)
  have hsz : (sizeOf e).run P w = .ok i.size w := by simp [sizeOf, typeInfo, hi]
  unfold Builtin.append_
  rw [h0, h1, show (#[Value.slice base sLen sCap, x] : Array Value)[0]? = some (.slice base sLen sCap) from rfl, show (#[Value.slice base sLen sCap, x] : Array Value)[1]? = some x from rfl]
  simp only [Sem.run_bind, run_underlying hu, run_underlying hu2, hsz, Result.andThen_ok, Sem.run_pure]
  simp only [hz', Bool.false_eq_true, if_false, hl, Result.andThen_ok, hfit, if_true, Bool.not_false, Sem.run_bind, hf]
  cases base with
  | none => simp at hst; subst hst; simp
  | some ad => simp only at hst; simp [hst]

theorem append_grow_run {w : World} {base : Option Addr} {sLen sCap n : Nat} {x : Value} {old arr : Array Value} {zv : Value} (h0 : ts[0]? = some t) (h1 : ts[1]? = some t2) (hu : P.underlying t = some (.slice e)) (hu2 : P.underlying t2 = some d2) (hd : ∀ k, d2 ≠ .int k) (hi : P.info? e = some i) (hzv : i.zero = some zv)
    (hl : (Builtin.lenOf x).run P w = .ok n w) (hf : ∀ w', w'.heap = w.heap → (Builtin.firstCells i.size n x).run P w' = .ok arr w') (ho : ∀ w', w'.heap = w.heap → (Builtin.firstCells i.size sLen (.slice base sLen sCap)).run P w' = .ok old w')
    (hfit : ¬ sLen + n ≤ sCap) (hb : 0 < i.bytes) (hbytes : (sLen + n) * i.bytes ≤ 140737488355328) :
    ∃ cap w', sLen + n ≤ cap ∧ (Builtin.append_ ts ty #[.slice base sLen sCap, x]).run P w = .ok (.slice (some ⟨w.heap.size, 0, none⟩) (sLen + n) cap) w' ∧
      w'.heap = w.heap.push (.cells (old ++ arr ++ Builtin.zeroCells zv.cells (cap - (sLen + n))) e) ∧ w'.os = w.os ∧ w'.tape = w.tape ∧ w'.output = w.output := by
  have hz' : (d2 matches .int _) = false := by cases d2 <;> first | rfl | exact absurd rfl (hd _)
  have hsz : ∀ w', (sizeOf e).run P w' = .ok i.size w' := fun w' => by simp [sizeOf, typeInfo, hi]
  have hti : ∀ w', (typeInfo e).run P w' = .ok i w' := fun w' => by simp [typeInfo, hi]
  have hze : ∀ w', (zeroValue e).run P w' = .ok zv w' := fun w' => by simp [zeroValue, typeInfo, hi, hzv]
  have hg := growslice_fits (need := sLen + n) (old := sCap) (bytes := i.bytes) (by omega) hbytes
  have hg' : ¬ (Builtin.nextslicecap (sLen + n) sCap * i.bytes > 2 ^ 48) := by
    have : (2 : Nat) ^ 48 = 281474976710656 := by decide
    omega
  have hneed : ¬ (((sLen + n : Nat) : Int) > IntKind.i64.max ∧ (false = true ∨ i.bytes = 0)) := by
    rintro ⟨_, h | h⟩
    · simp at h
    · omega
  let q : Question := .appendCap (sLen + n) sCap e
  refine ⟨q.cut (w.tape w.drawn q), { w with drawn := w.drawn + 1, heap := w.heap.push (.cells (old ++ arr ++ Builtin.zeroCells zv.cells (q.cut (w.tape w.drawn q) - (sLen + n))) e) }, ?_, ?_, rfl, rfl, rfl, rfl⟩
  · show sLen + n ≤ sLen + n + _ ; omega
  · unfold Builtin.append_
    rw [h0, h1, show (#[Value.slice base sLen sCap, x] : Array Value)[0]? = some (.slice base sLen sCap) from rfl, show (#[Value.slice base sLen sCap, x] : Array Value)[1]? = some x from rfl]
    simp only [Sem.run_bind, run_underlying hu, run_underlying hu2, hsz, Result.andThen_ok, Sem.run_pure]
    simp only [hz', Bool.false_eq_true, if_false, hl, Result.andThen_ok, hfit, Bool.not_false, if_true, Sem.run_bind, hti]
    have hforced : (Question.appendCap (sLen + n) sCap e).forced = false := rfl
    rw [if_neg (by rintro ⟨_, h | h⟩; exact h.elim; omega)]
    simp only [Sem.run_bind, hti, Result.andThen_ok]
    rw [if_neg hg']
    simp only [Sem.run_bind, run_choose, hforced, Bool.false_eq_true, if_false, Result.andThen_ok, hti, run_askRoom, ho { w with drawn := w.drawn + 1 } rfl, hf { w with drawn := w.drawn + 1 } rfl, hze]
    simp [newRow, q]
    rfl

theorem wrap_small {m : Int} (h0 : 0 ≤ m) (h : m ≤ 140737488355328) : IntKind.i64.wrap m = m := IntWalk.i64_in m ⟨by omega, by omega⟩

theorem zeroCells_nil {z : Array Value} {n size : Nat} (hz : z.size = size) (h : n * size = 0) : Builtin.zeroCells z n = #[] := by
  unfold Builtin.zeroCells
  rw [hz, h]; simp [Array.range_zero']

theorem appz_fits_run {w w' : World} {base : Option Addr} {sLen sCap : Nat} {k : IntKind} {m : Int} {kk : IntKind} {zv : Value} (h0 : ts[0]? = some t) (h1 : ts[1]? = some t2) (hu : P.underlying t = some (.slice e)) (hu2 : P.underlying t2 = some (.int kk)) (hi : P.info? e = some i) (hzv : i.zero = some zv) (hzs : zv.cells.size = i.size)
    (hm0 : 0 ≤ m) (hm : m ≤ 140737488355328) (hmb : m * i.bytes ≤ 140737488355328) (hfit : sLen + m.toNat ≤ sCap)
    (hst : (match base with | some a => storeCells (a.add (sLen * i.size)) (Builtin.zeroCells zv.cells m.toNat).toList | none => pure ()).run P w = .ok () w') :
    (Builtin.append_ ts ty #[.slice base sLen sCap, .int k m]).run P w = .ok (.slice base (sLen + m.toNat) sCap) w' := by
  have hsz : (sizeOf e).run P w = .ok i.size w := by simp [sizeOf, typeInfo, hi]
  have hti : (typeInfo e).run P w = .ok i w := by simp [typeInfo, hi]
  have hze : (zeroValue e).run P w = .ok zv w := by simp [zeroValue, typeInfo, hi, hzv]
  have hw := wrap_small hm0 hm
  unfold Builtin.append_
  rw [h0, h1, show (#[Value.slice base sLen sCap, .int k m] : Array Value)[0]? = some (.slice base sLen sCap) from rfl, show (#[Value.slice base sLen sCap, .int k m] : Array Value)[1]? = some (.int k m) from rfl]
  simp only [Sem.run_bind, run_underlying hu, run_underlying hu2, hsz, Result.andThen_ok, Sem.run_pure]
  simp only [if_true, asInt, asIntOf, Sem.run_bind, Sem.run_pure, Result.andThen_ok, hw, hti]
  rw [if_neg (by omega)]
  simp only [Sem.run_bind, hti, Result.andThen_ok]
  have h48 : ¬ (m * (i.bytes : Int) > 2 ^ 48) := by
    have : (2 : Int) ^ 48 = 281474976710656 := by decide
    omega
  rw [if_neg h48]
  simp only [Sem.run_pure, Result.andThen_ok, hfit, if_true, Bool.not_true, Bool.false_eq_true, if_false]
  have hap : (if m.toNat * i.size = 0 then pure #[] else do pure (Builtin.zeroCells (← zeroValue e).cells m.toNat) : Sem (Array Value)).run P w = .ok (Builtin.zeroCells zv.cells m.toNat) w := by
    split
    · rename_i h; rw [zeroCells_nil hzs h]; rfl
    · simp only [Sem.run_bind, hze, Result.andThen_ok, Sem.run_pure]
  have hnil := zeroCells_nil (z := zv.cells) (n := m.toNat) (size := i.size) hzs
  cases base with
  | none =>
    simp at hst; subst hst
    simp only [Sem.run_bind, Sem.run_ite, Sem.run_pure, Result.andThen_ok, hfit, if_true]
    split <;> simp [hze]
  | some ad =>
    simp only at hst
    simp only [Sem.run_bind, Sem.run_ite, Sem.run_pure, Result.andThen_ok, hfit, if_true]
    split
    · rename_i h
      rw [hnil h] at hst
      simp at hst
      simp [hst]
    · simp [hze, hst]

theorem appz_grow_run {w : World} {base : Option Addr} {sLen sCap : Nat} {k : IntKind} {m : Int} {kk : IntKind} {old : Array Value} {zv : Value} (h0 : ts[0]? = some t) (h1 : ts[1]? = some t2) (hu : P.underlying t = some (.slice e)) (hu2 : P.underlying t2 = some (.int kk)) (hi : P.info? e = some i) (hzv : i.zero = some zv) (hzs : zv.cells.size = i.size)
    (hm0 : 0 ≤ m) (hm : m ≤ 140737488355328) (hmb : m * i.bytes ≤ 140737488355328) (ho : ∀ w', w'.heap = w.heap → (Builtin.firstCells i.size sLen (.slice base sLen sCap)).run P w' = .ok old w')
    (hfit : ¬ sLen + m.toNat ≤ sCap) (hb : 0 < i.bytes) (hbytes : (sLen + m.toNat) * i.bytes ≤ 140737488355328) :
    ∃ cap w', sLen + m.toNat ≤ cap ∧ (Builtin.append_ ts ty #[.slice base sLen sCap, .int k m]).run P w = .ok (.slice (some ⟨w.heap.size, 0, none⟩) (sLen + m.toNat) cap) w' ∧
      w'.heap = w.heap.push (.cells (old ++ Builtin.zeroCells zv.cells m.toNat ++ Builtin.zeroCells zv.cells (cap - (sLen + m.toNat))) e) ∧ w'.os = w.os ∧ w'.tape = w.tape ∧ w'.output = w.output := by
  have hsz : ∀ w', (sizeOf e).run P w' = .ok i.size w' := fun w' => by simp [sizeOf, typeInfo, hi]
  have hti : ∀ w', (typeInfo e).run P w' = .ok i w' := fun w' => by simp [typeInfo, hi]
  have hze : ∀ w', (zeroValue e).run P w' = .ok zv w' := fun w' => by simp [zeroValue, typeInfo, hi, hzv]
  have hw := wrap_small hm0 hm
  have hg := growslice_fits (need := sLen + m.toNat) (old := sCap) (bytes := i.bytes) (by omega) hbytes
  have hg' : ¬ (Builtin.nextslicecap (sLen + m.toNat) sCap * i.bytes > 2 ^ 48) := by
    have : (2 : Nat) ^ 48 = 281474976710656 := by decide
    omega
  have hneed : ¬ (((sLen + m.toNat : Nat) : Int) > IntKind.i64.max ∧ (True ∨ i.bytes = 0)) := by
    rintro ⟨h, _⟩
    have h2 : IntKind.i64.max = 9223372036854775807 := by decide
    have h3 : sLen + m.toNat ≤ (sLen + m.toNat) * i.bytes := Nat.le_mul_of_pos_right _ hb
    omega
  have h48 : ¬ (m * (i.bytes : Int) > 2 ^ 48) := by
    have : (2 : Int) ^ 48 = 281474976710656 := by decide
    omega
  let q : Question := .appendCap (sLen + m.toNat) sCap e
  refine ⟨q.cut (w.tape w.drawn q), { w with drawn := w.drawn + 1, heap := w.heap.push (.cells (old ++ Builtin.zeroCells zv.cells m.toNat ++ Builtin.zeroCells zv.cells (q.cut (w.tape w.drawn q) - (sLen + m.toNat))) e) }, ?_, ?_, rfl, rfl, rfl, rfl⟩
  · show sLen + m.toNat ≤ sLen + m.toNat + _ ; omega
  · unfold Builtin.append_
    rw [h0, h1, show (#[Value.slice base sLen sCap, .int k m] : Array Value)[0]? = some (.slice base sLen sCap) from rfl, show (#[Value.slice base sLen sCap, .int k m] : Array Value)[1]? = some (.int k m) from rfl]
    simp only [Sem.run_bind, run_underlying hu, run_underlying hu2, hsz, Result.andThen_ok, Sem.run_pure]
    simp only [if_true, asInt, asIntOf, Sem.run_bind, Sem.run_pure, Result.andThen_ok, hw, hti]
    rw [if_neg (by omega)]
    simp only [Sem.run_bind, hti, Result.andThen_ok]
    rw [if_neg h48]
    simp only [Sem.run_pure, Result.andThen_ok, hfit, if_false, Bool.not_true, Bool.false_eq_true, Sem.run_bind, hti]
    have hforced : (Question.appendCap (sLen + m.toNat) sCap e).forced = false := rfl
    rw [if_neg hneed]
    simp only [Sem.run_bind, hti, Result.andThen_ok]
    rw [if_neg hg']
    have hap : (if m.toNat * i.size = 0 then pure #[] else do pure (Builtin.zeroCells (← zeroValue e).cells m.toNat) : Sem (Array Value)).run P { w with drawn := w.drawn + 1 } = .ok (Builtin.zeroCells zv.cells m.toNat) { w with drawn := w.drawn + 1 } := by
      split
      · rename_i h; rw [zeroCells_nil hzs h]; rfl
      · simp only [Sem.run_bind, hze, Result.andThen_ok, Sem.run_pure]
    simp only [Sem.run_bind, run_choose, hforced, Bool.false_eq_true, if_false, Result.andThen_ok, hti, run_askRoom, ho { w with drawn := w.drawn + 1 } rfl, hap, hze]
    simp [newRow, q]
    rfl

end

end Go.Ai
