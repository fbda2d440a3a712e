/- The pure operations: what the model's operation comes to is what the abstract one says. -/
import Derived.Test.YtooomkpingiojaaGreatAiRel
import Derived.Test.YtooomkpingiojaaGreatAiComp
import Derived.Lib.Strings
import Derived.Lib.UnsafeStr
import Derived.LaidEql
import Derived.Lib.Builder
import Derived.Laws.Externs
import Derived.Lib.SmallJoins
import Derived.Laws.BytesString
import Derived.Laws.StructEq
import Derived.Laws.Cells
namespace Go.Ai
set_option linter.unusedVariables false
set_option linter.unusedSimpArgs false

def TRel (c : Cx) (tm : Nat → AV) (a : Act) : Prop := ∀ t, VRel c (tm t) (a.tmps.getD t undef)

theorem TRel.mono {c c' : Cx} (e : Ext c c') {tm : Nat → AV} {a : Act} (h : TRel c tm a) : TRel c' tm a := fun t => (h t).mono e

theorem rel_str (c : Cx) (b : ByteArray) : VRel c (.str b.data.toList) (.string b) := by
  have := VRel.str (c := c) b.data.toList
  simpa using this

theorem ofV1_rel (c : Cx) (x : Value) : VRel c (ofV1 x) x := by
  unfold ofV1
  split
  · exact rel_str c _
  · exact .nil (fun m h => by cases h; rfl)
  · rename_i f a b
    split
    · rename_i h
      simp only [Bool.and_eq_true, decide_eq_true_eq] at h
      have ha : a = #[] := by simpa using h.1
      have hb : b = #[] := by simpa using h.2
      subst ha; subst hb
      exact .fn rfl rfl (fun k av u h => by simp at h) (fun k av u h => by simp at h)
    · exact .v _
  · exact .v _

theorem ofV_rel (c : Cx) (x : Value) : VRel c (ofV x) x := by
  unfold ofV
  split
  · rename_i cs
    refine .agg (by simp) (fun k av u h1 h2 => ?_)
    simp only [List.getElem?_map, Option.map_eq_some_iff] at h1
    obtain ⟨y, hy, rfl⟩ := h1
    have : y = u := by
      have h3 : cs.toList[k]? = some u := by simpa using h2
      rw [hy] at h3; exact Option.some.inj h3
    subst this
    exact ofV1_rel c y
  · exact ofV1_rel c _

theorem cO_rel {c : Cx} {tm : Nat → AV} {a : Act} (h : TRel c tm a) (x : Operand) : VRel c (ev tm (cO x)) (a.eval x) := by
  cases x with
  | tmp t => exact h t
  | const v => exact ofV_rel c v
  | global g => exact .v _
  | func f => exact .fn rfl rfl (fun k av u h => by simp at h) (fun k av u h => by simp at h)

/-! ### Inversions -/
theorem VRel.v_inv {c : Cx} {x u : Value} (h : VRel c (.v x) u) : u = x := by cases h; rfl
theorem VRel.str_inv {c : Cx} {l : List UInt8} {u : Value} (h : VRel c (.str l) u) : u = .string ⟨l.toArray⟩ := by cases h; rfl

structure Grow (w w' : World) : Prop where
  size : w.heap.size ≤ w'.heap.size
  keep : ∀ B, B < w.heap.size → w'.heap[B]? = w.heap[B]?
  os : w'.os = w.os
  tape : w'.tape = w.tape
  output : w'.output = w.output

theorem Grow.refl (w : World) : Grow w w := ⟨Nat.le_refl _, fun _ _ => rfl, rfl, rfl, rfl⟩
theorem Grow.push (w : World) (o : Obj) : Grow w { w with heap := w.heap.push o } :=
  ⟨by simp, fun B h => by simp [Array.getElem?_push]; omega, rfl, rfl, rfl⟩

theorem Ext.of_grow {c : Cx} {nx : Nat} {w' : World} (h : Grow c.w w') : Ext c { c with w := w' } :=
  ⟨rfl, fun _ _ h => h, h.size, fun B hB ho => ⟨ho, h.keep B hB⟩, h.os, h.tape, h.output⟩

theorem HRel.grow {c : Cx} {nx : Nat} {w' : World} (hh : HRel c nx) (h : Grow c.w w') : HRel { c with w := w' } nx := by
  have e : Ext c { c with w := w' } := Ext.of_grow (nx := nx) h
  refine ⟨hh.dom, hh.lt, ?_, hh.inj, fun B hB => Nat.lt_of_lt_of_le (hh.F B hB) h.size, hh.ty.to (fun _ _ _ _ h => h) (fun _ _ h => h) (fun B cs t fz hB => ⟨cs, by show w'.heap[B]? = _; rw [h.keep B (Array.getElem?_eq_some_iff.1 hB).1]; exact hB, rfl⟩) (fun _ _ _ h => h), hh.gl.ext e⟩
  intro r es p h1 h2
  obtain ⟨hF, o, h3, h4⟩ := hh.blk r es p h1 h2
  have hlt : p.B < c.w.heap.size := (Array.getElem?_eq_some_iff.1 h3).1
  exact ⟨hF, o, by show w'.heap[p.B]? = _; rw [h.keep _ hlt]; exact h3, h4.move fun x u hv => hv.mono e⟩

/-- What an operation comes to. -/
def RunsTo (P : Program) (o : Oper) (a : Act) (w : World) (u : Value) (w' : World) : Prop :=
  (execOp a.eval o).run P w = .ok (.value u) w' ∨ ((execOp a.eval o).run P w = .ok .skip w' ∧ u = undef)

def PGood (P : Program) (o : Oper) (a : Act) (c : Cx) (v : AV) : Prop := ∃ u w', RunsTo P o a c.w u w' ∧ Grow c.w w' ∧ VRel { c with w := w' } v u

theorem PGood.same {P : Program} {o : Oper} {a : Act} {c : Cx} {v : AV} {u : Value} (h : (execOp a.eval o).run P c.w = .ok (.value u) c.w) (hv : VRel c v u) : PGood P o a c v :=
  ⟨u, c.w, .inl h, Grow.refl _, hv⟩

theorem toList_ba (b : ByteArray) : b.toList = b.data.toList := ByteArray.toList_eq b

theorem beq_dec {α : Type} [BEq α] [LawfulBEq α] [DecidableEq α] (a b : α) : (a == b) = decide (a = b) := by
  rw [Bool.eq_iff_iff]; simp

theorem strLt_eq (x y : List UInt8) : Op.bytesLess x y = strLt x y := by
  induction x generalizing y with
  | nil => cases y <;> rfl
  | cons a x ih => cases y with
    | nil => rfl
    | cons b y => simp only [Op.bytesLess, strLt, ih]

theorem intA_run {P : Program} {w : World} {op : BinOp} {t : TypeId} {k : IntKind} {a b : Int} {v : AV} (hop : op ≠ .shl ∧ op ≠ .shr) (h : intA op k a b = some v) :
    ∃ x, v = .v x ∧ (binOp op t (.int k a) (.int k b)).run P w = .ok x w := by
  cases op <;> simp only [intA, Option.some.injEq, reduceCtorEq] at h
  case quo =>
    split at h
    · simp at h
    · rename_i hb; simp only [Option.some.injEq] at h; subst h
      exact ⟨_, rfl, by simp [binOp_quo, Op.intDiv, hb]⟩
  case rem =>
    split at h
    · simp at h
    · rename_i hb; simp only [Option.some.injEq] at h; subst h
      exact ⟨_, rfl, by simp [binOp_rem, Op.intDiv, hb]⟩
  all_goals
    subst h
    refine ⟨_, rfl, ?_⟩
    simp [binOp, Op.intArith, Op.intBits, Op.intCmp, beq_dec, bne, Nat.min]

theorem shA_run {P : Program} {w : World} {op : BinOp} {t : TypeId} {k k' : IntKind} {a b : Int} {v : AV} (hop : op = .shl ∨ op = .shr) (h : shA op k a b = some v) :
    ∃ x, v = .v x ∧ (binOp op t (.int k a) (.int k' b)).run P w = .ok x w := by
  unfold shA at h
  split at h
  · simp at h
  · rename_i hb
    rcases hop with rfl | rfl <;> simp only [Option.some.injEq] at h <;> subst h <;> refine ⟨_, rfl, ?_⟩ <;>
      simp [binOp, Op.shift, hb, Nat.min_def, Nat.min]

theorem mk_eq_iff (x y : List UInt8) : ((⟨x.toArray⟩ : ByteArray) = ⟨y.toArray⟩) ↔ x = y := by
  constructor
  · intro h
    have := congrArg (fun b : ByteArray => b.data.toList) h
    simpa using this
  · rintro rfl; rfl

theorem strA_run {P : Program} {w : World} (c : Cx) {op : BinOp} {t : TypeId} {x y : List UInt8} {v : AV} (h : strA op x y = some v) :
    ∃ u, VRel c v u ∧ (binOp op t (.string ⟨x.toArray⟩) (.string ⟨y.toArray⟩)).run P w = .ok u w := by
  have hx : (⟨x.toArray⟩ : ByteArray).toList = x := by rw [toList_ba]
  have hy : (⟨y.toArray⟩ : ByteArray).toList = y := by rw [toList_ba]
  cases op <;> simp only [strA, Option.some.injEq, reduceCtorEq] at h
  case add =>
    split at h
    · rename_i hle
      simp only [Option.some.injEq] at h; subst h
      refine ⟨_, .str _, ?_⟩
      have hsz : ¬ (((⟨x.toArray⟩ : ByteArray).size + (⟨y.toArray⟩ : ByteArray).size : Nat) : Int) > IntKind.i64.max := by
        simp only [ByteArray.size, List.size_toArray]
        have : IntKind.i64.max = 9223372036854775807 := by decide
        omega
      have happ : (⟨x.toArray⟩ : ByteArray) ++ ⟨y.toArray⟩ = ⟨(x ++ y).toArray⟩ := by
        apply ByteArray.ext
        apply Array.ext'
        rw [Joins.data_append]
      simp only [binOp, Op.stringOp, Sem.run_ite, if_neg hsz, Sem.run_pure, happ]
    · simp at h
  all_goals
    subst h
    refine ⟨_, .v _, ?_⟩
    simp [binOp, Op.stringOp, hx, hy, strLt_eq, beq_dec]

/-! ### Cuts -/
inductive ORel (c : Cx) : Option AV → Option Value → Prop
  | none : ORel c none none
  | some {x u} (h : VRel c x u) : ORel c (some x) (some u)

theorem evo_rel {c : Cx} {tm : Nat → AV} {a : Act} (h : TRel c tm a) (x : Option Operand) : ORel c (evo tm (x.map cO)) (x.map a.eval) := by
  cases x with
  | none => exact .none
  | some x => exact .some (cO_rel h x)

theorem idxOf_inv {c : Cx} {x : AV} {u : Value} {i : Int} (hv : VRel c x u) (h : idxOf x = some i) : ∃ k, u = .int k i := by
  unfold idxOf at h
  split at h
  · simp only [Option.some.injEq] at h; subst h; exact ⟨_, hv.v_inv⟩
  · simp at h

theorem sliceBound_run {P : Program} {w : World} {k : IntKind} {i : Int} {y : Nat} {code : BoundsCode} (h : 0 ≤ i ∧ i ≤ y) :
    (Instr.sliceBound (.int k i) y code).run P w = .ok i.toNat w := by
  simp [Instr.sliceBound, asIntOf, h]

theorem bounds_run {P : Program} {c : Cx} {isS : Bool} {len top cap : Nat} {lo hi mx : Option AV} {clo chi cmx : Option Value} {l h : Nat} {m : Option Nat}
    (hlo : ORel c lo clo) (hhi : ORel c hi chi) (hmx : ORel c mx cmx) (ht : top ≤ cap) (hb : boundsA len top lo hi mx = some (l, h, m)) :
    (Instr.sliceBounds isS len cap clo chi cmx).run P c.w = .ok (l, h, m.getD cap) c.w ∧ l ≤ h ∧ (h ≤ m.getD top ∨ (h = len ∧ m = none)) ∧ (∀ k, m = some k → k ≤ top) := by
  unfold boundsA at hb
  dsimp only at hb
  split at hb
  · simp at hb
  · rename_i m' hm
    split at hb
    · simp at hb
    · rename_i h' hh
      split at hb
      · simp at hb
      · rename_i l' hl
        simp only [Option.some.injEq, Prod.mk.injEq] at hb
        obtain ⟨rfl, rfl, rfl⟩ := hb
        -- the three in turn
        have hmax : (match cmx with | some v => Instr.sliceBound v cap (if isS then .slice3Acap else .slice3Alen) | none => pure cap).run P c.w = .ok (m'.getD cap) c.w ∧ (∀ k, m' = some k → k ≤ top) ∧ (m' = none ↔ cmx = none) := by
          cases hmx with
          | none => simp only [Option.some.injEq] at hm; subst hm; simp
          | some hv =>
            simp only at hm
            split at hm
            · rename_i i hi
              split at hm
              · rename_i hb
                simp only [Option.some.injEq] at hm; subst hm
                obtain ⟨k, rfl⟩ := idxOf_inv hv hi
                refine ⟨?_, ?_, by simp⟩
                · simp only [Option.getD_some]; exact sliceBound_run ⟨hb.1, by omega⟩
                · intro k hk; simp only [Option.some.injEq] at hk; omega
              · simp at hm
            · simp at hm
        obtain ⟨hmax, hmtop, hmnone⟩ := hmax
        have hhigh : (match chi, cmx with
            | some v, some _ => Instr.sliceBound v (m'.getD cap) .slice3B
            | some v, none => Instr.sliceBound v (m'.getD cap) (if isS then .sliceAcap else .sliceAlen)
            | none, none => pure len
            | none, some _ => stuck "Slice: max without high").run P c.w = .ok h' c.w ∧ (h' ≤ m'.getD top ∨ (h' = len ∧ m' = none)) := by
          cases hhi with
          | none =>
            simp only at hh
            split at hh
            · simp at hh
            · rename_i hms
              simp only [Option.some.injEq] at hh; subst hh
              have : m' = none := by simpa using hms
              have hc := hmnone.1 this
              subst hc
              exact ⟨by simp, .inr ⟨rfl, this⟩⟩
          | some hv =>
            simp only at hh
            split at hh
            · rename_i i hi
              split at hh
              · rename_i hb
                simp only [Option.some.injEq] at hh; subst hh
                obtain ⟨k, rfl⟩ := idxOf_inv hv hi
                have hle : (m'.getD top) ≤ (m'.getD cap) := by cases m' with | none => exact ht | some _ => exact Nat.le_refl _
                refine ⟨?_, .inl (by omega)⟩
                cases cmx with
                | none => exact sliceBound_run ⟨hb.1, by omega⟩
                | some v => exact sliceBound_run ⟨hb.1, by omega⟩
              · simp at hh
            · simp at hh
        obtain ⟨hhigh, hhl⟩ := hhigh
        have hlow : (match clo with
            | some v => Instr.sliceBound v h' (if cmx.isSome then .slice3C else .sliceB)
            | none => pure 0).run P c.w = .ok l' c.w ∧ l' ≤ h' := by
          cases hlo with
          | none => simp only [Option.some.injEq] at hl; subst hl; simp
          | some hv =>
            simp only at hl
            split at hl
            · rename_i i hi
              split at hl
              · rename_i hb
                simp only [Option.some.injEq] at hl; subst hl
                obtain ⟨k, rfl⟩ := idxOf_inv hv hi
                exact ⟨sliceBound_run ⟨hb.1, by omega⟩, by omega⟩
              · simp at hl
            · simp at hl
        refine ⟨?_, hlow.2, hhl, hmtop⟩
        obtain ⟨hlow, _⟩ := hlow
        clear hm hh hl hlo hhi hmx hmtop hhl
        have pinj : ∀ {x y : Nat}, (pure x : Sem Nat).run P c.w = .ok y c.w → x = y := fun h => by simpa using h
        cases cmx with
        | none =>
          obtain rfl := hmnone.2 rfl
          cases chi with
          | none =>
            obtain rfl := pinj hhigh
            cases clo with
            | none => obtain rfl := pinj hlow; simp [Instr.sliceBounds]
            | some v => have h3 : (Instr.sliceBound v len .sliceB).run P c.w = .ok l' c.w := hlow; simp [Instr.sliceBounds, h3]
          | some u =>
            have h2 : (Instr.sliceBound u cap (if isS then .sliceAcap else .sliceAlen)).run P c.w = .ok h' c.w := hhigh
            cases clo with
            | none => obtain rfl := pinj hlow; simp [Instr.sliceBounds, h2]
            | some v => have h3 : (Instr.sliceBound v h' .sliceB).run P c.w = .ok l' c.w := hlow; simp [Instr.sliceBounds, h2, h3]
        | some x =>
          cases m' with
          | none => exact absurd (hmnone.1 rfl) (by simp)
          | some k =>
            have h1 : (Instr.sliceBound x cap (if isS then .slice3Acap else .slice3Alen)).run P c.w = .ok k c.w := hmax
            cases chi with
            | none => simp at hhigh
            | some u =>
              have h2 : (Instr.sliceBound u k .slice3B).run P c.w = .ok h' c.w := hhigh
              cases clo with
              | none => obtain rfl := pinj hlow; simp [Instr.sliceBounds, h1, h2]
              | some v => have h3 : (Instr.sliceBound v h' .slice3C).run P c.w = .ok l' c.w := hlow; simp [Instr.sliceBounds, h1, h2, h3]

end Go.Ai
