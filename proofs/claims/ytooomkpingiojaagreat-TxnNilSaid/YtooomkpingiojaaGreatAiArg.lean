/- Arguments: from what a statement reads to abstract values; and a law's row out of a walk that comes to true. -/
import Derived.Test.YtooomkpingiojaaGreatAiDraw
import Derived.Test.YtooomkpingiojaaGreatAiSimp
import Derived.ProofKit
import Derived.ReadAgain
namespace Go.Ai
open Go.ChangeShapes Go.WideShapes Go.ChangeAt Go.RowKit
set_option linter.unusedVariables false
set_option linter.unusedSimpArgs false

def topCx (w : World) : Cx := ⟨⟨fun _ => False, []⟩, fun _ => none, hnil, w⟩
theorem topCx_own {w : World} {B : Nat} : ¬ (topCx w).own B := by rintro ⟨r, p, h, _⟩; exact h rfl
theorem topCx_ro {w : World} {B : Nat} (h : B < w.heap.size) : (topCx w).ro B := ⟨h, topCx_own, fun h => h⟩
theorem topCx_rel {w : World} (hg : GlOk (topCx w)) : HRel (topCx w) 0 :=
  ⟨fun r h => absurd rfl h, fun r p h => (by cases h), fun r es p h => (by cases h), fun r r' p p' h => absurd rfl h, fun B h => h.elim, ⟨fun r t k h => (by cases h), fun r t h => (by cases h)⟩, hg⟩

/-- How a type's cells are read. -/
structure Shape (P : Program) (t : TypeId) {α : Type} (f : α → List AV) (Pr : α → Prop) : Prop where
  size : ∀ x, (f x).length = P.cellsOf t
  read : ∀ {H : Type} (enc : TypeId × Value → H) (w : World) (sp : Nat → Bool) (fuel : Nat) (cs : List Value) (y : DataW H × List MemPlace), DataW.trod enc P w 0 sp true fuel t cs = some y → ∃ x, Pr x ∧ LRel (topCx w) (f x) cs

theorem LRel.one {c : Cx} {x : AV} {v : Value} (h : VRel c x v) : LRel c [x] [v] := by
  refine ⟨rfl, fun k av u h1 h2 => ?_⟩
  cases k with
  | zero => simp at h1 h2; subst h1; subst h2; exact h
  | succ k => simp at h1

theorem shape_bool {P : Program} {t : TypeId} (ht : P.underlying t = some .bool) (hc : P.cellsOf t = 1) : Shape P t (fun b : Bool => [.v (.bool b)]) (fun _ => True) := by
  refine ⟨fun _ => by simp [hc], fun enc w sp fuel cs y h => ?_⟩
  obtain ⟨b, rfl⟩ : ∃ b, cs = [Value.bool b] := by
    cases fuel with
    | zero => simp [DataW.trod] at h
    | succ n =>
      unfold DataW.trod at h
      rw [ht] at h
      split at h <;> (first | exact ⟨_, rfl⟩ | (exfalso; simp_all; done))
  exact ⟨b, trivial, LRel.one (.v _)⟩
theorem shape_int {P : Program} {t : TypeId} {k : IntKind} (ht : P.underlying t = some (.int k)) (hc : P.cellsOf t = 1) : Shape P t (fun n : Int => [.v (.int k n)]) (fun n => (Lit.int k n).wf = true) := by
  refine ⟨fun _ => by simp [hc], fun enc w sp fuel cs y h => ?_⟩
  cases fuel with
  | zero => simp [DataW.trod] at h
  | succ n =>
    unfold DataW.trod at h
    rw [ht] at h
    split at h <;> simp_all
    obtain ⟨⟨rfl, h1⟩, _⟩ := h
    exact ⟨_, h1, LRel.one (.v _)⟩
theorem shape_string {P : Program} {t : TypeId} (ht : P.underlying t = some .string) (hc : P.cellsOf t = 1) : Shape P t (fun l : List UInt8 => [.str l]) (fun l => l.length ≤ maxLen) := by
  refine ⟨fun _ => by simp [hc], fun enc w sp fuel cs y h => ?_⟩
  obtain ⟨s, hs, rfl⟩ : ∃ s : ByteArray, s.size ≤ maxLen ∧ cs = [Value.string s] := by
    cases fuel with
    | zero => simp [DataW.trod] at h
    | succ n =>
      unfold DataW.trod at h
      rw [ht] at h
      split at h <;> (first | (exfalso; simp_all; done) | (split at h <;> first | exact ⟨_, by assumption, rfl⟩ | cases h))
  exact ⟨s.data.toList, by simpa using hs, LRel.one (by have := VRel.str (c := topCx w) s.data.toList; simpa using this)⟩

/-- A slice that is read: is it nil, its elements, its capacity. -/
structure SlV (α : Type) where
  nil : Bool
  xs : List α
  cap : Nat
structure SlV.Ok {α : Type} (Pr : α → Prop) (s : SlV α) : Prop where
  nil : s.nil = true → s.xs = []
  len : s.xs.length ≤ s.cap
  cap : s.cap ≤ maxLen
  all : ∀ x ∈ s.xs, Pr x

theorem choose_list {α : Type} {n : Nat} {p : Nat → α → Prop} (h : ∀ i, i < n → ∃ x, p i x) : ∃ l : List α, l.length = n ∧ ∀ (i : Nat) (x : α), l[i]? = some x → p i x := by
  induction n with
  | zero => exact ⟨[], rfl, fun i x h => by simp at h⟩
  | succ n ih =>
    obtain ⟨l, h1, h2⟩ := ih fun i hi => h i (by omega)
    obtain ⟨x, hx⟩ := h n (by omega)
    refine ⟨l ++ [x], by simp [h1], fun i y hy => ?_⟩
    rcases Nat.lt_or_ge i n with hi | hi
    · rw [List.getElem?_append_left (by omega)] at hy; exact h2 i y hy
    · rw [List.getElem?_append_right (by omega)] at hy
      have : i = n := by
        rcases Nat.lt_or_ge n i with h | h
        · rw [h1, List.getElem?_eq_none (by simp; omega)] at hy; cases hy
        · omega
      subst this
      simp [h1] at hy; subst hy; exact hx

theorem addr_add {a : Addr} (h : a.spot = none) (n : Nat) : a.add n = ⟨a.block, a.off + n, none⟩ := by
  obtain ⟨b, o, s⟩ := a
  simp only at h; subst h
  simp only [Addr.add]
  split
  · rename_i h; subst h; rfl
  · rfl
theorem addr_add_block (a : Addr) (n : Nat) : (a.add n).block = a.block := by simp only [Addr.add]; split <;> rfl
theorem shape_slice {P : Program} {t e : TypeId} {α : Type} {f : α → List AV} {Pr : α → Prop} (ht : P.underlying t = some (.slice e)) (hc : P.cellsOf t = 1) (he : 0 < P.cellsOf e) (S : Shape P e f Pr) :
    Shape P t (fun s : SlV α => [.rs s.nil (P.cellsOf e) (s.xs.map f) (some s.cap)]) (SlV.Ok Pr) := by
  refine ⟨fun _ => by simp [hc], fun enc w sp fuel cs y h => ?_⟩
  rcases DataW.trod_slice ht h with ⟨rfl, rfl⟩ | ⟨a, len, cap, elems, rest, n, rfl, rfl, rfl, _, hl, hm, hlen, hel, _, _⟩
  · exact ⟨⟨true, [], 0⟩, ⟨fun _ => rfl, by simp, by simp, by simp⟩, LRel.one (.nil (by simp))⟩
  · have key : ∀ i, i < len → ∃ x, Pr x ∧ ∃ cs', LRel (topCx w) (f x) cs' ∧ ∀ j, j < P.cellsOf e → w.cell? ((a.add (i * P.cellsOf e)).add j) = cs'[j]? := by
      intro i hi
      have hi2 : i < elems.length := by omega
      have := hel i hi
      rw [List.getElem?_eq_getElem hi2] at this
      obtain ⟨cs', h1, h2⟩ := Option.bind_eq_some_iff.1 this
      obtain ⟨x, hx, hr⟩ := S.read enc w sp n cs' _ h2
      obtain ⟨_, _, h3⟩ := World.cells?_some h1
      exact ⟨x, hx, cs', hr, h3⟩
    obtain ⟨xs, hxl, hxs⟩ := choose_list key
    refine ⟨⟨false, xs, cap⟩, ⟨by simp, by simp; omega, hm, fun x hx => ?_⟩, LRel.one ?_⟩
    · obtain ⟨i, hi, rfl⟩ := List.getElem_of_mem hx
      exact (hxs i _ (List.getElem?_eq_getElem hi)).1
    · have hsz : ∀ (i : Nat) (l : List AV), (xs.map f)[i]? = some l → l.length = P.cellsOf e := by
        intro i l hl
        simp only [List.getElem?_map, Option.map_eq_some_iff] at hl
        obtain ⟨x, _, rfl⟩ := hl
        exact S.size x
      have hcell : ∀ (i j : Nat) (l : List AV) (av : AV), (xs.map f)[i]? = some l → l[j]? = some av → ∃ u, w.cell? ((a.add (i * P.cellsOf e)).add j) = some u ∧ VRel (topCx w) av u := by
        intro i j l av h1 h2
        simp only [List.getElem?_map, Option.map_eq_some_iff] at h1
        obtain ⟨x, hx, rfl⟩ := h1
        obtain ⟨_, cs', hr, hc'⟩ := hxs i x hx
        obtain ⟨u, hu, hv⟩ := hr.get h2
        have hj : j < P.cellsOf e := by
          have := (List.getElem?_eq_some_iff.1 h2).1
          rw [S.size] at this; exact this
        exact ⟨u, by rw [hc' j hj]; exact hu, hv⟩
      have hspot : xs.map f ≠ [] → a.block < w.heap.size ∧ a.spot = none := by
        intro hne
        obtain ⟨l, hl⟩ : ∃ l, (xs.map f)[0]? = some l := ⟨(xs.map f)[0]'(List.length_pos_iff.2 hne), List.getElem?_eq_getElem _⟩
        have hll := hsz 0 l hl
        obtain ⟨av, hav⟩ : ∃ av, l[0]? = some av := ⟨l[0]'(by omega), List.getElem?_eq_getElem _⟩
        obtain ⟨u, hu, _⟩ := hcell 0 0 l av hl hav
        have e0 : (a.add (0 * P.cellsOf e)).add 0 = a := by simp [Addr.add]
        rw [e0] at hu
        simp only [World.cell?] at hu
        split at hu
        · rename_i c _ _ hb
          refine ⟨(Array.getElem?_eq_some_iff.1 hb).1, ?_⟩
          cases hs : a.spot with
          | none => rfl
          | some s => simp [hs] at hu
        · cases hu
      refine .rs (fun i j => (w.cell? ⟨a.block, a.off + i * P.cellsOf e + j, none⟩).getD undef) (by simp [hxl]) hl (by simp) hsz (fun h => ⟨topCx_ro (hspot h).1, (hspot h).2⟩) ?_ ?_
      · intro i j l av h1 h2
        obtain ⟨u, hu, _⟩ := hcell i j l av h1 h2
        have hs := (hspot (ne_nil_of_get h1)).2
        have : (a.add (i * P.cellsOf e)).add j = ⟨a.block, a.off + i * P.cellsOf e + j, none⟩ := by rw [addr_add hs, addr_add rfl]
        rw [this] at hu
        show w.cell? _ = _
        rw [hu]; rfl
      · intro i j l av h1 h2
        obtain ⟨u, hu, hv⟩ := hcell i j l av h1 h2
        have hs := (hspot (ne_nil_of_get h1)).2
        have : (a.add (i * P.cellsOf e)).add j = ⟨a.block, a.off + i * P.cellsOf e + j, none⟩ := by rw [addr_add hs, addr_add rfl]
        rw [this] at hu
        rw [hu]; exact hv

theorem Shape.map {P : Program} {t : TypeId} {α β : Type} {f : α → List AV} {Pr : α → Prop} (S : Shape P t f Pr) {g : β → List AV} {Pg : β → Prop} (hs : ∀ y, (g y).length = P.cellsOf t)
    (h : ∀ x, Pr x → ∃ y, Pg y ∧ g y = f x) : Shape P t g Pg :=
  ⟨hs, fun enc w sp fuel cs y hr => by
    obtain ⟨x, hx, hl⟩ := S.read enc w sp fuel cs y hr
    obtain ⟨z, hz, e⟩ := h x hx
    exact ⟨z, hz, by rw [e]; exact hl⟩⟩

/-- The fields of a struct, from a place on. -/
structure ShapeF (P : Program) (fs : List Field) (off n : Nat) {α : Type} (f : α → List AV) (Pr : α → Prop) : Prop where
  size : ∀ x, (f x).length = n
  read : ∀ {H : Type} (enc : TypeId × Value → H) (w : World) (sp : Nat → Bool) (fuel : Nat) (cs : List Value) (xs : List (DataW H × List MemPlace)), off + n ≤ cs.length →
    (∀ (i : Nat) (fd : Field), fs[i]? = some fd → (DataW.trod enc P w 0 sp true fuel fd.type ((cs.drop fd.offset).take (P.cellsOf fd.type))).isSome) → ∃ x, Pr x ∧ LRel (topCx w) (f x) ((cs.drop off).take n)

theorem shapeF_nil {P : Program} {off : Nat} : ShapeF P [] off 0 (fun _ : Unit => []) (fun _ => True) :=
  ⟨fun _ => rfl, fun enc w sp fuel cs xs hl h => ⟨(), trivial, ⟨by simp, fun k av u h => by simp at h⟩⟩⟩
theorem shapeF_cons {P : Program} {fd : Field} {fs : List Field} {off m n : Nat} {α β : Type} {g : α → List AV} {Pg : α → Prop} {f : β → List AV} {Pr : β → Prop} (ho : fd.offset = off) (hm : P.cellsOf fd.type = m)
    (S : Shape P fd.type g Pg) (T : ShapeF P fs (off + m) n f Pr) : ShapeF P (fd :: fs) off (m + n) (fun x : α × β => g x.1 ++ f x.2) (fun x => Pg x.1 ∧ Pr x.2) := by
  refine ⟨fun x => by rw [List.length_append, S.size, T.size, hm], fun enc w sp fuel cs xs hl h => ?_⟩
  obtain ⟨y, hy⟩ := Option.isSome_iff_exists.1 (h 0 fd rfl)
  obtain ⟨x, hx, hr⟩ := S.read enc w sp fuel _ y hy
  obtain ⟨z, hz, hr2⟩ := T.read enc w sp fuel cs [] (by omega) (fun i fd' hi => h (i + 1) fd' hi)
  refine ⟨(x, z), ⟨hx, hz⟩, ?_⟩
  rw [ho, hm] at hr
  have : (cs.drop off).take (m + n) = (cs.drop off).take m ++ (cs.drop (off + m)).take n := by
    rw [List.take_add, List.drop_drop]
  rw [this]
  exact hr.append hr2
theorem shape_struct {P : Program} {t : TypeId} {fs : Array Field} {n : Nat} {α : Type} {f : α → List AV} {Pr : α → Prop} (ht : P.underlying t = some (.struct fs)) (hc : P.cellsOf t = n) (S : ShapeF P fs.toList 0 n f Pr) : Shape P t f Pr := by
  refine ⟨fun x => by rw [S.size, hc], fun enc w sp fuel cs y h => ?_⟩
  obtain ⟨xs, m, _, rfl, hl, hlen, hf⟩ := DataW.trod_struct ht h
  obtain ⟨x, hx, hr⟩ := S.read enc w sp m cs [] (by omega) (fun i fd hi => by
    have := hf i fd (by simpa using hi)
    rw [this]
    have hi2 : i < xs.length := by
      rw [hlen]
      have := (List.getElem?_eq_some_iff.1 hi).1
      simpa using this
    simp [hi2])
  refine ⟨x, hx, ?_⟩
  rw [← hc, ← hl] at hr
  simpa using hr

/-- A value of one cell, or a struct's. -/
theorem LRel.cells1 {c : Cx} {x : AV} {v : Value} (h : LRel c [x] v.cells.toList) (hn : ∀ cs, v ≠ .agg cs) : VRel c x v := by
  have : v.cells = #[v] := by cases v <;> first | rfl | exact absurd rfl (hn _)
  rw [this] at h
  exact h.2 0 x v rfl rfl
theorem LRel.cellsAgg {c : Cx} {x : List AV} {cs : Array Value} (h : LRel c x (Value.agg cs).cells.toList) : VRel c (.agg x) (.agg cs) :=
  .agg (by simpa [Value.cells] using h.1) fun k av u h1 h2 => h.2 k av u h1 (by rw [Value.cells]; simpa using h2)

/-- An argument. -/
structure ArgOk (P : Program) (t : TypeId) {α : Type} (g : α → AV) (Pr : α → Prop) : Prop where
  read : ∀ {H : Type} (enc : TypeId × Value → H) (w : World) (sp : Nat → Bool) (base : Nat) (v : Value) (d : DataW H) (p : List MemPlace), Value.okWide P w .any base t v → DataW.Trod enc P w 0 sp true t v d p → ∃ x, Pr x ∧ VRel (topCx w) (g x) v

theorem arg_one {P : Program} {t : TypeId} {α : Type} {g : α → AV} {Pr : α → Prop} (S : Shape P t (fun x => [g x]) Pr) (hv1 : ∀ W base v, Value.okWide P W .any base t v → v.cells = #[v]) : ArgOk P t g Pr := by
  refine ⟨fun enc w sp base v d p hv h => ?_⟩
  obtain ⟨fuel, h⟩ := h
  obtain ⟨x, hx, hr⟩ := S.read enc w sp fuel _ _ h
  rw [hv1 w base v hv] at hr
  exact ⟨x, hx, hr.2 0 _ _ rfl rfl⟩
theorem arg_int {P : Program} {t : TypeId} {k : IntKind} (ht : P.underlying t = some (.int k)) (hc : P.cellsOf t = 1) : ArgOk P t (fun n : Int => .v (.int k n)) (fun n => (Lit.int k n).wf = true) :=
  arg_one (shape_int ht hc) fun W base v h => by obtain ⟨n, rfl⟩ := okWide_int ht h; rfl
theorem arg_bool {P : Program} {t : TypeId} (ht : P.underlying t = some .bool) (hc : P.cellsOf t = 1) : ArgOk P t (fun n : Bool => .v (.bool n)) (fun _ => True) :=
  arg_one (shape_bool ht hc) fun W base v h => by obtain ⟨n, rfl⟩ := okWide_bool ht h; rfl
theorem arg_string {P : Program} {t : TypeId} (ht : P.underlying t = some .string) (hc : P.cellsOf t = 1) : ArgOk P t (fun l : List UInt8 => .str l) (fun l => l.length ≤ maxLen) :=
  arg_one (shape_string ht hc) fun W base v h => by obtain ⟨n, rfl⟩ := okWide_string ht h; rfl
theorem arg_slice {P : Program} {t e : TypeId} {α : Type} {f : α → List AV} {Pr : α → Prop} (ht : P.underlying t = some (.slice e)) (hc : P.cellsOf t = 1) (he : 0 < P.cellsOf e) (S : Shape P e f Pr) : ArgOk P t (fun s : SlV α => .rs s.nil (P.cellsOf e) (s.xs.map f) (some s.cap)) (SlV.Ok Pr) :=
  arg_one (shape_slice ht hc he S) fun W base v h => by obtain ⟨a, b, c, rfl⟩ := okWide_slice ht h; rfl
theorem arg_struct {P : Program} {t : TypeId} {fs : Array Field} {α : Type} {f : α → List AV} {Pr : α → Prop} (ht : P.underlying t = some (.struct fs)) (S : Shape P t f Pr) : ArgOk P t (fun x => .agg (f x)) Pr := by
  refine ⟨fun enc w sp base v d p hv h => ?_⟩
  obtain ⟨fuel, h⟩ := h
  obtain ⟨x, hx, hr⟩ := S.read enc w sp fuel _ _ h
  obtain ⟨cs, rfl, hsz⟩ := okWide_struct ht hv
  exact ⟨x, hx, hr.cellsAgg⟩

/-- All arguments. -/
structure ArgsOk (P : Program) (ts : List TypeId) {α : Type} (g : α → List AV) (Pr : α → Prop) : Prop where
  read : ∀ {H : Type} (enc : TypeId × Value → H) (w : World) (sp : Nat → Bool) (base : Nat) (vs : List Value) (ds : List (DataW H)) (p : List MemPlace), (∀ (j : Nat) t v, ts[j]? = some t → vs[j]? = some v → Value.okWide P w .any base t v) →
    DataW.TrodAll enc P w 0 sp true ts vs ds p → ∃ x, Pr x ∧ LRel (topCx w) (g x) vs
theorem args_nil {P : Program} : ArgsOk P [] (fun _ : Unit => []) (fun _ => True) :=
  ⟨fun enc w sp base vs ds p hv h => by
    obtain ⟨rfl, rfl, rfl⟩ := trodAll_nil h
    exact ⟨(), trivial, rfl, fun k av u h => by simp at h⟩⟩
theorem args_cons {P : Program} {t : TypeId} {ts : List TypeId} {α β : Type} {g : α → AV} {Pg : α → Prop} {f : β → List AV} {Pf : β → Prop} (A : ArgOk P t g Pg) (B : ArgsOk P ts f Pf) :
    ArgsOk P (t :: ts) (fun x : α × β => g x.1 :: f x.2) (fun x => Pg x.1 ∧ Pf x.2) :=
  ⟨fun enc w sp base vs ds p hv h => by
    obtain ⟨v, vs1, d, ds1, a, b, rfl, rfl, rfl, h1, h2⟩ := trodAll_cons h
    obtain ⟨x, hx, hr⟩ := A.read enc w sp base v d a (hv 0 t v rfl rfl) h1
    obtain ⟨y, hy, hr2⟩ := B.read enc w sp base vs1 ds1 b (fun j t v h1 h2 => hv (j + 1) t v h1 h2) h2
    exact ⟨(x, y), ⟨hx, hy⟩, (LRel.one hr).append hr2⟩⟩

/-- What lay in memory is as it was. -/
structure Kept (W W' : World) : Prop where
  size : W.heap.size ≤ W'.heap.size
  heap : ∀ B, B < W.heap.size → W'.heap[B]? = W.heap[B]?
  os : W'.os = W.os
  output : W'.output = W.output

theorem law_runG {P : Program} {E : Env} (hE : EnvOk P E) (hm : P.follows .mixedOrders = true) {f : Nat} {args : List AV} (hb : hasBody P f = true) (h : Ret E f args hnil 0 (.v (.bool true)) hnil 0 .p) {W : World} (hg : GlOk (topCx W)) {cargs : Array Value} (ha : LRel (topCx W) args cargs.toList) :
    Calls P f cargs W fun e W' => e = .returned (.bool true) ∧ Kept W W' := by
  have hX := Ret_sound hE (fun R hR => drawSound hm hR) h (topCx W) cargs rfl (topCx_rel hg) ha
  have hC : Calls P f cargs (topCx W).w (CallPost (topCx W) .p (.v (.bool true)) hnil 0 0) := by
    rcases hX with ⟨_, h⟩ | ⟨u, w', hr, _⟩
    · exact h
    · rw [callFunc_run hb] at hr; cases hr
  refine Calls.mono hC ?_
  rintro e W' ⟨u, ι', rfl, _, hx, _, hv⟩
  have := hv.v_inv
  subst this
  exact ⟨rfl, hx.size, fun B hB => (hx.keep B hB topCx_own).2, hx.os, hx.output⟩

theorem Kept.keptBut {W W' : World} (h : Kept W W') (may : MemPlace → Prop) : W.keptBut W' may := by
  refine ⟨h.os, h.output, fun i hi => ?_⟩
  rw [h.heap i hi]
  have : ∃ o, W.heap[i]? = some o := ⟨W.heap[i], Array.getElem?_eq_getElem hi⟩
  obtain ⟨o, ho⟩ := this
  rw [ho]
  cases o with
  | cells c t fr => exact ⟨rfl, rfl, rfl, fun _ _ => rfl⟩
  | map es clock => exact .inr ⟨rfl, rfl⟩
  | _ => rfl
theorem Kept.sameAt {W W' : World} (h : Kept W W') {p : MemPlace} (hp : p.block < W.heap.size) : W.sameAt W' p := by
  cases p with
  | cell b off => exact cell?_of_heap (h.heap b hp)
  | map b => exact h.heap b hp
theorem Kept.frozen {W W' : World} (h : Kept W W') {b off : Nat} (hb : b < W.heap.size) : W'.frozen? ⟨b, off, none⟩ = W.frozen? ⟨b, off, none⟩ := by
  simp only [World.frozen?, h.heap b hb]

theorem trodAll_later {H : Type} {enc : TypeId × Value → H} {P : Program} {W W' : World} {sp : Nat → Bool} (h : Kept W W') : ∀ {ts : List TypeId} {vs : List Value} {ds : List (DataW H)} {p : List MemPlace}, (∀ q ∈ p, q.block < W.heap.size) → DataW.TrodAll enc P W 0 sp true ts vs ds p → DataW.TrodAll enc P W' 0 sp true ts vs ds p
  | [], _, _, _, _, ht => by
    obtain ⟨rfl, rfl, rfl⟩ := trodAll_nil ht
    rfl
  | _ :: _, _, _, _, hp, ht => by
    obtain ⟨v, vs1, d, ds1, a, b, rfl, rfl, rfl, h1, h2⟩ := trodAll_cons ht
    obtain ⟨fuel, h1⟩ := h1
    exact ⟨a, b, ⟨fuel, DataW.trod_carry fuel _ _ _ h1 fun q hq => h.sameAt (hp q (by simp [show q ∈ a from hq]))⟩, trodAll_later h (fun q hq => hp q (by simp [hq])) h2, rfl⟩

/-- A law's row: true comes back, the arguments read as they did. -/
theorem law_post {H : Type} {enc : TypeId × Value → H} {P : Program} {f : Func} {s : ChangeSpec} {W W' : World} {args : Array Value} {ds gs : List (DataW H)} {before : List MemPlace} {tb : TypeId} (K : Kids P (· < P.types.size)) (hz : ∀ t e, t < P.types.size → P.underlying t = some (.slice e) → 0 < P.cellsOf e)
    (hp : ∀ t ∈ f.params.toList, t < P.types.size) (hvs : s.vars = []) (hrt : f.resultTypes = #[tb]) (htb : P.underlying tb = some .bool)
    (hfn : ∀ ds : List (DataW H), ds.length = f.params.toList.length → s.fn H ds = { results := [.lit (.bool true)], args := ds })
    (hW : DataW.Whole enc P f.params.toList s.vars false W args.toList ds gs before) (hk : Kept W W') : s.post enc P f false true false false W args (.bool true) W' := by
  have hlt := hW.lt
  have hold : ∀ p ∈ before, (fun b => decide (b < W.heap.size)) p.block = true := fun p hp => by simpa using hlt p hp
  have hW0 := hW
  obtain ⟨p, q, hA, hV, rfl, hz', hn⟩ := hW
  rw [hvs] at hV
  obtain ⟨rfl, rfl⟩ := trodVars_none hV
  have hlen : ds.length = f.params.toList.length := by
    have : ∀ {ts : List TypeId} {vs : List Value} {ds : List (DataW H)} {p : List MemPlace}, DataW.TrodAll enc P W 0 (fun _ => true) true ts vs ds p → ds.length = ts.length := by
      intro ts
      induction ts with
      | nil => intro vs ds p h; obtain ⟨rfl, rfl, rfl⟩ := trodAll_nil h; rfl
      | cons t ts ih => intro vs ds p h; obtain ⟨_, _, _, _, _, _, rfl, rfl, rfl, _, h2⟩ := trodAll_cons h; simp [ih h2]
    exact this hA
  have hf := hfn ds hlen
  simp only [List.append_nil] at *
  have hargs : ∀ sp : Nat → Bool, (∀ q ∈ p, sp q.block = true) → DataW.TrodAll enc P W' 0 sp true f.params.toList args.toList (s.fn H ds).args p := by
    intro sp hsp
    rw [hf]
    exact DataW.TrodAll.respare K hz hp (trodAll_later hk hlt hA) hsp
  have hres : ∀ (b : Nat) (sp : Nat → Bool) (hd : Bool), DataW.TrodAll enc P W' b sp hd f.resultTypes.toList ((Value.bool true).resultList f.resultTypes.size) (s.fn H ds).results [] := by
    intro b sp hd
    rw [hf, hrt]
    exact trodAll_cons_mk (shut_bool htb _) trodAll_mk0
  refine ⟨ds, [], p, [], p, [], hW0, by simpa using hres _ _ _, by simpa using hargs _ hold, ?_, ?_, fun h => by cases h⟩
  · rw [hvs]
    have : (s.fn H (ds ++ [])).vars = [] := by simp [hf]
    rw [this]; rfl
  · exact hk.keptBut _

end Go.Ai
