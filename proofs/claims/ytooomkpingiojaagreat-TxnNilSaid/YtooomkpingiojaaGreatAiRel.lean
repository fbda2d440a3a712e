/- How abstract values, and an abstract memory, stand to the model's. -/
import Derived.Test.YtooomkpingiojaaGreatAiGlob
namespace Go.Ai
set_option linter.unusedVariables false

/-- O ≤ N: cells; O = N + 1: a map; O = N + 2: a walk over the entries of the map in block N, whose stamps are 'aux', and whose clock is 'sz'; O = N + 3: a map that is kept aside, with its entries' stamps and its clock. -/
structure Place where
  B : Nat
  O : Nat
  sz : Nat
  N : Nat
  aux : List Nat

abbrev Inj := Nat → Option Place

def ownB (ι : Inj) (hp : Heap) (B : Nat) : Prop := ∃ r p, hp r ≠ none ∧ ι r = some p ∧ p.B = B

/-- Blocks that callers own; calls that are deferred. -/
structure Frm where
  F : Nat → Prop
  G : List Deferred
instance : CoeFun Frm (fun _ => Nat → Prop) := ⟨Frm.F⟩

/-- 'F': blocks that callers own. -/
structure Cx where
  F : Frm
  ι : Inj
  hp : Heap
  w : World

def Cx.own (c : Cx) (B : Nat) : Prop := ownB c.ι c.hp B
def Cx.ro (c : Cx) (B : Nat) : Prop := B < c.w.heap.size ∧ ¬ c.own B ∧ ¬ c.F B

inductive VRel (c : Cx) : AV → Value → Prop
  | v (x : Value) : VRel c (.v x) x
  | str (l : List UInt8) : VRel c (.str l) (.string ⟨l.toArray⟩)
  | ptr {r i off : Nat} {p : Place} (h : c.ι r = some p) (hm : p.O ≤ p.N) : VRel c (.ptr r i off) (.pointer (some ⟨p.B, p.O + i * p.sz + off, none⟩))
  | rp {cells : List AV} {B O : Nat} (g : Nat → Value) (hro : cells ≠ [] → c.ro B)
      (hc : ∀ (k : Nat) (av : AV), cells[k]? = some av → c.w.cell? ⟨B, O + k, none⟩ = some (g k)) (hv : ∀ (k : Nat) (av : AV), cells[k]? = some av → VRel c av (g k)) :
      VRel c (.rp cells) (.pointer (some ⟨B, O, none⟩))
  | sl {r sz i len n : Nat} {cap : Option Nat} {p : Place} {a : Addr} (hι : c.ι r = some p) (hs : p.sz = sz) (ha : n ≠ 0 → a = ⟨p.B, p.O + i * sz, none⟩)
      (hl : len ≤ n) (hcap : ∀ m, cap = some m → m = n) (hN : n ≠ 0 → p.O + (i + n) * sz ≤ p.N) (hE : cap = none → p.O + (i + n) * sz = p.N) (hm : p.O ≤ p.N) : VRel c (.sl r sz i len cap) (.slice (some a) len n)
  | mp {r : Nat} {p : Place} (h : c.ι r = some p) (hm : p.O = p.N + 1) : VRel c (.mp r) (.map (some p.B))
  | it {q r : Nat} {p p' pr : Place} (h : c.ι q = some p) (h' : c.ι (q + 1) = some p') (hr : c.ι r = some pr) (hm : p.O = p.N + 2) (hm' : p'.O = p'.N + 3) (hmr : pr.O = pr.N + 1) (e1 : p'.B = pr.B) (e2 : p.N = pr.B) (e3 : p'.aux = p.aux) (e4 : p'.sz = p.sz) :
      VRel c (.tk 0 q r) (.pointer (some ⟨p.B, 0, none⟩))
  | stm {i q r s : Nat} {p pr : Place} (h : c.ι q = some p) (hr : c.ι r = some pr) (hm : p.O = p.N + 3) (hmr : pr.O = pr.N + 1) (e1 : p.B = pr.B) (hs : p.aux[i]? = some s) : VRel c (.tk (i + 1) q r) (.int .i64 s)
  | nil {sz : Nat} {cap : Option Nat} (hcap : ∀ m, cap = some m → m = 0) : VRel c (.rs true sz [] cap) (.slice none 0 0)
  | rs {sz n len : Nat} {es : List (List AV)} {cap : Option Nat} {a : Addr} (g : Nat → Nat → Value) (hlen : es.length = len) (hl : len ≤ n) (hcap : ∀ m, cap = some m → m = n)
      (hsz : ∀ (i : Nat) (l : List AV), es[i]? = some l → l.length = sz) (hro : es ≠ [] → c.ro a.block ∧ a.spot = none)
      (hc : ∀ (i j : Nat) (l : List AV) (av : AV), es[i]? = some l → l[j]? = some av → c.w.cell? ⟨a.block, a.off + i * sz + j, none⟩ = some (g i j))
      (hv : ∀ (i j : Nat) (l : List AV) (av : AV), es[i]? = some l → l[j]? = some av → VRel c av (g i j)) : VRel c (.rs false sz es cap) (.slice (some a) len n)
  | agg {cells : List AV} {cs : Array Value} (hl : cells.length = cs.size) (hv : ∀ (k : Nat) (av : AV) (u : Value), cells[k]? = some av → cs[k]? = some u → VRel c av u) : VRel c (.agg cells) (.agg cs)
  | tup {cells : List AV} {cs : Array Value} (hl : cells.length = cs.size) (hv : ∀ (k : Nat) (av : AV) (u : Value), cells[k]? = some av → cs[k]? = some u → VRel c av u) : VRel c (.tup cells) (.tuple cs)
  | fn {f : Fn} {x y : List AV} {cx cy : Array Value} (h1 : x.length = cx.size) (h2 : y.length = cy.size)
      (hx : ∀ (k : Nat) (av : AV) (u : Value), x[k]? = some av → cx[k]? = some u → VRel c av u) (hy : ∀ (k : Nat) (av : AV) (u : Value), y[k]? = some av → cy[k]? = some u → VRel c av u) : VRel c (.fn f x y) (.func f cx cy)
  | ifc {t : TypeId} {x : AV} {u : Value} (h : VRel c x u) : VRel c (.ifc t x) (.iface t u)

/-- What may come of a context: more blocks; what was not owned stays, and stays so. -/
structure Ext (c c' : Cx) : Prop where
  F : c'.F = c.F
  ι : ∀ r p, c.ι r = some p → c'.ι r = some p
  size : c.w.heap.size ≤ c'.w.heap.size
  keep : ∀ B, B < c.w.heap.size → ¬ c.own B → ¬ c'.own B ∧ c'.w.heap[B]? = c.w.heap[B]?
  os : c'.w.os = c.w.os
  tape : c'.w.tape = c.w.tape
  output : c'.w.output = c.w.output

theorem Ext.refl (c : Cx) : Ext c c := ⟨rfl, fun _ _ h => h, Nat.le_refl _, fun _ _ h => ⟨h, rfl⟩, rfl, rfl, rfl⟩
theorem Ext.trans {a b c : Cx} (h : Ext a b) (k : Ext b c) : Ext a c :=
  ⟨k.F.trans h.F, fun r p e => k.ι r p (h.ι r p e), Nat.le_trans h.size k.size, fun B hB ho => by
    obtain ⟨h1, h2⟩ := h.keep B hB ho
    obtain ⟨h3, h4⟩ := k.keep B (Nat.lt_of_lt_of_le hB h.size) h1
    exact ⟨h3, h4.trans h2⟩, k.os.trans h.os, k.tape.trans h.tape, k.output.trans h.output⟩

theorem Ext.ro {c c' : Cx} (h : Ext c c') {B : Nat} (hB : c.ro B) : c'.ro B :=
  ⟨Nat.lt_of_lt_of_le hB.1 h.size, (h.keep B hB.1 hB.2.1).1, by rw [h.F]; exact hB.2.2⟩
theorem cell?_of_heap {w w' : World} {a : Addr} (h : w'.heap[a.block]? = w.heap[a.block]?) : w'.cell? a = w.cell? a := by simp only [World.cell?, h]
theorem Ext.cell {c c' : Cx} (h : Ext c c') {a : Addr} (hB : c.ro a.block) : c'.w.cell? a = c.w.cell? a := cell?_of_heap (h.keep _ hB.1 hB.2.1).2

theorem ne_nil_of_get {α : Type} {l : List α} {k : Nat} {x : α} (h : l[k]? = some x) : l ≠ [] := by
  intro e; subst e; simp at h

theorem VRel.mono {c c' : Cx} (e : Ext c c') {x : AV} {u : Value} (h : VRel c x u) : VRel c' x u := by
  induction h with
  | v x => exact .v x
  | str l => exact .str l
  | ptr h hm => exact .ptr (e.ι _ _ h) hm
  | mp h hm => exact .mp (e.ι _ _ h) hm
  | it h h' hr hm hm' hmr e1 e2 e3 e4 => exact .it (e.ι _ _ h) (e.ι _ _ h') (e.ι _ _ hr) hm hm' hmr e1 e2 e3 e4
  | stm h hr hm hmr e1 hs => exact .stm (e.ι _ _ h) (e.ι _ _ hr) hm hmr e1 hs
  | rp g hro hc hv ih => exact .rp g (fun h => e.ro (hro h)) (fun k av h => by rw [e.cell (hro (ne_nil_of_get h))]; exact hc k av h) ih
  | sl hι hs ha hl hcap hN hE hm => exact .sl (e.ι _ _ hι) hs ha hl hcap hN hE hm
  | nil h => exact .nil h
  | rs g hlen hl hcap hsz hro hc hv ih =>
    exact .rs g hlen hl hcap hsz (fun h => ⟨e.ro (hro h).1, (hro h).2⟩) (fun i j l av h1 h2 => (e.cell (a := ⟨_, _, none⟩) (hro (ne_nil_of_get h1)).1).trans (hc i j l av h1 h2)) ih
  | agg hl hv ih => exact .agg hl ih
  | tup hl hv ih => exact .tup hl ih
  | fn h1 h2 hx hy ihx ihy => exact .fn h1 h2 ihx ihy
  | ifc h ih => exact .ifc ih

/-- A block's type, as it is told at the number behind the block's. -/
def TyOk1 (c : Cx) : Prop := ∀ r t k, c.hp (r + 1) = some [[.ty t k]] → ∃ p cs fz, c.ι r = some p ∧ p.O = 0 ∧ c.w.heap[p.B]? = some (.cells cs t fz) ∧ k ≤ cs.size
/-- Plain memory, as it is told at the number behind the block's: no mark of a text's bytes lies on it. -/
def UmOk (c : Cx) : Prop := ∀ r t, c.hp (r + 1) = some [[.ty t 0], []] → ∃ p cs fz, c.ι r = some p ∧ c.w.heap[p.B]? = some (.cells cs t fz) ∧ (c.hp r ≠ none → fz = (0, 0))
def TyOk (c : Cx) : Prop := TyOk1 c ∧ UmOk c
theorem TyOk1.to {c c' : Cx} (h : TyOk1 c) (hhp : ∀ r t k rest, c'.hp r = some ([.ty t k] :: rest) → c.hp r = some ([.ty t k] :: rest)) (hι : ∀ r p, c.ι r = some p → c'.ι r = some p)
    (hw : ∀ (B : Nat) (cs : Array Value) (t : TypeId) (fz : Nat × Nat), c.w.heap[B]? = some (.cells cs t fz) → ∃ cs' fz', c'.w.heap[B]? = some (.cells cs' t fz') ∧ cs'.size = cs.size) : TyOk1 c' := by
  intro r t k hr
  obtain ⟨p, cs, fz, h1, h2, h3, h4⟩ := h r t k (hhp (r + 1) t k _ hr)
  obtain ⟨cs', fz', h5, h6⟩ := hw _ _ _ _ h3
  exact ⟨p, cs', fz', hι _ _ h1, h2, h5, by omega⟩
theorem TyOk.to {c c' : Cx} (h : TyOk c) (hhp : ∀ r t k rest, c'.hp r = some ([.ty t k] :: rest) → c.hp r = some ([.ty t k] :: rest)) (hι : ∀ r p, c.ι r = some p → c'.ι r = some p)
    (hw : ∀ (B : Nat) (cs : Array Value) (t : TypeId) (fz : Nat × Nat), c.w.heap[B]? = some (.cells cs t fz) → ∃ cs', c'.w.heap[B]? = some (.cells cs' t fz) ∧ cs'.size = cs.size)
    (hlive : ∀ r, c.hp (r + 1) ≠ none → c.ι r ≠ none → c'.hp r ≠ none → c.hp r ≠ none) : TyOk c' := by
  refine ⟨h.1.to hhp hι fun B cs t fz hB => let ⟨cs', h1, h2⟩ := hw B cs t fz hB; ⟨cs', fz, h1, h2⟩, fun r t hr => ?_⟩
  have hr' := hhp (r + 1) t 0 _ hr
  obtain ⟨p, cs, fz, h1, h3, h4⟩ := h.2 r t hr'
  obtain ⟨cs', h5, _⟩ := hw _ _ _ _ h3
  exact ⟨p, cs', fz, hι _ _ h1, h5, fun hn => h4 (hlive r (by rw [hr']; simp) (by rw [h1]; simp) hn)⟩
theorem VRel.not_ty {c : Cx} {t k} {u : Value} (h : VRel c (.ty t k) u) : False := by cases h

/-- A map's entries, in the order in which they came. -/
def MRows (c : Cx) (es : Blk) (ents : Array MapEntry) : Prop := es.length = ents.size ∧ ∀ (i : Nat) (l : List AV) (e : MapEntry), es[i]? = some l → ents[i]? = some e → ∃ k v, l = [k, v] ∧ VRel c k e.key ∧ VRel c v e.val
/-- The entries' stamps. -/
def Stamps (ents : Array MapEntry) (clock : Nat) : Prop := (∀ (i : Nat) (e : MapEntry), ents[i]? = some e → e.born < clock) ∧ ∀ (i j : Nat) (e e' : MapEntry), ents[i]? = some e → ents[j]? = some e' → e.born = e'.born → i = j
/-- Rows of cells in a block. -/
def CRows (c : Cx) (es : Blk) (p : Place) (cs : Array Value) : Prop := ∀ (i : Nat) (l : List AV), es[i]? = some l → l.length = p.sz ∧ ∀ j av, l[j]? = some av → ∃ u, cs[p.O + i * p.sz + j]? = some u ∧ VRel c av u
/-- A walk over a map's entries: which one was the last (one more than its place; 0: none yet), and for each entry whether it is still to come. -/
def ItOk (es : Blk) (p : Place) (seen : Array Nat) : Prop := ∃ (n : Nat) (fl : Blk), es = [.v (.int .i64 n)] :: fl ∧ fl.length = p.aux.length ∧
  (∀ (i : Nat) (l : List AV) (s : Nat), fl[i]? = some l → p.aux[i]? = some s → ∃ b, l = [.v (.bool b)] ∧ seen.contains s = !b) ∧ ∀ j, n = j + 1 → ∃ s, p.aux[j]? = some s ∧ seen.back? = some s
/-- What lies in a block: cells; a map; a walk over a map's entries; a map that is kept aside. -/
def BlkOk (c : Cx) (es : Blk) (p : Place) (o : Obj) : Prop :=
  (p.O ≤ p.N ∧ ∃ cs e fz, o = .cells cs e fz ∧ cs.size = p.N ∧ (∀ q, q < p.N → ¬ (fz.1 ≤ q ∧ q < fz.2)) ∧ CRows c es p cs) ∨
  (p.O = p.N + 1 ∧ ∃ ents clock, o = .map ents clock ∧ MRows c es ents ∧ Stamps ents clock) ∨
  (p.O = p.N + 2 ∧ ∃ seen, o = .mapIter (some p.N) p.sz seen p.sz ∧ ItOk es p seen) ∨
  (p.O = p.N + 3 ∧ ∃ ents, o = .map ents p.sz ∧ MRows c es ents ∧ Stamps ents p.sz ∧ ents.toList.map (·.born) = p.aux)
theorem MRows.move {c c' : Cx} {es : Blk} {ents : Array MapEntry} (h : MRows c es ents) (mv : ∀ x u, VRel c x u → VRel c' x u) : MRows c' es ents :=
  ⟨h.1, fun i l e hl he => let ⟨k, v, g1, g2, g3⟩ := h.2 i l e hl he; ⟨k, v, g1, mv _ _ g2, mv _ _ g3⟩⟩
theorem BlkOk.move {c c' : Cx} {es : Blk} {p : Place} {o : Obj} (h : BlkOk c es p o) (mv : ∀ x u, VRel c x u → VRel c' x u) : BlkOk c' es p o := by
  rcases h with ⟨h0, cs, e, fz, h1, h2, h3, h4⟩ | ⟨h0, ents, clock, h1, h2, h3⟩ | h | ⟨h0, ents, h1, h2, h3⟩
  · exact .inl ⟨h0, cs, e, fz, h1, h2, h3, fun i l hl => ⟨(h4 i l hl).1, fun j av hj => let ⟨u, g1, g2⟩ := (h4 i l hl).2 j av hj; ⟨u, g1, mv _ _ g2⟩⟩⟩
  · exact .inr (.inl ⟨h0, ents, clock, h1, h2.move mv, h3⟩)
  · exact .inr (.inr (.inl h))
  · exact .inr (.inr (.inr ⟨h0, ents, h1, h2.move mv, h3⟩))

/-- What is known of package-level variables. -/
def GlOk (c : Cx) : Prop := ∀ g vs, globTab g = some vs → c.ro g ∧ ∃ e fz, c.w.heap[g]? = some (.cells vs.toArray e fz)
theorem GlOk.to {c c' : Cx} (h : GlOk c) (hG : c'.F.G = c.F.G) (hro : ∀ B, c.ro B → c'.ro B) (hw : ∀ B, c.ro B → c'.w.heap[B]? = c.w.heap[B]?) : GlOk c' := fun g vs hg =>
  let ⟨h1, e, fz, h2⟩ := h g vs hg
  ⟨hro g h1, e, fz, (hw g h1).trans h2⟩
theorem GlOk.to2 {c c' : Cx} (h : GlOk c) (hro : ∀ B, c.ro B → c'.ro B) (hw : ∀ B, c.ro B → c'.w.heap[B]? = c.w.heap[B]?) : GlOk c' := fun g vs hg =>
  let ⟨h1, e, fz, h2⟩ := h g vs hg
  ⟨hro g h1, e, fz, (hw g h1).trans h2⟩
theorem GlOk.ext {c c' : Cx} (h : GlOk c) (e : Ext c c') : GlOk c' := h.to (by rw [e.F]) (fun _ hB => e.ro hB) fun B hB => (e.keep B hB.1 hB.2.1).2

/-- The memory that a run owns. -/
structure HRel (c : Cx) (nx : Nat) : Prop where
  dom : ∀ r, c.hp r ≠ none → r < nx
  lt : ∀ r p, c.ι r = some p → r < nx
  blk : ∀ r es p, c.hp r = some es → c.ι r = some p → ¬ c.F p.B ∧ ∃ o, c.w.heap[p.B]? = some o ∧ BlkOk c es p o
  inj : ∀ r r' p p', c.hp r ≠ none → c.hp r' ≠ none → c.ι r = some p → c.ι r' = some p' → p.B = p'.B → r = r'
  F : ∀ B, c.F B → B < c.w.heap.size
  ty : TyOk c
  gl : GlOk c

/-- A block of cells. -/
theorem HRel.cells {c : Cx} {nx : Nat} (h : HRel c nx) {r : Nat} {es : Blk} {p : Place} (h1 : c.hp r = some es) (h2 : c.ι r = some p) (hm : p.O ≤ p.N) :
    ¬ c.F p.B ∧ ∃ cs e fz, c.w.heap[p.B]? = some (.cells cs e fz) ∧ cs.size = p.N ∧ (∀ o, o < p.N → ¬ (fz.1 ≤ o ∧ o < fz.2)) ∧
    (∀ (i : Nat) (l : List AV), es[i]? = some l → l.length = p.sz ∧ ∀ j av, l[j]? = some av → ∃ u, cs[p.O + i * p.sz + j]? = some u ∧ VRel c av u) := by
  obtain ⟨hF, o, h3, h4⟩ := h.blk r es p h1 h2
  refine ⟨hF, ?_⟩
  rcases h4 with ⟨_, cs, e, fz, rfl, g2, g3, g4⟩ | ⟨h0, _⟩ | ⟨h0, _⟩ | ⟨h0, _⟩
  · exact ⟨cs, e, fz, h3, g2, g3, g4⟩
  all_goals omega
/-- A map's block. -/
theorem HRel.map {c : Cx} {nx : Nat} (h : HRel c nx) {r : Nat} {es : Blk} {p : Place} (h1 : c.hp r = some es) (h2 : c.ι r = some p) (hm : p.O = p.N + 1) :
    ¬ c.F p.B ∧ ∃ ents clock, c.w.heap[p.B]? = some (.map ents clock) ∧ MRows c es ents ∧ Stamps ents clock := by
  obtain ⟨hF, o, h3, h4⟩ := h.blk r es p h1 h2
  refine ⟨hF, ?_⟩
  rcases h4 with ⟨h0, _⟩ | ⟨_, ents, clock, rfl, g2, g3⟩ | ⟨h0, _⟩ | ⟨h0, _⟩
  · omega
  · exact ⟨ents, clock, h3, g2, g3⟩
  all_goals omega
/-- A walk's block. -/
theorem HRel.walk {c : Cx} {nx : Nat} (h : HRel c nx) {r : Nat} {es : Blk} {p : Place} (h1 : c.hp r = some es) (h2 : c.ι r = some p) (hm : p.O = p.N + 2) :
    ¬ c.F p.B ∧ ∃ seen, c.w.heap[p.B]? = some (.mapIter (some p.N) p.sz seen p.sz) ∧ ItOk es p seen := by
  obtain ⟨hF, o, h3, h4⟩ := h.blk r es p h1 h2
  refine ⟨hF, ?_⟩
  rcases h4 with ⟨h0, _⟩ | ⟨h0, _⟩ | ⟨_, seen, rfl, g⟩ | ⟨h0, _⟩
  · omega
  · omega
  · exact ⟨seen, h3, g⟩
  · omega
/-- The block of a map that is kept aside. -/
theorem HRel.kept {c : Cx} {nx : Nat} (h : HRel c nx) {r : Nat} {es : Blk} {p : Place} (h1 : c.hp r = some es) (h2 : c.ι r = some p) (hm : p.O = p.N + 3) :
    ¬ c.F p.B ∧ ∃ ents, c.w.heap[p.B]? = some (.map ents p.sz) ∧ MRows c es ents ∧ Stamps ents p.sz ∧ ents.toList.map (·.born) = p.aux := by
  obtain ⟨hF, o, h3, h4⟩ := h.blk r es p h1 h2
  refine ⟨hF, ?_⟩
  rcases h4 with ⟨h0, _⟩ | ⟨h0, _⟩ | ⟨h0, _⟩ | ⟨_, ents, rfl, g⟩
  · omega
  · omega
  · omega
  · exact ⟨ents, h3, g⟩

theorem HRel.fresh {c : Cx} {nx : Nat} (h : HRel c nx) : c.ι nx = none := by
  cases e : c.ι nx with
  | none => rfl
  | some p => exact absurd (h.lt nx p e) (by omega)

theorem HRel.hfresh {c : Cx} {nx : Nat} (h : HRel c nx) : c.hp nx = none := by
  cases e : c.hp nx with
  | none => rfl
  | some es =>
    exact absurd (h.dom nx (by simp [e])) (by omega)

theorem HRel.own_lt {c : Cx} {nx : Nat} (h : HRel c nx) {B : Nat} (ho : c.own B) : B < c.w.heap.size := by
  obtain ⟨r, p, h1, h2, h3⟩ := ho
  cases e : c.hp r with
  | none => exact absurd e h1
  | some es =>
    obtain ⟨_, o, h4, _⟩ := h.blk r es p e h2
    subst h3
    exact (Array.getElem?_eq_some_iff.1 h4).1

end Go.Ai
