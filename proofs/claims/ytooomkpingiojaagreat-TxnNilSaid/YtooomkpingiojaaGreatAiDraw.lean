/- Regions that draw their order: whatever order the edges allow comes to the same. -/
import Derived.Test.YtooomkpingiojaaGreatAiCode
import Derived.Orders
namespace Go.Ai
set_option linter.unusedVariables false
set_option linter.unusedSimpArgs false

/-! ### What an operation looks at -/
section
variable {tm tm' : Nat → AV}

theorem ev_congr {x : Opd} (h : ∀ t ∈ x.tms, tm t = tm' t) : ev tm x = ev tm' x := by
  cases x with
  | t n => exact h n (by simp [Opd.tms])
  | c x => rfl
theorem evo_congr {x : Option Opd} (h : ∀ t ∈ otms x, tm t = tm' t) : evo tm x = evo tm' x := by
  cases x with
  | none => rfl
  | some x => exact congrArg some (ev_congr h)
theorem evl_congr {l : List Opd} (h : ∀ t ∈ ltms l, tm t = tm' t) : l.map (ev tm) = l.map (ev tm') :=
  List.map_congr_left fun x hx => ev_congr fun t ht => h t (List.mem_flatMap.2 ⟨x, hx, ht⟩)

theorem build_congr {ps : List (Nat × Nat × Opd)} (h : ∀ t ∈ ltms (ps.map (·.2.2)), tm t = tm' t) : (ps.map fun p => (p.1, p.2.1, ev tm p.2.2)) = (ps.map fun p => (p.1, p.2.1, ev tm' p.2.2)) :=
  List.map_congr_left fun p hp => by
    rw [ev_congr (tm := tm) (tm' := tm') fun t ht => h t (List.mem_flatMap.2 ⟨p.2.2, List.mem_map.2 ⟨p, hp, rfl⟩, ht⟩)]
theorem bslice_congr {ps : List (Nat × Opd)} (h : ∀ t ∈ ltms (ps.map (·.2)), tm t = tm' t) : (ps.map fun p => (p.1, ev tm p.2)) = (ps.map fun p => (p.1, ev tm' p.2)) :=
  List.map_congr_left fun p hp => by
    rw [ev_congr (tm := tm) (tm' := tm') fun t ht => h t (List.mem_flatMap.2 ⟨p.2, List.mem_map.2 ⟨p, hp, rfl⟩, ht⟩)]

theorem evP_congr {co : COp} (h : ∀ t ∈ co.tms, tm t = tm' t) : evP tm co = evP tm' co := by
  cases co <;> simp only [COp.tms, List.mem_append] at h <;> (try rfl)
  case pick c a b => simp only [evP, ev_congr (x := c) fun t ht => h t (.inl (.inl ht)), ev_congr (x := a) fun t ht => h t (.inl (.inr ht)), ev_congr (x := b) fun t ht => h t (.inr ht)]
  case build z ps => simp only [evP, build_congr h]
  case bslice o sz z ps => cases o <;> simp only [evP, bslice_congr h]
  case sslice x lo hi => simp only [evP, ev_congr (x := x) fun t ht => h t (.inl (.inl ht)), evo_congr (x := lo) fun t ht => h t (.inl (.inr ht)), evo_congr (x := hi) fun t ht => h t (.inr ht)]
  case slice n x lo hi mx => simp only [evP, ev_congr (x := x) fun t ht => h t (.inl (.inl (.inl ht))), evo_congr (x := lo) fun t ht => h t (.inl (.inl (.inr ht))), evo_congr (x := hi) fun t ht => h t (.inl (.inr ht)), evo_congr (x := mx) fun t ht => h t (.inr ht)]
  case mkfn f a b => simp only [evP, evl_congr (l := a) fun t ht => h t (.inl ht), evl_congr (l := b) fun t ht => h t (.inr ht)]
  all_goals first
    | (rename_i x y; simp only [evP, ev_congr (x := x) fun t ht => h t (.inl ht), ev_congr (x := y) fun t ht => h t (.inr ht)]; done)
    | (rename_i x; simp only [evP, ev_congr (x := x) h]; done)
    | (rename_i x _; simp only [evP, ev_congr (x := x) h]; done)

theorem evR_congr {co : COp} {hp hp' : Heap} {v : AV} {r : Nat} (h : ∀ t ∈ co.tms, tm t = tm' t) (he : evR tm hp co = some (v, r)) (hr : hp r = hp' r) : evR tm' hp' co = some (v, r) := by
  cases co <;> simp only [COp.tms] at h <;> (try (simp [evR] at he; done))
  case load n x =>
    simp only [evR] at he ⊢
    rw [← ev_congr (tm := tm) (tm' := tm') (x := x) h]
    split at he
    · split at he
      · rename_i es hes
        split at he
        · rename_i l hl
          simp only [Option.map_eq_some_iff, Prod.mk.injEq] at he
          obtain ⟨v', h1, rfl, rfl⟩ := he
          rw [← hr, hes]
          simp [hl, h1]
        · simp at he
      · simp at he
    · simp at he
  case b2s x =>
    simp only [evR] at he ⊢
    rw [← ev_congr (tm := tm) (tm' := tm') (x := x) h]
    split at he
    · split at he
      · rename_i es hes
        split at he
        · rename_i hc
          simp only [Option.map_eq_some_iff, Prod.mk.injEq] at he
          obtain ⟨v', h1, rfl, rfl⟩ := he
          rw [← hr, hes]
          simp [hc, h1]
        · simp at he
      · simp at he
    · simp at he
  case tou x =>
    simp only [evR] at he ⊢
    rw [← ev_congr (tm := tm) (tm' := tm') (x := x) h]
    split at he
    · split at he
      · rename_i l0 lr es hes
        simp only [Option.some.injEq, Prod.mk.injEq] at he
        obtain ⟨rfl, rfl⟩ := he
        rw [← hr, hes]
      · simp at he
    · simp at he
  case ofu t k x =>
    simp only [evR] at he ⊢
    rw [← ev_congr (tm := tm) (tm' := tm') (x := x) h]
    split at he
    · split at he
      · rename_i t' k' hes
        split at he
        · rename_i hc
          simp only [Option.some.injEq, Prod.mk.injEq] at he
          obtain ⟨rfl, rfl⟩ := he
          rw [← hr, hes]
          simp [hc]
        · simp at he
      · simp at he
    · simp at he
  case mlook lk z ok m k =>
    simp only [COp.tms, List.mem_append] at h
    simp only [evR] at he ⊢
    rw [← ev_congr (x := m) fun t ht => h t (.inl ht), ← ev_congr (x := k) fun t ht => h t (.inr ht)]
    split at he
    · rename_i r' hm
      have hrr : r' = r := by
        split at he
        · split at he
          · split at he <;> first | (simp only [Option.some.injEq, Prod.mk.injEq] at he; exact he.2) | cases he
          · cases he
        · cases he
      subst hrr
      rw [← hr]; exact he
    · cases he
  case mlen m =>
    simp only [evR] at he ⊢
    rw [← ev_congr (x := m) h]
    split at he
    · rename_i r' hm
      have hrr : r' = r := by
        split at he
        · simp only [Option.some.injEq, Prod.mk.injEq] at he; exact he.2
        · cases he
      subst hrr
      rw [← hr]; exact he
    · cases he

theorem evR_none {co : COp} {hp : Heap} (h : ∀ t ∈ co.tms, tm t = tm' t) (he : evR tm hp co = none) : evR tm' hp co = none := by
  cases hq : evR tm' hp co with
  | none => rfl
  | some x =>
    obtain ⟨v, r⟩ := x
    have := evR_congr (tm := tm') (tm' := tm) (hp' := hp) (fun t ht => (h t ht).symm) hq rfl
    rw [this] at he; simp at he

theorem evE_congr {co : COp} {hp : Heap} {nx : Nat} (h : ∀ t ∈ co.tms, tm t = tm' t) : evE tm hp nx co = evE tm' hp nx co := by
  cases co <;> simp only [COp.tms, List.mem_append] at h <;> (try rfl)
  case bslice o sz z ps => cases o <;> simp only [evE, bslice_congr h]
  case tlit t sz z ps => simp only [evE, bslice_congr h]
  all_goals first
    | (rename_i x y; simp only [evE, ev_congr (x := x) fun t ht => h t (.inl ht), ev_congr (x := y) fun t ht => h t (.inr ht)]; done)
    | (rename_i x; simp only [evE, ev_congr (x := x) h]; done)
    | (rename_i x _; simp only [evE, ev_congr (x := x) h]; done)
    | (rename_i x y z; simp only [evE, ev_congr (x := x) fun t ht => h t (.inl (.inl ht)), ev_congr (x := y) fun t ht => h t (.inl (.inr ht)), ev_congr (x := z) fun t ht => h t (.inr ht)]; done)

theorem wantedA_congr {g : Option (Nat × Bool)} (h : ∀ d w, g = some (d, w) → tm d = tm' d) : wantedA tm g = wantedA tm' g := by
  cases g with
  | none => rfl
  | some x => obtain ⟨d, w⟩ := x; simp only [wantedA, h d w rfl]
end

/-- Just one outcome. -/
def Just (v : AV) (hp : Heap) (nx : Nat) (k : Kd) : AV → Heap → Nat → Kd → Prop := fun v' hp' nx' k' => v' = v ∧ hp' = hp ∧ nx' = nx ∧ k' = k

theorem WOp_ex {R : CallRel} {co : COp} {s : St} {K : AV → Heap → Nat → Kd → Prop} (h : WOp R co s K) : ∃ v hp nx k, WOp R co s (Just v hp nx k) ∧ K v hp nx k := by
  unfold WOp at h ⊢
  split at h
  · obtain ⟨v, hp, nx, k, hr, hk⟩ := h
    exact ⟨v, hp, nx, k, ⟨v, hp, nx, k, hr, rfl, rfl, rfl, rfl⟩, hk⟩
  · split at h
    · obtain ⟨v, hp, nx, k, hr, hk⟩ := h
      exact ⟨v, hp, nx, k, ⟨v, hp, nx, k, hr, rfl, rfl, rfl, rfl⟩, hk⟩
    · exact h.elim
  · split at h
    · exact ⟨_, _, _, _, ⟨rfl, rfl, rfl, rfl⟩, h⟩
    · split at h
      · exact ⟨_, _, _, _, ⟨rfl, rfl, rfl, rfl⟩, h⟩
      · split at h
        · exact ⟨_, _, _, _, ⟨rfl, rfl, rfl, rfl⟩, h⟩
        · exact h.elim

/-- What a new block is known by: a pointer, or a map. -/
def vA (m : Bool) (q : Nat) : AV := if m then .mp q else .ptr q 0 0
theorem evE_fresh {co : COp} {tm tm' : Nat → AV} {hp hp1 : Heap} {nx nx1 : Nat} {v : AV} (ht : ∀ t ∈ co.tms, tm t = tm' t) (hk : kdE co = .a) (hv : evE tm hp nx co = some (v, hp1, nx1)) :
    ∃ m es, v = vA m nx ∧ hp1 = hupd hp nx (some es) ∧ nx1 = nx + 1 ∧ ∀ hp' nx', evE tm' hp' nx' co = some (vA m nx', hupd hp' nx' (some es), nx' + 1) := by
  cases co <;> simp only [kdE, reduceCtorEq] at hk
  · simp only [evE, Option.some.injEq, Prod.mk.injEq] at hv
    obtain ⟨rfl, rfl, rfl⟩ := hv
    exact ⟨false, _, rfl, rfl, rfl, fun _ _ => rfl⟩
  · rename_i x
    simp only [COp.tms] at ht
    have hx := ev_congr (tm := tm) (tm' := tm') (x := x) ht
    simp only [evE] at hv
    split at hv
    · rename_i hone
      simp only [Option.some.injEq, Prod.mk.injEq] at hv
      obtain ⟨rfl, rfl, rfl⟩ := hv
      refine ⟨false, _, rfl, rfl, rfl, fun _ _ => ?_⟩
      simp only [evE]
      rw [← hx, if_pos hone]; rfl
    · cases hv
  · simp only [evE, Option.some.injEq, Prod.mk.injEq] at hv
    obtain ⟨rfl, rfl, rfl⟩ := hv
    exact ⟨true, _, rfl, rfl, rfl, fun _ _ => rfl⟩

/-- An operation done elsewhere: where what it looks at is the same. -/
theorem WOp_move {P : Program} {R : CallRel} (hR : RelSound P R) {co : COp} {s s' : St} {v : AV} {hp : Heap} {nx : Nat} {k : Kd} (h : WOp R co s (Just v hp nx k)) (ht : ∀ t ∈ co.tms, s.tm t = s'.tm t) :
    (k = .p → hp = s.hp ∧ nx = s.nx ∧ WOp R co s' (Just v s'.hp s'.nx .p)) ∧ (∀ x, k = .r x → hp = s.hp ∧ nx = s.nx ∧ (s.hp x = s'.hp x → WOp R co s' (Just v s'.hp s'.nx (.r x)))) ∧
    (k = .e → s.hp = s'.hp → s.nx = s'.nx → WOp R co s' (Just v hp nx .e)) ∧
    (k = .a → kdE co = .a ∧ ∃ m es, v = vA m s.nx ∧ hp = hupd s.hp s.nx (some es) ∧ nx = s.nx + 1 ∧ evE s'.tm s'.hp s'.nx co = some (vA m s'.nx, hupd s'.hp s'.nx (some es), s'.nx + 1)) := by
  have call : ∀ {f : Nat} {args : List AV}, WCall R f args s.hp s.nx (Just v hp nx k) →
      (k = .p → hp = s.hp ∧ nx = s.nx ∧ WCall R f args s'.hp s'.nx (Just v s'.hp s'.nx .p)) ∧ (∀ x, k = .r x → hp = s.hp ∧ nx = s.nx ∧ (s.hp x = s'.hp x → WCall R f args s'.hp s'.nx (Just v s'.hp s'.nx (.r x)))) ∧
      (k = .e → s.hp = s'.hp → s.nx = s'.nx → WCall R f args s'.hp s'.nx (Just v hp nx .e)) ∧ (k = .a → False) := by
    rintro f args ⟨v1, hp1, nx1, k1, hr, rfl, rfl, rfl, rfl⟩
    refine ⟨?_, ?_, ?_, ?_⟩
    · rintro rfl
      obtain ⟨g1, g2, g3⟩ := hR.pure _ _ _ _ _ _ _ hr
      exact ⟨g1, g2, _, _, _, _, g3 _ _, rfl, rfl, rfl, rfl⟩
    · rintro x rfl
      rcases hR.kind _ _ _ _ _ _ _ _ hr with h | h <;> cases h
    · rintro rfl e1 e2
      exact ⟨_, _, _, _, by rw [← e1, ← e2]; exact hr, rfl, rfl, rfl, rfl⟩
    · rintro rfl
      rcases hR.kind _ _ _ _ _ _ _ _ hr with h | h <;> cases h
  unfold WOp at h ⊢
  split at h
  · rename_i f args
    rw [← evl_congr (tm := s.tm) (tm' := s'.tm) (l := args) (by simpa [COp.tms] using ht)]
    obtain ⟨h1, h2, h3, h4⟩ := call h
    exact ⟨h1, h2, h3, fun e => (h4 e).elim⟩
  · rename_i g args
    simp only [COp.tms, List.mem_append] at ht
    split at h
    · rename_i f first cap hg
      rw [ev_congr (tm := s.tm) (tm' := s'.tm) (x := g) fun t h => ht t (.inl h)] at hg
      simp only [hg]
      rw [← evl_congr (tm := s.tm) (tm' := s'.tm) (l := args) fun t h => ht t (.inr h)]
      obtain ⟨h1, h2, h3, h4⟩ := call h
      exact ⟨h1, h2, h3, fun e => (h4 e).elim⟩
    · exact h.elim
  · have e1 := evP_congr (tm := s.tm) (tm' := s'.tm) ht
    split at h
    · rename_i v1 hv
      obtain ⟨rfl, rfl, rfl, rfl⟩ := h
      rw [e1] at hv
      simp only [hv]
      refine ⟨fun _ => ?_, fun x h => (by cases h), fun h => (by cases h), fun h => (by cases h)⟩
      simp [Just]
    · rename_i hn
      rw [e1] at hn
      simp only [hn]
      split at h
      · rename_i v1 r1 hv
        obtain ⟨rfl, rfl, rfl, rfl⟩ := h
        refine ⟨fun h => (by cases h), ?_, fun h => (by cases h), fun h => (by cases h)⟩
        rintro x h
        cases h
        refine ⟨rfl, rfl, fun hx => ?_⟩
        rw [evR_congr ht hv hx]
        exact ⟨rfl, rfl, rfl, rfl⟩
      · rename_i hn2
        split at h
        · rename_i v1 hp1 nx1 hv
          obtain ⟨rfl, rfl, rfl, rfl⟩ := h
          refine ⟨fun h => ?_, fun x h => ?_, fun hk e2 e3 => ?_, fun hk => ?_⟩
          · cases co <;> simp [kdE] at h
          · cases co <;> simp [kdE] at h
          · rw [← e2, ← e3, evR_none ht hn2, ← evE_congr ht, hv]
            exact ⟨rfl, rfl, rfl, hk⟩
          · refine ⟨hk, ?_⟩
            obtain ⟨m, es, g1, g2, g3, g4⟩ := evE_fresh ht hk hv
            exact ⟨m, es, g1, g2, g3, g4 _ _⟩
        · exact h.elim

theorem form_alloc {P : Program} {own : Bool} {o : Oper} {z : List AV} (hc : compOp' P own o = some (.alloc z)) : ∃ e, o.op = .alloc e ∧ zeroOf P e = some z := by
  obtain ⟨dst, op, type, pos, after, guard⟩ := o
  unfold compOp' at hc
  split at hc
  · rename_i co' hco
    simp only [Option.some.injEq] at hc; subst hc
    cases op <;> simp only [compOp] at hco
    case alloc e =>
      split at hco
      · simp only [Option.map_eq_some_iff, reduceCtorEq, and_false, exists_false] at hco
      · simp only [Option.map_eq_some_iff, COp.alloc.injEq] at hco
        obtain ⟨z', h, rfl⟩ := hco
        exact ⟨_, rfl, h⟩
    case call cl =>
      obtain ⟨callee, as, ts⟩ := cl
      cases callee with
      | value g => cases g <;> simp at hco
      | invoke r m => simp at hco
      | builtin b => simp only [] at hco; unfold compTapp compBuiltin at hco; (repeat' split at hco) <;> simp at hco
    all_goals (first | (simp at hco; done) | skip)
    all_goals ((try unfold compBin at hco); (try unfold compConv at hco); (repeat' split at hco) <;> (first | (simp at hco; done) | (simp only [Option.map_eq_some_iff] at hco; obtain ⟨_, _, h⟩ := hco; cases h; done)))
  · cases op
    case binOp =>
      unfold compEqs at hc
      (repeat' split at hc) <;> simp at hc
    all_goals (exfalso; have hmm := compMap_cases hc; cases hmm)
theorem form_box {P : Program} {own : Bool} {o : Oper} {x : Opd} (hc : compOp' P own o = some (.box x)) : ∃ e y, o.op = .box e y ∧ cO y = x := by
  obtain ⟨dst, op, type, pos, after, guard⟩ := o
  unfold compOp' at hc
  split at hc
  · rename_i co' hco
    simp only [Option.some.injEq] at hc; subst hc
    cases op <;> simp only [compOp] at hco
    case box e y =>
      simp only [Option.some.injEq, COp.box.injEq] at hco
      exact ⟨_, _, rfl, hco⟩
    case alloc e =>
      split at hco
      · simp only [Option.map_eq_some_iff, reduceCtorEq, and_false, exists_false] at hco
      · simp only [Option.map_eq_some_iff, reduceCtorEq, and_false, exists_false] at hco
    case call cl =>
      obtain ⟨callee, as, ts⟩ := cl
      cases callee with
      | value g => cases g <;> simp at hco
      | invoke r m => simp at hco
      | builtin b => simp only [] at hco; unfold compTapp compBuiltin at hco; (repeat' split at hco) <;> simp at hco
    all_goals (first | (simp at hco; done) | skip)
    all_goals ((try unfold compBin at hco); (try unfold compConv at hco); (repeat' split at hco) <;> (first | (simp at hco; done) | (simp only [Option.map_eq_some_iff] at hco; obtain ⟨_, _, h⟩ := hco; cases h; done)))
  · cases op
    case binOp =>
      unfold compEqs at hc
      (repeat' split at hc) <;> simp at hc
    all_goals (exfalso; have hmm := compMap_cases hc; cases hmm)

theorem form_mkmap {P : Program} {own : Bool} {o : Oper} (hc : compOp' P own o = some .mkmap) : ∃ t kt et, o.op = .makeMap t none ∧ P.underlying t = some (.map kt et) := by
  obtain ⟨dst, op, type, pos, after, guard⟩ := o
  unfold compOp' at hc
  split at hc
  · rename_i co' hco
    simp only [Option.some.injEq] at hc; subst hc
    exfalso
    cases op <;> simp only [compOp] at hco
    case call cl =>
      obtain ⟨callee, as, ts⟩ := cl
      cases callee with
      | value g => cases g <;> simp at hco
      | invoke r m => simp at hco
      | builtin b => simp only [] at hco; unfold compTapp compBuiltin at hco; (repeat' split at hco) <;> simp at hco
    all_goals (first | (simp at hco; done) | skip)
    all_goals ((try unfold compBin at hco); (try unfold compConv at hco); (repeat' split at hco) <;> (first | (simp at hco; done) | (simp only [Option.map_eq_some_iff] at hco; obtain ⟨_, _, h⟩ := hco; cases h; done)))
  · cases op
    case binOp =>
      unfold compEqs at hc
      (repeat' split at hc) <;> simp at hc
    all_goals (have hmm := compMap_cases hc; cases hmm)
    exact ⟨_, _, _, rfl, by assumption⟩

/-- A block as it is made. -/
def FreshOk (c : Cx) (m : Bool) (es : Blk) (p : Place) (o : Obj) : Prop := BlkOk c es p o ∧ (∀ t k rest, es ≠ [.ty t k] :: rest) ∧ (if m then p.O = 1 ∧ p.N = 0 else p.O = 0)
theorem FreshOk.move {c c' : Cx} {m : Bool} {es : Blk} {p : Place} {o : Obj} (h : FreshOk c m es p o) (mv : ∀ x u, VRel c x u → VRel c' x u) : FreshOk c' m es p o := ⟨h.1.move mv, h.2⟩
def uP (p : Place) : Value := if p.O = 0 then .pointer (some ⟨p.B, 0, none⟩) else .map (some p.B)
/-- What makes a block, and no more, in the model. -/
theorem fresh_runs {P : Program} {own : Bool} {o : Oper} {co : COp} {tm : Nat → AV} {a : Act} {c : Cx} {q : Nat} {hp : Heap} {m : Bool} {es : Blk} (hc : compOp' P own o = some co) (hk : kdE co = .a)
    (he : evE tm hp q co = some (vA m q, hupd hp q (some es), q + 1)) (ht : TRel c tm a) :
    ∃ ob p, p.B = c.w.heap.size ∧ RunsTo P o a c.w (uP p) { c.w with heap := c.w.heap.push ob } ∧ FreshOk c m es p ob := by
  have hes : ∀ {es' : Blk}, hupd hp q (some es') = hupd hp q (some es) → es' = es := by
    intro es' h
    have := congrFun h q
    simpa [hupd] using this
  have hm : ∀ {x : AV}, x = vA m q → ((∃ r, x = .ptr r 0 0) → m = false) ∧ ((∃ r, x = .mp r) → m = true) := by
    rintro x rfl
    cases m <;> simp [vA]
  have cells : ∀ {row : List AV} {cs : Array Value} {e : TypeId}, es = [row] → m = false → row.length = cs.size → (∀ (k : Nat) (av : AV), row[k]? = some av → ∃ u, cs[k]? = some u ∧ VRel c av u) → RunsTo P o a c.w (.pointer (some ⟨c.w.heap.size, 0, none⟩)) { c.w with heap := c.w.heap.push (.cells cs e) } →
      ∃ ob p, p.B = c.w.heap.size ∧ RunsTo P o a c.w (uP p) { c.w with heap := c.w.heap.push ob } ∧ FreshOk c m es p ob := by
    rintro row cs e rfl rfl hl hr hrun
    refine ⟨.cells cs e, ⟨c.w.heap.size, 0, row.length, cs.size, []⟩, rfl, hrun, .inl ⟨Nat.zero_le _, cs, e, (0, 0), rfl, rfl, fun o ho => by simp, fun i l hi => ?_⟩, fun t k rest h => ?_, rfl⟩
    · cases i with
      | zero =>
        simp at hi; subst hi
        refine ⟨rfl, fun j av hj => ?_⟩
        obtain ⟨u, g1, g2⟩ := hr j av hj
        exact ⟨u, by simpa using g1, g2⟩
      | succ i => simp at hi
    · simp only [List.cons.injEq] at h
      obtain ⟨rfl, _⟩ := h
      obtain ⟨u, _, hu⟩ := hr 0 _ rfl
      exact hu.not_ty
  cases co <;> simp only [kdE, reduceCtorEq] at hk
  · rename_i z
    simp only [evE, Option.some.injEq, Prod.mk.injEq] at he
    obtain ⟨e, ho, hz⟩ := form_alloc hc
    obtain ⟨dst, op, type, pos, after, guard⟩ := o
    simp only at ho; subst ho
    obtain ⟨i, zv, hi, hzv, hzs, rfl⟩ := zeroOf_spec hz
    have hr := zero_rel c hzs
    refine cells (hes he.2.1).symm ((hm he.1).1 ⟨_, rfl⟩) (cs := zv.cells) (e := e) (by simp) (fun k av hk => ?_) (.inl ?_)
    · obtain ⟨u, h3, h4⟩ := hr.get hk
      exact ⟨u, by rw [← getElem?_arr]; exact h3, h4⟩
    · simp [execOp, Instr.alloc, zeroValue, typeInfo, hi, hzv, newVar, newRow]
  · rename_i x
    simp only [evE] at he
    split at he
    · rename_i hone
      simp only [Option.some.injEq, Prod.mk.injEq] at he
      obtain ⟨e, y, ho, hy⟩ := form_box hc
      subst hy
      obtain ⟨dst, op, type, pos, after, guard⟩ := o
      simp only at ho; subst ho
      have hr := cells_rel (cO_rel ht y) (not_agg_of_one hone)
      refine cells (hes he.2.1).symm ((hm he.1).1 ⟨_, rfl⟩) (cs := (a.eval y).cells) (e := e) (by simpa using hr.1) (fun k av hk => ?_) (.inl ?_)
      · obtain ⟨u, h3, h4⟩ := hr.get hk
        exact ⟨u, by rw [← getElem?_arr]; exact h3, h4⟩
      · simp [execOp, Instr.box, newVar, newRow]
    · cases he
  · simp only [evE, Option.some.injEq, Prod.mk.injEq] at he
    have h1 := hes he.2.1
    have h2 := (hm he.1).2 ⟨_, rfl⟩
    subst h1; subst h2
    obtain ⟨t, kt, et, ho, hu⟩ := form_mkmap hc
    obtain ⟨dst, op, type, pos, after, guard⟩ := o
    simp only at ho; subst ho
    exact ⟨.map #[] 0, ⟨c.w.heap.size, 1, 0, 0, []⟩, rfl, .inl rfl, .inr (.inl ⟨rfl, #[], 0, rfl, ⟨rfl, fun i l e h => by simp at h⟩, fun i e h => by simp at h, fun i j e e' h => by simp at h⟩), (fun t k rest h => by cases h), rfl, rfl⟩

/-! ### The trace of a region, walked in the text's order -/

/-- One operation of the walk. -/
def StepOk (R : CallRel) (co : COper) (s : St) (v : AV) (r : Rec) (s' : St) : Prop :=
  (wantedA s.tm co.guard = some true ∧ ∃ hp nx k, WOp R co.op s (Just v hp nx k) ∧ s' = s.put co.dst v hp nx ∧ r = ⟨k, s.hp, hp⟩) ∨
  (wantedA s.tm co.guard = some false ∧ v = .v undef ∧ s' = s.put co.dst (.v undef) s.hp s.nx ∧ r = ⟨.p, s.hp, s.hp⟩)

theorem WDraw_trace {R : CallRel} : ∀ (cl : List COper) (s : St) (recs : List Rec) {K : St → List Rec → Prop}, WDraw R cl s recs K →
    ∃ (S : Nat → St) (out : Nat → AV) (rs : List Rec), S 0 = s ∧ rs.length = cl.length ∧ (∀ (i : Nat) (co : COper) (r : Rec), cl[i]? = some co → rs[i]? = some r → StepOk R co (S i) (out i) r (S (i + 1))) ∧ K (S cl.length) (recs ++ rs)
  | [], s, recs, K, h => ⟨fun _ => s, fun _ => .v undef, [], rfl, rfl, fun i co r h => by simp at h, by simpa [WDraw] using h⟩
  | o :: cl, s, recs, K, h => by
    have step : ∀ (v : AV) (r : Rec) (s' : St), StepOk R o s v r s' → WDraw R cl s' (recs ++ [r]) K →
        ∃ (S : Nat → St) (out : Nat → AV) (rs : List Rec), S 0 = s ∧ rs.length = (o :: cl).length ∧ (∀ (i : Nat) (co : COper) (r : Rec), (o :: cl)[i]? = some co → rs[i]? = some r → StepOk R co (S i) (out i) r (S (i + 1))) ∧ K (S (o :: cl).length) (recs ++ rs) := by
      intro v r s' hst hw
      obtain ⟨S, out, rs, h1, h2, h3, h4⟩ := WDraw_trace cl s' (recs ++ [r]) hw
      refine ⟨fun n => match n with | 0 => s | n + 1 => S n, fun n => match n with | 0 => v | n + 1 => out n, r :: rs, rfl, by simp [h2], ?_, ?_⟩
      · intro i co r' hi hr
        cases i with
        | zero =>
          simp at hi hr; subst hi; subst hr
          show StepOk R o s v r (S 0)
          rw [h1]; exact hst
        | succ i => exact h3 i co r' (by simpa using hi) (by simpa using hr)
      · simpa using h4
    unfold WDraw at h
    split at h
    · rename_i hw
      obtain ⟨v, hp, nx, k, h1, h2⟩ := WOp_ex h
      exact step v ⟨k, s.hp, hp⟩ _ (.inl ⟨hw, hp, nx, k, h1, rfl, rfl⟩) h2
    · rename_i hw
      exact step (.v undef) ⟨.p, s.hp, s.hp⟩ _ (.inr ⟨hw, rfl, rfl, rfl⟩) h
    · exact h.elim

theorem calm_one (p : List Nat) (b : Rec) : ∀ (l : List Rec) (i : Nat), calmAll.one p b l i → ∀ (k : Nat) (a : Rec), l[k]? = some a → i + k ∈ p ∨ calm2 a b
  | [], i, _, k, a, h => by simp at h
  | x :: r, i, hc, k, a, h => by
    simp only [calmAll.one] at hc
    cases k with
    | zero =>
      simp at h; subst h
      rw [Nat.add_zero]
      by_cases hp : p.contains i = true
      · left; simpa using hp
      · right; have := hc.1; rw [if_neg hp] at this; exact this
    | succ k =>
      have := calm_one p b r (i + 1) hc.2 k a (by simpa using h)
      rwa [show i + 1 + k = i + (k + 1) by omega] at this

theorem calm_go : ∀ (pre : List (List Nat)) (recs done : List Rec) (j : Nat), calmAll.go pre recs done j → ∀ (q : Nat) (b : Rec), recs[q]? = some b → ∀ (i : Nat) (a : Rec), (done ++ recs)[i]? = some a → i < done.length + q → i ∈ pre.getD q [] ∨ calm2 a b
  | pre, [], done, j, _, q, b, hb, _, _, _, _ => by simp at hb
  | [], r :: rest, done, j, h, _, _, _, _, _, _, _ => by simp [calmAll.go] at h
  | p :: ps, r :: rest, done, j, h, q, b, hb, i, a, ha, hi => by
    simp only [calmAll.go] at h
    cases q with
    | zero =>
      simp at hb; subst hb
      have := calm_one p r done 0 h.1 i a (by rw [List.getElem?_append_left (by omega)] at ha; exact ha)
      simpa using this
    | succ q =>
      have := calm_go ps rest (done ++ [r]) (j + 1) h.2 q b (by simpa using hb) i a (by rw [List.append_assoc]; simpa using ha) (by simp; omega)
      simpa using this

theorem calm_spec {pre : List (List Nat)} {recs : List Rec} (h : calmAll pre recs) {i j : Nat} {a b : Rec} (hij : i < j) (ha : recs[i]? = some a) (hb : recs[j]? = some b) : i ∈ pre.getD j [] ∨ calm2 a b :=
  calm_go pre recs [] 0 h.1 j b hb i a (by simpa using ha) (by simpa using hij)

/-! ### Some of a region's operations done -/

/-- The temporaries when those of 'D' among the first k operations are done. -/
def tmD (D : Nat → Bool) (dst : Nat → Option Nat) (out : Nat → AV) (t0 : Nat → AV) : Nat → Nat → AV
  | 0 => t0
  | k + 1 => if D k then (match dst k with | some d => tupd (tmD D dst out t0 k) d (out k) | none => tmD D dst out t0 k) else tmD D dst out t0 k

theorem tmD_step {E : Nat → Bool} {dst : Nat → Option Nat} {out : Nat → AV} {t0 : Nat → AV} {t k : Nat} (hd : dst k ≠ some t) : tmD E dst out t0 (k + 1) t = tmD E dst out t0 k t := by
  simp only [tmD]
  split
  · cases h : dst k with
    | none => rfl
    | some d =>
      show tupd _ d _ t = _
      unfold tupd
      rw [if_neg]
      rintro rfl; exact hd h
  · rfl

theorem tmD_congr {D D' : Nat → Bool} {dst : Nat → Option Nat} {out : Nat → AV} {t0 : Nat → AV} {t : Nat} : ∀ (k : Nat), (∀ j, j < k → dst j = some t → D j = D' j) → tmD D dst out t0 k t = tmD D' dst out t0 k t
  | 0, _ => rfl
  | k + 1, h => by
    have ih := tmD_congr (D := D) (D' := D') (dst := dst) (out := out) (t0 := t0) (t := t) k (fun j hj hd => h j (by omega) hd)
    by_cases hd : dst k = some t
    · simp only [tmD, hd, h k (by omega) hd]
      split
      · simp [tupd]
      · exact ih
    · rw [tmD_step hd, tmD_step hd]; exact ih

theorem tmD_below {dst : Nat → Option Nat} {out : Nat → AV} {t0 : Nat → AV} (i : Nat) : ∀ (k : Nat), i ≤ k → tmD (fun j => decide (j < i)) dst out t0 k = tmD (fun _ => true) dst out t0 i
  | 0, h => by
    have : i = 0 := by omega
    subst this; rfl
  | k + 1, h => by
    by_cases hi : i = k + 1
    · subst hi
      funext t
      exact tmD_congr (k + 1) (fun j hj _ => by simp; omega)
    · have ih := tmD_below (dst := dst) (out := out) (t0 := t0) i k (by omega)
      simp only [tmD]
      rw [if_neg (by simp; omega)]
      exact ih

theorem tmD_last {E : Nat → Bool} {dst : Nat → Option Nat} {out : Nat → AV} {t0 : Nat → AV} {i d : Nat} (hi : E i = true) (hd : dst i = some d) : ∀ k, i < k → (∀ j, i < j → j < k → dst j = some d → E j = false) → tmD E dst out t0 k d = out i
  | 0, h, _ => by omega
  | k + 1, hk, h => by
    by_cases hik : i = k
    · subst hik
      simp [tmD, hi, hd, tupd]
    · have ih := tmD_last (out := out) (t0 := t0) hi hd k (by omega) (fun j h1 h2 => h j h1 (by omega))
      by_cases hdk : dst k = some d
      · simp only [tmD, h k (by omega) (by omega) hdk]
        simpa using ih
      · rw [tmD_step hdk]; exact ih

theorem getD_tf {l : Array Bool} {j : Nat} (h : j < l.size) : l.getD j true = l.getD j false := by
  simp [Array.getD, h]

theorem getD_set {l : Array Bool} {i j : Nat} (h : i < l.size) : (l.setIfInBounds i true).getD j false = if j = i then true else l.getD j false := by
  split
  · rename_i e; subst e; simp [h]
  · rename_i e; simp [Array.getElem?_setIfInBounds_ne (fun h => e h.symm)]

/-- How many are not done yet. -/
def cnt (D : Nat → Bool) : Nat → Nat
  | 0 => 0
  | k + 1 => cnt D k + if D k then 0 else 1

theorem cnt_le {D D' : Nat → Bool} (h : ∀ j, D j = true → D' j = true) : ∀ k, cnt D' k ≤ cnt D k
  | 0 => Nat.le_refl _
  | k + 1 => by
    have ih := cnt_le h k
    simp only [cnt]
    by_cases hd : D k = true
    · rw [if_pos hd, if_pos (h k hd)]; exact ih
    · rw [if_neg hd]; split <;> omega

theorem cnt_lt {D D' : Nat → Bool} (h : ∀ j, D j = true → D' j = true) {i : Nat} (hi : D i = false) (hi' : D' i = true) : ∀ k, i < k → cnt D' k < cnt D k
  | 0, h0 => by omega
  | k + 1, hk => by
    simp only [cnt]
    by_cases hik : i = k
    · subst hik
      have := cnt_le h i
      rw [hi, hi']; simp; omega
    · have ih := cnt_lt h hi hi' k (by omega)
      by_cases hd : D k = true
      · rw [if_pos hd, if_pos (h k hd)]; omega
      · rw [if_neg hd]; split <;> omega

theorem cnt_zero {D : Nat → Bool} : ∀ k, cnt D k = 0 → ∀ j, j < k → D j = true
  | 0, _, j, hj => by omega
  | k + 1, h, j, hj => by
    simp only [cnt] at h
    by_cases hd : D k = true
    · by_cases hjk : j = k
      · subst hjk; exact hd
      · exact cnt_zero k (by omega) j (by omega)
    · rw [if_neg hd] at h; omega

/-! ### Blocks that are made ahead of their place in the text's order -/

theorem VRel.move {c c' : Cx} (hι : ∀ r p, c.ι r = some p → c'.ι r = some p) (hro : ∀ B, c.ro B → c'.ro B ∧ c'.w.heap[B]? = c.w.heap[B]?) {x : AV} {u : Value} (h : VRel c x u) : VRel c' x u := by
  induction h with
  | v x => exact .v x
  | str l => exact .str l
  | ptr h hpm => exact .ptr (hι _ _ h) hpm
  | mp h hpm => exact .mp (hι _ _ h) hpm
  | it h h' hr hm hm' hmr e1 e2 e3 e4 => exact .it (hι _ _ h) (hι _ _ h') (hι _ _ hr) hm hm' hmr e1 e2 e3 e4
  | stm h hr hm hmr e1 hs => exact .stm (hι _ _ h) (hι _ _ hr) hm hmr e1 hs
  | rp g hr hc hv ih => exact .rp g (fun h => (hro _ (hr h)).1) (fun k av h => by rw [cell?_of_heap (hro _ (hr (ne_nil_of_get h))).2]; exact hc k av h) ih
  | sl hi hs ha hl hcap hN hE hpm => exact .sl (hι _ _ hi) hs ha hl hcap hN hE hpm
  | nil h => exact .nil h
  | rs g hlen hl hcap hsz hr hc hv ih =>
    exact .rs g hlen hl hcap hsz (fun h => ⟨(hro _ (hr h).1).1, (hr h).2⟩) (fun i j l av h1 h2 => (cell?_of_heap (a := ⟨_, _, none⟩) (hro _ (hr (ne_nil_of_get h1)).1).2).trans (hc i j l av h1 h2)) ih
  | agg hl hv ih => exact .agg hl ih
  | tup hl hv ih => exact .tup hl ih
  | fn h1 h2 hx hy ihx ihy => exact .fn h1 h2 ihx ihy
  | ifc h ih => exact .ifc ih

theorem HRel.not_own {c : Cx} {nx : Nat} (h : HRel c nx) {B : Nat} (hF : c.F B) : ¬ c.own B := by
  rintro ⟨r, p, h1, h2, rfl⟩
  cases e : c.hp r with
  | none => exact h1 e
  | some es => exact (h.blk r es p e h2).1 hF

/-- More memory, that somebody else owns. -/
theorem HRel.more {c : Cx} {nx : Nat} (h : HRel c nx) {w' : World} (hg : Grow c.w w') {F' : Nat → Prop} (hF : ∀ B, F' B ↔ c.F B ∨ (c.w.heap.size ≤ B ∧ B < w'.heap.size)) :
    HRel ⟨⟨F', c.F.G⟩, c.ι, c.hp, w'⟩ nx ∧ ∀ x u, VRel c x u → VRel ⟨⟨F', c.F.G⟩, c.ι, c.hp, w'⟩ x u := by
  have hro : ∀ B, c.ro B → (⟨⟨F', c.F.G⟩, c.ι, c.hp, w'⟩ : Cx).ro B := fun B hB => ⟨Nat.lt_of_lt_of_le hB.1 hg.size, hB.2.1, fun h2 => by
    rcases (hF B).1 h2 with h3 | h3
    · exact hB.2.2 h3
    · have := hB.1; omega⟩
  have mv : ∀ x u, VRel c x u → VRel ⟨⟨F', c.F.G⟩, c.ι, c.hp, w'⟩ x u := fun x u hv => hv.move (c := c) (c' := ⟨⟨F', c.F.G⟩, c.ι, c.hp, w'⟩) (fun _ _ h => h) fun B hB => ⟨hro B hB, hg.keep B hB.1⟩
  refine ⟨⟨h.dom, h.lt, ?_, h.inj, fun B hB => ?_, h.ty.to (fun _ _ _ _ h => h) (fun _ _ h => h) (fun B cs t fz hB => ⟨cs, by show w'.heap[B]? = _; rw [hg.keep B (Array.getElem?_eq_some_iff.1 hB).1]; exact hB, rfl⟩) (fun _ _ _ h => h), h.gl.to rfl hro fun B hB => hg.keep B hB.1⟩, mv⟩
  · intro r es p h1 h2
    obtain ⟨h3, o, h4, h5⟩ := h.blk r es p h1 h2
    have hlt : p.B < c.w.heap.size := (Array.getElem?_eq_some_iff.1 h4).1
    refine ⟨fun h8 => ?_, o, by show w'.heap[p.B]? = _; rw [hg.keep _ hlt]; exact h4, h5.move mv⟩
    rcases (hF p.B).1 h8 with h9 | h9
    · exact h3 h9
    · omega
  · rcases (hF B).1 hB with h1 | h1
    · exact Nat.lt_of_lt_of_le (h.F B h1) hg.size
    · exact h1.2

/-- A block that somebody else owned is taken on. -/
theorem HRel.adopt {c : Cx} {q : Nat} (h : HRel c q) {p : Place} (hp : c.F p.B) {o : Obj} {es0 : Blk} {m : Bool} (hc : c.w.heap[p.B]? = some o) (hok : FreshOk c m es0 p o) :
    HRel ⟨⟨fun B => c.F B ∧ B ≠ p.B, c.F.G⟩, iupd c.ι q p, hupd c.hp q (some es0), c.w⟩ (q + 1) ∧ ∀ x u, VRel c x u → VRel ⟨⟨fun B => c.F B ∧ B ≠ p.B, c.F.G⟩, iupd c.ι q p, hupd c.hp q (some es0), c.w⟩ x u := by
  have hfι := h.fresh
  have hfh := h.hfresh
  have hι : ∀ r, r ≠ q → iupd c.ι q p r = c.ι r := fun r hr => by simp [iupd, hr]
  have hιn : iupd c.ι q p q = some p := by simp [iupd]
  have hhp : ∀ r, r ≠ q → hupd c.hp q (some es0) r = c.hp r := fun r hr => by simp [hupd, hr]
  have hhn : hupd c.hp q (some es0) q = some es0 := by simp [hupd]
  have hnown := h.not_own hp
  have hro : ∀ B, c.ro B → (⟨⟨fun B => c.F B ∧ B ≠ p.B, c.F.G⟩, iupd c.ι q p, hupd c.hp q (some es0), c.w⟩ : Cx).ro B := by
    refine fun B hB => ⟨hB.1, ?_, fun h2 => hB.2.2 h2.1⟩
    rintro ⟨r, p', h1, h2, h3⟩
    by_cases hrq : r = q
    · subst hrq
      have h2' : some p = some p' := by rw [← hιn]; exact h2
      cases h2'
      rw [h3] at hp
      exact hB.2.2 hp
    · exact hB.2.1 ⟨r, p', by have := h1; simp only [hhp r hrq] at this; exact this, by have := h2; simp only [hι r hrq] at this; exact this, h3⟩
  have mv : ∀ x u, VRel c x u → VRel ⟨⟨fun B => c.F B ∧ B ≠ p.B, c.F.G⟩, iupd c.ι q p, hupd c.hp q (some es0), c.w⟩ x u := by
    intro x u hv
    refine hv.move (c := c) (c' := ⟨⟨fun B => c.F B ∧ B ≠ p.B, c.F.G⟩, iupd c.ι q p, hupd c.hp q (some es0), c.w⟩) (fun r p' h1 => ?_) fun B hB => ⟨hro B hB, rfl⟩
    have : r ≠ q := by rintro rfl; rw [hfι] at h1; cases h1
    show iupd _ _ _ r = _
    rw [hι r this]; exact h1
  refine ⟨⟨?_, ?_, ?_, ?_, fun B hB => h.F B hB.1, ?_, h.gl.to rfl hro fun _ _ => rfl⟩, mv⟩
  · intro r hr
    by_cases he : r = q
    · omega
    · have : c.hp r ≠ none := by simpa only [hhp r he] using hr
      have := h.dom r this; omega
  · intro r p' h1
    by_cases he : r = q
    · omega
    · have : c.ι r = some p' := by simpa only [hι r he] using h1
      have := h.lt r p' this; omega
  · intro r es p' h1 h2
    by_cases he : r = q
    · subst he
      have h1' : some es0 = some es := by rw [← hhn]; exact h1
      have h2' : some p = some p' := by rw [← hιn]; exact h2
      cases h1'; cases h2'
      exact ⟨fun h3 => h3.2 rfl, o, hc, hok.1.move mv⟩
    · have g1 : c.hp r = some es := by simpa only [hhp r he] using h1
      have g2 : c.ι r = some p' := by simpa only [hι r he] using h2
      obtain ⟨h3, o, h4, h5⟩ := h.blk r es p' g1 g2
      exact ⟨fun h8 => h3 h8.1, o, h4, h5.move mv⟩
  · intro r r' p1 p2 h1 h2 h3 h4 h5
    have other : ∀ x px, x ≠ q → c.hp x ≠ none → c.ι x = some px → px.B ≠ p.B := by
      intro x px hx k1 k2 k3
      exact hnown ⟨x, px, k1, k2, k3⟩
    by_cases e1 : r = q
    · by_cases e2 : r' = q
      · rw [e1, e2]
      · exfalso
        subst e1
        have h3' : some p = some p1 := by rw [← hιn]; exact h3
        cases h3'
        exact other r' p2 e2 (by simpa only [hhp r' e2] using h2) (by simpa only [hι r' e2] using h4) h5.symm
    · by_cases e2 : r' = q
      · exfalso
        subst e2
        have h4' : some p = some p2 := by rw [← hιn]; exact h4
        cases h4'
        exact other r p1 e1 (by simpa only [hhp r e1] using h1) (by simpa only [hι r e1] using h3) h5
      · exact h.inj r r' p1 p2 (by simpa only [hhp r e1] using h1) (by simpa only [hhp r' e2] using h2) (by simpa only [hι r e1] using h3) (by simpa only [hι r' e2] using h4) h5
  · refine h.ty.to (fun r t k rest hr0 => ?_) (fun r p' h1 => ?_) (fun B cs t fz hB => ⟨cs, hB, rfl⟩) (fun r _ g1 g2 => by
      have : r ≠ q := by rintro rfl; exact g1 hfι
      have g2 : hupd c.hp q (some es0) r ≠ none := g2
      rw [hhp r this] at g2; exact g2)
    · by_cases he : r = q
      · subst he
        have h1' : some es0 = some ([AV.ty t k] :: rest) := by rw [← hhn]; exact hr0
        exact absurd (Option.some.inj h1') (hok.2.1 _ _ _)
      · simpa only [hhp r he] using hr0
    · have : r ≠ q := by rintro rfl; rw [hfι] at h1; cases h1
      show iupd _ _ _ r = _
      rw [hι r this]; exact h1

theorem allocOk_spec : ∀ (pre : List (List Nat)) (fl : List (Bool × Bool)) (effs : List Nat) (i0 : Nat), allocOk pre fl effs i0 = true → ∀ (q : Nat) (e : Bool), fl[q]? = some (true, e) → ∀ p ∈ pre, i0 + q ∈ p → (∀ k ∈ effs, k ∈ p) ∧ ∀ (k : Nat) (b : Bool), k < q → fl[k]? = some (b, true) → i0 + k ∈ p
  | pre, [], effs, i0, _, q, e, h, _, _, _ => by simp at h
  | pre, (a, e0) :: r, effs, i0, hok, q, e, hq, p, hp, hm => by
    simp only [allocOk, Bool.and_eq_true] at hok
    cases q with
    | zero =>
      simp at hq
      obtain ⟨rfl, rfl⟩ := hq
      have h1 := hok.1
      rw [if_pos rfl, List.all_eq_true] at h1
      have h2 := h1 p hp
      rw [if_pos (by simpa using hm), List.all_eq_true] at h2
      exact ⟨fun k hk => by simpa using h2 k hk, fun k b hk => by omega⟩
    | succ q =>
      have ih := allocOk_spec pre r _ (i0 + 1) hok.2 q e (by simpa using hq) p hp (by rw [show i0 + 1 + q = i0 + (q + 1) by omega]; exact hm)
      refine ⟨fun k hk => ih.1 k (by split <;> simp [hk]), fun k b hk hb => ?_⟩
      cases k with
      | zero =>
        simp at hb
        obtain ⟨rfl, rfl⟩ := hb
        exact ih.1 i0 (by simp)
      | succ k =>
        have := ih.2 k b (by omega) (by simpa using hb)
        rwa [show i0 + 1 + k = i0 + (k + 1) by omega] at this
theorem alloc_spec {pre : List (List Nat)} {recs : List Rec} (h : calmAll pre recs) {i j k : Nat} {r rk : Rec} (hj : recs[j]? = some r) (ha : r.k = .a) (hij : j ∈ pre.getD i []) (hk : k < j) (hrk : recs[k]? = some rk) (he : rk.k.eff = true) : k ∈ pre.getD i [] := by
  have hi : i < pre.length := by
    rcases Nat.lt_or_ge i pre.length with h | h
    · exact h
    · simp [List.getD, List.getElem?_eq_none h] at hij
  have hmem : pre.getD i [] ∈ pre := by simp [List.getD, List.getElem?_eq_getElem hi]
  have := (allocOk_spec pre _ [] 0 h.2 j r.k.eff (by simp [hj, ha, Kd.isA]) _ hmem (by simpa using hij)).2 k rk.k.isA hk (by simp [hrk, he])
  simpa using this

theorem tmD_pick {D : Nat → Bool} {dst : Nat → Option Nat} {o1 o2 : Nat → AV} {t0 : Nat → AV} {m : Nat} (h : ∀ j, j ≠ m → o1 j = o2 j) (t : Nat) : ∀ k, tmD D dst o1 t0 k t = tmD D dst o2 t0 k t ∨ (tmD D dst o1 t0 k t = o1 m ∧ tmD D dst o2 t0 k t = o2 m)
  | 0 => .inl rfl
  | k + 1 => by
    have ih := tmD_pick (D := D) (dst := dst) (t0 := t0) h t k
    by_cases hd : dst k = some t
    · simp only [tmD, hd]
      split
      · by_cases hk : k = m
        · subst hk; exact .inr (by simp [tupd])
        · exact .inl (by simp [tupd, h k hk])
      · exact ih
    · rw [tmD_step hd, tmD_step hd]; exact ih
theorem tmD_out {D : Nat → Bool} {dst : Nat → Option Nat} {o1 o2 : Nat → AV} {t0 : Nat → AV} {t : Nat} : ∀ (k : Nat), (∀ j, j < k → D j = true → dst j = some t → o1 j = o2 j) → tmD D dst o1 t0 k t = tmD D dst o2 t0 k t
  | 0, _ => rfl
  | k + 1, h => by
    have ih := tmD_out (D := D) (dst := dst) (t0 := t0) (t := t) k (fun j hj => h j (by omega))
    by_cases hd : dst k = some t
    · simp only [tmD, hd]
      split
      · rename_i hD; simp [tupd, h k (by omega) hD hd]
      · exact ih
    · rw [tmD_step hd, tmD_step hd]; exact ih

structure ExtF (c c' : Cx) : Prop where
  ι : ∀ r p, c.ι r = some p → c'.ι r = some p
  size : c.w.heap.size ≤ c'.w.heap.size
  keep : ∀ B, B < c.w.heap.size → ¬ c.own B → ¬ c'.own B ∧ c'.w.heap[B]? = c.w.heap[B]?
  os : c'.w.os = c.w.os
  tape : c'.w.tape = c.w.tape
  output : c'.w.output = c.w.output
  G : c'.F.G = c.F.G
theorem ExtF.trans {a b c : Cx} (h : ExtF a b) (k : Ext b c) : ExtF a c :=
  ⟨fun r p e => k.ι r p (h.ι r p e), Nat.le_trans h.size k.size, fun B hB ho => by
    obtain ⟨h1, h2⟩ := h.keep B hB ho
    obtain ⟨h3, h4⟩ := k.keep B (Nat.lt_of_lt_of_le hB h.size) h1
    exact ⟨h3, h4.trans h2⟩, k.os.trans h.os, k.tape.trans h.tape, k.output.trans h.output, by rw [k.F]; exact h.G⟩

/-- A block made ahead of its place. -/
structure PB (c c' : Cx) (S : Nat → St) (out : Nat → AV) (j : Nat) (p : Place) : Prop where
  row : ∃ m es, out j = vA m (S j).nx ∧ (S (j + 1)).hp = hupd (S j).hp (S j).nx (some es) ∧ (S (j + 1)).nx = (S j).nx + 1 ∧
    ∃ o, c'.w.heap[p.B]? = some o ∧ FreshOk c' m es p o
  ge : c.w.heap.size ≤ p.B
theorem PB.to {c c' c'' : Cx} {S : Nat → St} {out : Nat → AV} {j : Nat} {p : Place} (h : PB c c' S out j p) (hw : c''.w.heap[p.B]? = c'.w.heap[p.B]?) (mv : ∀ x u, VRel c' x u → VRel c'' x u) : PB c c'' S out j p := by
  obtain ⟨⟨m, es, h1, h2, h3, o, h4, h5⟩, hg⟩ := h
  exact ⟨⟨m, es, h1, h2, h3, o, by rw [hw]; exact h4, h5.move mv⟩, hg⟩

def outP (pd : Nat → Option Place) (out : Nat → AV) (j : Nat) : AV := match pd j with
  | some p => .v (uP p)
  | none => out j

/-- Some of a region's operations are done: those that do something to memory up to the m-th; blocks that come later may be there, 'pd'. -/
structure DI (c : Cx) (S : Nat → St) (rs : List Rec) (n : Nat) (dst : Nat → Option Nat) (out : Nat → AV) (t0 : Nat → AV) (nt : Nat) (listed : Array Bool) (c' : Cx) (a' : Act) (m : Nat) (pd : Nat → Option Place) : Prop where
  mle : m ≤ n
  done : ∀ j r, rs[j]? = some r → r.k.eff = true → j < m → listed.getD j false = true
  e : ∀ j r, rs[j]? = some r → r.k = .e → m ≤ j → listed.getD j false = false
  a : ∀ j r, rs[j]? = some r → r.k = .a → m ≤ j → listed.getD j false = true → (pd j).isSome = true
  pend : ∀ j p, pd j = some p → m ≤ j ∧ (∃ r, rs[j]? = some r ∧ r.k = .a) ∧ listed.getD j false = true ∧ PB c c' S out j p ∧ c'.F p.B
  inj : ∀ j j' p p', pd j = some p → pd j' = some p' → p.B = p'.B → j = j'
  F : ∀ B, c'.F B ↔ c.F B ∨ ∃ j p, pd j = some p ∧ p.B = B
  hp : c'.hp = (S m).hp
  rel : HRel c' (S m).nx
  tm : TRel c' (tmD (fun i => listed.getD i false) dst (outP pd out) t0 n) a'
  sz : a'.tmps.size = nt
  df : a'.defers = c'.F.G
  ext : ExtF c c'

section
variable {c : Cx} {S : Nat → St} {rs : List Rec} {n : Nat} {dst : Nat → Option Nat} {out : Nat → AV} {t0 : Nat → AV} {nt : Nat} {listed : Array Bool} {c' : Cx} {a' : Act} {m : Nat} {pd : Nat → Option Place}

theorem DI.skip (h : DI c S rs n dst out t0 nt listed c' a' m pd) (hm : m < n) {r : Rec} (hr : rs[m]? = some r) (hk : r.k.eff = false) (h1 : (S (m + 1)).hp = (S m).hp) (h2 : (S (m + 1)).nx = (S m).nx) : DI c S rs n dst out t0 nt listed c' a' (m + 1) pd := by
  refine ⟨by omega, fun j r' h3 h4 h5 => ?_, fun j r' h3 h4 h5 => h.e j r' h3 h4 (by omega), fun j r' h3 h4 h5 => h.a j r' h3 h4 (by omega), fun j p h3 => ?_, h.inj, h.F, by rw [h1]; exact h.hp, by rw [h2]; exact h.rel, h.tm, h.sz, h.df, h.ext⟩
  · by_cases hjm : j = m
    · subst hjm; rw [hr, Option.some.injEq] at h3; subst h3; rw [hk] at h4; cases h4
    · exact h.done j r' h3 h4 (by omega)
  · obtain ⟨g1, ⟨r', g2, g3⟩, g4⟩ := h.pend j p h3
    refine ⟨?_, ⟨r', g2, g3⟩, g4⟩
    by_cases hjm : j = m
    · subst hjm; rw [hr, Option.some.injEq] at g2; subst g2; rw [g3] at hk; cases hk
    · omega

theorem DI.take (hcF : ∀ B, c.F B → B < c.w.heap.size) (h : DI c S rs n dst out t0 nt listed c' a' m pd) (hm : m < n) {p : Place} (hp : pd m = some p) : ∃ c'' pd', c''.w = c'.w ∧ DI c S rs n dst out t0 nt listed c'' a' (m + 1) pd' := by
  obtain ⟨_, ⟨r, hr, hk⟩, hl, hPB, hF⟩ := h.pend m p hp
  obtain ⟨mm, es0, e1, e2, e3, o, e4, e5⟩ := hPB.row
  obtain ⟨hrel, mv⟩ := h.rel.adopt hF e4 e5
  have hfι := h.rel.fresh
  refine ⟨⟨⟨fun B => c'.F B ∧ B ≠ p.B, c'.F.G⟩, iupd c'.ι (S m).nx p, hupd c'.hp (S m).nx (some es0), c'.w⟩, fun j => if j = m then none else pd j, rfl, ?_⟩
  have hpd : ∀ j p', (if j = m then none else pd j) = some p' → j ≠ m ∧ pd j = some p' := by
    intro j p' h1
    split at h1
    · cases h1
    · rename_i h2; exact ⟨h2, h1⟩
  refine ⟨by omega, fun j r' h3 h4 h5 => ?_, fun j r' h3 h4 h5 => h.e j r' h3 h4 (by omega), fun j r' h3 h4 h5 h6 => ?_, fun j p' h3 => ?_, fun j j' p1 p2 h3 h4 h5 => ?_, fun B => ?_, ?_, ?_, ?_, h.sz, h.df, ?_⟩
  · by_cases hjm : j = m
    · subst hjm; exact hl
    · exact h.done j r' h3 h4 (by omega)
  · rw [if_neg (by omega)]
    exact h.a j r' h3 h4 (by omega) h6
  · obtain ⟨h4, h5⟩ := hpd j p' h3
    obtain ⟨g1, g2, g3, g4, g5⟩ := h.pend j p' h5
    refine ⟨by omega, g2, g3, g4.to rfl mv, g5, fun h6 => h4 (h.inj j m p' p h5 hp h6)⟩
  · exact h.inj j j' p1 p2 (hpd j p1 h3).2 (hpd j' p2 h4).2 h5
  · constructor
    · rintro ⟨h1, h2⟩
      rcases (h.F B).1 h1 with h3 | ⟨j, p', h3, h4⟩
      · exact .inl h3
      · refine .inr ⟨j, p', ?_, h4⟩
        rw [if_neg]
        · exact h3
        · rintro rfl
          rw [hp, Option.some.injEq] at h3; subst h3
          exact h2 h4.symm
    · rintro (h1 | ⟨j, p', h1, h2⟩)
      · refine ⟨(h.F B).2 (.inl h1), fun h3 => ?_⟩
        have := hcF B h1
        have := hPB.ge
        omega
      · obtain ⟨h4, h5⟩ := hpd j p' h1
        exact ⟨(h.F B).2 (.inr ⟨j, p', h5, h2⟩), fun h6 => h4 (h.inj j m p' p h5 hp (by rw [h2, h6]))⟩
  · show hupd _ _ _ = _
    rw [e2, h.hp]
  · rw [e3]; exact hrel
  · intro t
    have hne : ∀ j, j ≠ m → outP pd out j = outP (fun j => if j = m then none else pd j) out j := by
      intro j hj; simp only [outP, if_neg hj]
    rcases tmD_pick (D := fun i => listed.getD i false) (dst := dst) (t0 := t0) hne t n with h1 | ⟨h1, h2⟩
    · rw [← h1]; exact mv _ _ (h.tm t)
    · rw [h2]
      have h3 := h.tm t
      rw [h1] at h3
      have h4 : outP pd out m = .v (uP p) := by simp only [outP, hp]
      rw [h4] at h3
      have h5 := h3.v_inv
      have h6 : outP (fun j => if j = m then none else pd j) out m = vA mm (S m).nx := by simp only [outP, if_true, e1]
      rw [h6, h5]
      have hcl := e5.2.2
      cases mm with
      | false =>
        have hO : p.O = 0 := by simpa using hcl
        have := VRel.ptr (c := ⟨⟨fun B => c'.F B ∧ B ≠ p.B, c'.F.G⟩, iupd c'.ι (S m).nx p, hupd c'.hp (S m).nx (some es0), c'.w⟩) (r := (S m).nx) (i := 0) (off := 0) (p := p) (by simp [iupd]) (by rw [hO]; exact Nat.zero_le _)
        simpa [hO, vA, uP] using this
      | true =>
        have hO : p.O = 1 ∧ p.N = 0 := by simpa using hcl
        have := VRel.mp (c := ⟨⟨fun B => c'.F B ∧ B ≠ p.B, c'.F.G⟩, iupd c'.ι (S m).nx p, hupd c'.hp (S m).nx (some es0), c'.w⟩) (r := (S m).nx) (p := p) (by simp [iupd]) (by omega)
        simpa [hO.1, vA, uP] using this
  · refine ⟨fun r' p' h1 => ?_, h.ext.size, fun B hB ho => ⟨?_, (h.ext.keep B hB ho).2⟩, h.ext.os, h.ext.tape, h.ext.output, h.ext.G⟩
    · have h2 := h.ext.ι r' p' h1
      have : r' ≠ (S m).nx := by rintro rfl; rw [hfι] at h2; cases h2
      show iupd _ _ _ r' = _
      simp [iupd, this, h2]
    · rintro ⟨r', p', h1, h2, h3⟩
      by_cases hrq : r' = (S m).nx
      · subst hrq
        have h2' : some p = some p' := by rw [← h2]; simp [iupd]
        cases h2'
        have := hPB.ge
        omega
      · refine (h.ext.keep B hB ho).1 ⟨r', p', ?_, ?_, h3⟩
        · simpa [hupd, hrq] using h1
        · simpa [iupd, hrq] using h2

/-- All is taken on that can be. -/
theorem DI.all (hcF : ∀ B, c.F B → B < c.w.heap.size) (hlen : rs.length = n) (hne : ∀ i r, rs[i]? = some r → r.k.eff = false → (S (i + 1)).hp = (S i).hp ∧ (S (i + 1)).nx = (S i).nx) :
    ∀ (d m : Nat) (c' : Cx) (pd : Nat → Option Place), n - m = d → DI c S rs n dst out t0 nt listed c' a' m pd → ∃ m' c'' pd', c''.w = c'.w ∧ DI c S rs n dst out t0 nt listed c'' a' m' pd' ∧ (m' = n ∨ ∃ r, rs[m']? = some r ∧ r.k.eff = true ∧ listed.getD m' false = false)
  | 0, m, c', pd, hd, h => ⟨m, c', pd, rfl, h, .inl (by have := h.mle; omega)⟩
  | d + 1, m, c', pd, hd, h => by
    have hm : m < n := by omega
    have hr : rs[m]? = some rs[m] := List.getElem?_eq_getElem (by omega)
    cases hk : (rs[m]'(by omega)).k.eff with
    | false =>
      obtain ⟨g1, g2⟩ := hne m _ hr hk
      exact DI.all hcF hlen hne d (m + 1) c' pd (by omega) (h.skip hm hr hk g1 g2)
    | true =>
      cases hl : listed.getD m false with
      | false => exact ⟨m, c', pd, rfl, h, .inr ⟨_, hr, hk, hl⟩⟩
      | true =>
        have hka : (rs[m]'(by omega)).k = .a := by
          cases hkk : (rs[m]'(by omega)).k with
          | a => rfl
          | e => have := h.e m _ hr hkk (Nat.le_refl _); rw [hl] at this; cases this
          | p => rw [hkk] at hk; cases hk
          | r x => rw [hkk] at hk; cases hk
        obtain ⟨p, hp⟩ := Option.isSome_iff_exists.1 (h.a m _ hr hka (Nat.le_refl _) hl)
        obtain ⟨c2, pd2, hw, h2⟩ := h.take hcF hm hp
        obtain ⟨m3, c3, pd3, hw3, h3, h4⟩ := DI.all hcF hlen hne d (m + 1) c2 pd2 (by omega) h2
        exact ⟨m3, c3, pd3, hw3.trans hw, h3, h4⟩
end

/-- The order in which a region's operations are done does not matter. -/
theorem drawSound {P : Program} (hm : P.follows .mixedOrders = true) {R : CallRel} (hR : RelSound P R) : DrawSound P R := by
  intro nt own id ops cl c s a Q Q' hcl hok hs hW hQ
  simp only [Bool.and_eq_true] at hok
  obtain ⟨hpre, htok⟩ := hok
  obtain ⟨S, out, rs, hS0, hrl, hstep, hcalm, hQn⟩ := WDraw_trace cl s [] hW
  rw [List.nil_append] at hcalm
  have hn : cl.length = ops.size := by
    have key : ∀ (l : List Oper) (i : Nat) (cl : List COper), compOpers P nt own ops l i = some cl → cl.length = l.length := by
      intro l
      induction l with
      | nil => intro i cl h; simp only [compOpers, Option.some.injEq] at h; subst h; rfl
      | cons o r ih =>
        intro i cl h
        simp only [compOpers] at h
        split at h
        · rename_i co l' h1 h2
          simp only [Option.some.injEq] at h; subst h
          simp [ih _ _ h2]
        · simp at h
    simpa using key _ _ _ hcl
  have hcomp : ∀ (i : Nat) (o : Oper), ops[i]? = some o → ∃ co, cl[i]? = some co ∧ compOper P nt (own i) ops o = some co := by
    have key : ∀ (l : List Oper) (k : Nat) (cl : List COper), compOpers P nt own ops l k = some cl → ∀ (i : Nat) (o : Oper), l[i]? = some o → ∃ co, cl[i]? = some co ∧ compOper P nt (own (k + i)) ops o = some co := by
      intro l
      induction l with
      | nil => intro k cl h i o hi; simp at hi
      | cons x r ih =>
        intro k cl h i o hi
        simp only [compOpers] at h
        split at h
        · rename_i co l' h1 h2
          simp only [Option.some.injEq] at h; subst h
          cases i with
          | zero => simp at hi; subst hi; exact ⟨co, rfl, h1⟩
          | succ i =>
            obtain ⟨co', h3, h4⟩ := ih (k + 1) l' h2 i o (by simpa using hi)
            exact ⟨co', by simpa using h3, by rw [show k + (i + 1) = k + 1 + i by omega]; exact h4⟩
        · simp at h
    intro i o hi
    obtain ⟨co, h1, h2⟩ := key _ _ _ hcl i o (by simpa using hi)
    rw [Nat.zero_add] at h2
    exact ⟨co, h1, h2⟩
  let pre := preOf ops
  let dst : Nat → Option Nat := fun i => (cl[i]?).bind (·.dst)
  -- what 'pre' says
  have hback : ∀ (j : Nat) (o : Oper), ops[j]? = some o → ∀ e ∈ o.after, Region.binds .any e = true → e.on < j := by
    intro j o ho e he hb
    have hj := (Array.getElem?_eq_some_iff.1 ho).1
    simp only [preOk, List.all_eq_true, List.mem_range] at hpre
    have := hpre j hj
    simp only [ho, Bool.and_eq_true, List.all_eq_true, Bool.or_eq_true, Bool.not_eq_true', decide_eq_true_eq] at this
    rcases this.1 e (by simpa using he) with h | h
    · rw [hb] at h; cases h
    · exact h
  have hprespec : ∀ (j : Nat) (o : Oper), ops[j]? = some o → ∀ i ∈ pre.getD j [], i < j ∧ ∃ e ∈ o.after, Region.binds .any e = true ∧ (e.on = i ∨ i ∈ pre.getD e.on []) := by
    intro j o ho i hi
    have hj := (Array.getElem?_eq_some_iff.1 ho).1
    simp only [preOk, List.all_eq_true, List.mem_range] at hpre
    have := hpre j hj
    simp only [ho, Bool.and_eq_true, List.all_eq_true, decide_eq_true_eq, List.any_eq_true, Bool.or_eq_true, beq_iff_eq] at this
    obtain ⟨h1, e, he, hb, h2⟩ := this.2 i hi
    refine ⟨h1, e, by simpa using he, hb, h2.imp (fun h => h) (fun h => by simpa using h)⟩
  have htemps : ∀ (i j : Nat) (x y : COper) (d : Nat), i ≠ j → cl[i]? = some x → cl[j]? = some y → x.dst = some d → (d ∈ y.looks ∨ y.dst = some d) → i ∈ pre.getD j [] ∨ j ∈ pre.getD i [] := by
    intro i j x y d hij hx hy hd hl
    simp only [tempsOk, List.all_eq_true, List.mem_range] at htok
    have := htok i (List.getElem?_eq_some_iff.1 hx).1 j (List.getElem?_eq_some_iff.1 hy).1
    simp only [hx, hy, hd, Bool.or_eq_true, beq_iff_eq, hij, false_or, Bool.not_eq_true', Bool.or_eq_false_iff] at this
    rcases this with (h | h) | h
    · exfalso
      rcases hl with hl | hl
      · have h1 := h.1; simp [hl] at h1
      · have h2 := h.2; simp [hl] at h2
    · left; simpa using h
    · right; simpa using h
  -- the walk's states
  have hco : ∀ i, i < ops.size → ∃ o co cop g r, ops[i]? = some o ∧ cl[i]? = some co ∧ co = ⟨o.dst, cop, g⟩ ∧ compOp' P (own i) o = some cop ∧ compGuard ops o.guard = some g ∧ o.dst.all (· < nt) = true ∧ rs[i]? = some r ∧ StepOk R co (S i) (out i) r (S (i + 1)) := by
    intro i hi
    obtain ⟨co, h1, h2⟩ := hcomp i ops[i] (Array.getElem?_eq_getElem hi)
    unfold compOper at h2
    split at h2
    · rename_i cop g hc hg
      split at h2
      · rename_i hd
        simp only [Option.some.injEq] at h2
        have hr : i < rs.length := by omega
        exact ⟨ops[i], co, cop, g, rs[i], Array.getElem?_eq_getElem hi, h1, h2.symm, hc, hg, hd, List.getElem?_eq_getElem hr, hstep i co _ h1 (List.getElem?_eq_getElem hr)⟩
      · simp at h2
    · simp at h2
  have hdst : ∀ i o, ops[i]? = some o → dst i = o.dst := by
    intro i o ho
    have hi := (Array.getElem?_eq_some_iff.1 ho).1
    obtain ⟨o', co, cop, g, r, h1, h2, h3, _⟩ := hco i hi
    rw [ho, Option.some.injEq] at h1; subst h1
    simp only [dst, h2, Option.bind_some, h3]
  have hStm : ∀ i, i ≤ ops.size → (S i).tm = tmD (fun _ => true) dst out s.tm i := by
    intro i
    induction i with
    | zero => intro _; rw [hS0]; rfl
    | succ i ih =>
      intro hi
      obtain ⟨o, co, cop, g, r, h1, h2, h3, h4, h5, h6, h7, h8⟩ := hco i (by omega)
      have hd := hdst i o h1
      have hput : ∀ (v : AV) (hp : Heap) (nx : Nat), v = out i → ((S i).put co.dst v hp nx).tm = tmD (fun _ => true) dst out s.tm (i + 1) := by
        intro v hp nx hv
        subst hv
        simp only [tmD, if_true, hd, h3]
        cases o.dst with
        | none => simp only [St.put]; exact ih (by omega)
        | some d => simp only [St.put]; rw [ih (by omega)]
      rcases h8 with ⟨_, hp, nx, k, _, e, _⟩ | ⟨_, hv, e, _⟩
      · rw [e]; exact hput _ _ _ rfl
      · rw [e]; exact hput _ _ _ hv.symm
  have hrec : ∀ i r, rs[i]? = some r → r.hp = (S i).hp ∧ r.hp' = (S (i + 1)).hp ∧ (r.k.eff = false → (S (i + 1)).hp = (S i).hp ∧ (S (i + 1)).nx = (S i).nx) := by
    intro i r hr
    have hi : i < ops.size := by have := (List.getElem?_eq_some_iff.1 hr).1; omega
    obtain ⟨o, co, cop, g, r', h1, h2, h3, h4, h5, h6, h7, h8⟩ := hco i hi
    rw [hr, Option.some.injEq] at h7; subst h7
    have hph : ∀ (d : Option Nat) (v : AV) (hp : Heap) (nx : Nat), ((S i).put d v hp nx).hp = hp ∧ ((S i).put d v hp nx).nx = nx := by intro d v hp nx; cases d <;> exact ⟨rfl, rfl⟩
    rcases h8 with ⟨_, hp, nx, k, hw, e, rfl⟩ | ⟨_, hv, e, rfl⟩
    · rw [e]
      refine ⟨rfl, ((hph _ _ _ _).1).symm, fun hne => ?_⟩
      rw [(hph _ _ _ _).1, (hph _ _ _ _).2]
      obtain ⟨m1, m2, m3, m4⟩ := WOp_move (P := P) hR (s' := S i) hw (fun _ _ => rfl)
      cases k with
      | p => exact ⟨(m1 rfl).1, (m1 rfl).2.1⟩
      | r x => exact ⟨(m2 x rfl).1, (m2 x rfl).2.1⟩
      | e => cases hne
      | a => cases hne
    · rw [e]
      exact ⟨rfl, ((hph _ _ _ _).1).symm, fun _ => ⟨(hph _ _ _ _).1, (hph _ _ _ _).2⟩⟩
  -- from one state to another, if nothing between changes a block
  have hbetweenX : ∀ x d i, i + d ≤ ops.size → (∀ j r, i ≤ j → j < i + d → rs[j]? = some r → r.k.eff = true → r.hp x = r.hp' x) → (S (i + d)).hp x = (S i).hp x := by
    intro x d
    induction d with
    | zero => intro i _ _; rfl
    | succ d ih =>
      intro i hle hno
      have h1 := ih i (by omega) (fun j r h3 h4 => hno j r h3 (by omega))
      have hlt : i + d < rs.length := by omega
      obtain ⟨g1, g2, h3⟩ := hrec (i + d) _ (List.getElem?_eq_getElem hlt)
      cases hk : (rs[i + d]).k.eff with
      | true =>
        have := hno (i + d) _ (by omega) (by omega) (List.getElem?_eq_getElem hlt) hk
        rw [g1, g2] at this
        exact this.symm.trans h1
      | false =>
        obtain ⟨h4, _⟩ := h3 hk
        rw [show i + (d + 1) = i + d + 1 by omega, h4]; exact h1
  -- what is done stands on what is done
  have preD : ∀ (listed : Array Bool), (∀ (j : Nat) (o : Oper), ops[j]? = some o → listed.getD j false = true → ∀ e ∈ o.after, Region.binds .any e = true → listed.getD e.on false = true) →
      ∀ (b j : Nat), j < b → j < ops.size → listed.getD j false = true → ∀ i ∈ pre.getD j [], listed.getD i false = true := by
    intro listed hcl' b
    induction b with
    | zero => intro j h; omega
    | succ b ih =>
      intro j hjb hj hD i hi
      have ho := Array.getElem?_eq_getElem hj
      obtain ⟨_, e, he, hb, h2⟩ := hprespec j _ ho i hi
      have h3 := hcl' j _ ho hD e he hb
      have h4 := hback j _ ho e he hb
      rcases h2 with rfl | h2
      · exact h3
      · exact ih e.on (by omega) (by omega) h3 i h2
  have allD : ∀ (listed : Array Bool), listed.size = ops.size → Region.ready .any ops listed = [] → ∀ (b j : Nat), j < b → j < ops.size → listed.getD j false = true := by
    intro listed hls hr b
    induction b with
    | zero => intro j h; omega
    | succ b ih =>
      intro j hjb hj
      have ho := Array.getElem?_eq_getElem hj
      cases hD : listed.getD j false with
      | true => rfl
      | false =>
        have : j ∈ Region.ready .any ops listed := mem_ready.2 ⟨by rw [getD_tf (by omega)]; exact hD, _, ho, fun e he hb => ih e.on (by have := hback j _ ho e he hb; omega) (by have := hback j _ ho e he hb; omega)⟩
        rw [hr] at this; cases this
  have hcF : ∀ B, c.F B → B < c.w.heap.size := hs.rel.F
  have hall1 : ∀ {listed : Array Bool} {c' : Cx} {a' : Act} {m : Nat} {pd : Nat → Option Place}, DI c S rs ops.size dst out s.tm nt listed c' a' m pd → ∃ m' c'' pd', c''.w = c'.w ∧ DI c S rs ops.size dst out s.tm nt listed c'' a' m' pd' ∧ (m' = ops.size ∨ ∃ r, rs[m']? = some r ∧ r.k.eff = true ∧ listed.getD m' false = false) :=
    fun {listed c' a' m pd} h => DI.all hcF (by omega) (fun i r hr hk => (hrec i r hr).2.2 hk) _ m c' pd rfl h
  have fin : ∀ (listed : Array Bool) (c' : Cx) (a' : Act) (m : Nat) (pd : Nat → Option Place), (∀ j, j < ops.size → listed.getD j false = true) → DI c S rs ops.size dst out s.tm nt listed c' a' m pd → Q' .normal a' c'.w := by
    intro listed c0 a' m0 pd0 hall h0
    obtain ⟨m, c', pd, hw, h, hmax⟩ := hall1 h0
    have hm : m = ops.size := by
      rcases hmax with h1 | ⟨r, h1, h2, h3⟩
      · exact h1
      · have hlt := (List.getElem?_eq_some_iff.1 h1).1
        rw [hall m (by omega)] at h3; cases h3
    subst hm
    have hpd : ∀ j, pd j = none := by
      intro j
      cases hj : pd j with
      | none => rfl
      | some p =>
        obtain ⟨g1, ⟨r, g2, _⟩, _⟩ := h.pend j p hj
        have := (List.getElem?_eq_some_iff.1 g2).1
        omega
    have hF : c'.F = c.F := by
      have hg := h.ext.G
      have hf : c'.F.F = c.F.F := by
       funext B
       apply propext
       rw [h.F B]
       constructor
       · rintro (h1 | ⟨j, p, h1, _⟩)
         · exact h1
         · rw [hpd] at h1; cases h1
       · exact .inl
      cases hA : c'.F with
      | mk F1 G1 =>
        cases hB : c.F with
        | mk F2 G2 => rw [hA, hB] at hf hg; simp only at hf hg; rw [hf, hg]
    rw [← hw]
    refine hQ (S ops.size) c' a' (by rw [← hn]; exact hQn) ⟨?_, h.sz, h.df, h.hp, h.rel⟩ ⟨hF, h.ext.ι, h.ext.size, h.ext.keep, h.ext.os, h.ext.tape, h.ext.output⟩
    rw [hStm ops.size (Nat.le_refl _)]
    have ho : outP pd out = out := funext fun j => by simp only [outP, hpd]
    have : tmD (fun i => listed.getD i false) dst (outP pd out) s.tm ops.size = tmD (fun _ => true) dst out s.tm ops.size := by rw [ho]; exact funext fun t => tmD_congr _ (fun j hj _ => hall j hj)
    rw [← this]; exact h.tm
  -- the heart: some are done, in whatever order
  have main : ∀ (fuel : Nat) (listed : Array Bool) (c' : Cx) (a' : Act) (m : Nat) (pd : Nat → Option Place), listed.size = ops.size → cnt (fun i => listed.getD i false) ops.size ≤ fuel →
      (∀ (j : Nat) (o : Oper), ops[j]? = some o → listed.getD j false = true → ∀ e ∈ o.after, Region.binds .any e = true → listed.getD e.on false = true) →
      DI c S rs ops.size dst out s.tm nt listed c' a' m pd → wpAny P .any ops Q' fuel listed a' c'.w := by
    intro fuel
    induction fuel with
    | zero =>
      intro listed c' a' m pd hls hcnt hcl' hdi
      have hall : ∀ j, j < ops.size → listed.getD j false = true := cnt_zero ops.size (by omega)
      refine ⟨List.eq_nil_iff_forall_not_mem.2 fun j hj => ?_, fin listed c' a' m pd hall hdi⟩
      obtain ⟨h1, o, ho, _⟩ := mem_ready.1 hj
      have hj := (Array.getElem?_eq_some_iff.1 ho).1
      rw [getD_tf (by omega), hall j hj] at h1; cases h1
    | succ fuel ih =>
      intro listed c0 a' m0 pd0 hls hcnt hcl' hdi0
      refine ⟨fun hr => fin listed c0 a' m0 pd0 (fun j hj => allD listed hls hr (j + 1) j (by omega) hj) hdi0, ?_⟩
      intro i hir
      obtain ⟨m, c', pd, hcw, hdi, hmax⟩ := hall1 hdi0
      rw [← hcw]
      obtain ⟨hi0, o, ho, hafter⟩ := mem_ready.1 hir
      have hi := (Array.getElem?_eq_some_iff.1 ho).1
      have hil : i < listed.size := by omega
      rw [getD_tf hil] at hi0
      have hcl := preD listed hcl'
      have hpi : ∀ k ∈ pre.getD i [], listed.getD k false = true := by
        intro k hk
        obtain ⟨_, e, he, hb, h2⟩ := hprespec i o ho k hk
        have h3 := hafter e he hb
        rcases h2 with rfl | h2
        · exact h3
        · have := hback i o ho e he hb
          exact hcl (e.on + 1) e.on (by omega) (by omega) h3 k h2
      have hip : ∀ j, j < ops.size → i ∈ pre.getD j [] → listed.getD j false = false := by
        intro j hj hm2
        cases hD : listed.getD j false with
        | false => rfl
        | true => rw [hcl (j + 1) j (by omega) hj hD i hm2] at hi0; cases hi0
      obtain ⟨o', co, cop, g, r, h1, h2, h3, h4, h5, h6, h7, h8⟩ := hco i hi
      rw [ho, Option.some.injEq] at h1; subst h1
      have hdi' := hdst i o ho
      have hco_j : ∀ j, j < ops.size → ∃ y, cl[j]? = some y ∧ dst j = y.dst := by
        intro j hj
        have : j < cl.length := by omega
        exact ⟨cl[j], List.getElem?_eq_getElem this, by simp [dst, List.getElem?_eq_getElem this]⟩
      -- nothing that it stands on is a block that is not taken on yet
      have hnp : ∀ j p, pd j = some p → j ∉ pre.getD i [] := by
        intro j p hp hj
        obtain ⟨g1, ⟨rj, g2, g3⟩, g4, _⟩ := hdi.pend j p hp
        have hjn := (List.getElem?_eq_some_iff.1 g2).1
        rcases hmax with hm | ⟨rm, k1, k2, k3⟩
        · omega
        · have hne : m ≠ j := by rintro rfl; rw [g4] at k3; cases k3
          have := alloc_spec hcalm g2 g3 hj (by omega) k1 k2
          rw [hpi m this] at k3; cases k3
      have hpi0 : pd i = none := by
        cases hp : pd i with
        | none => rfl
        | some p => have := (hdi.pend i p hp).2.2.1; rw [hi0] at this; cases this
      -- what it looks at
      have hlook : ∀ t ∈ co.looks, (S i).tm t = tmD (fun i => listed.getD i false) dst (outP pd out) s.tm ops.size t := by
        intro t ht'
        have e1 : (S i).tm t = tmD (fun i => listed.getD i false) dst out s.tm ops.size t := by
          rw [hStm i (by omega), ← tmD_below i ops.size (by omega)]
          refine tmD_congr _ (fun j hj hd => ?_)
          obtain ⟨y, hy, hyd⟩ := hco_j j hj
          by_cases hji : j = i
          · subst hji; rw [hi0]; simp
          · rw [hyd] at hd
            rcases htemps j i y co t hji hy h2 hd (.inl ht') with h | h
            · rw [hpi j h]; simp; exact (hprespec i o ho j h).1
            · rw [hip j hj h]; simp
              have := (hprespec j _ (Array.getElem?_eq_getElem hj) i h).1
              omega
        rw [e1]
        refine tmD_out _ fun j hj hD hd => ?_
        simp only [outP]
        cases hp : pd j with
        | none => rfl
        | some p =>
          exfalso
          obtain ⟨y, hy, hyd⟩ := hco_j j hj
          have hji : j ≠ i := by rintro rfl; rw [hi0] at hD; cases hD
          rw [hyd] at hd
          rcases htemps j i y co t hji hy h2 hd (.inl ht') with h | h
          · exact hnp j p hp h
          · rw [hip j hj h] at hD; cases hD
      have hD' : ∀ j, (listed.setIfInBounds i true).getD j false = if j = i then true else listed.getD j false := fun j => getD_set hil
      have hout : ∀ pd' : Nat → Option Place, (∀ j, j ≠ i → pd' j = pd j) → ∀ j, j ≠ i → outP pd' out j = outP pd out j := fun pd' h j hj => by simp only [outP, h j hj]
      have htm' : ∀ (pd' : Nat → Option Place) (hp : Heap) (nx : Nat) (s2 : St), (∀ j, j ≠ i → pd' j = pd j) → s2.tm = tmD (fun i => listed.getD i false) dst (outP pd out) s.tm ops.size → (s2.put o.dst (outP pd' out i) hp nx).tm = tmD (fun j => (listed.setIfInBounds i true).getD j false) dst (outP pd' out) s.tm ops.size := by
        intro pd' hp nx s2 hpd' hs2
        have hsame : ∀ t, tmD (fun i => listed.getD i false) dst (outP pd out) s.tm ops.size t = tmD (fun i => listed.getD i false) dst (outP pd' out) s.tm ops.size t := fun t => tmD_out _ fun j _ hD _ => (hout pd' hpd' j (by rintro rfl; rw [hi0] at hD; cases hD)).symm
        cases hd : o.dst with
        | none =>
          simp only [St.put, hs2]
          funext t
          rw [hsame t]
          refine tmD_congr _ (fun j hj hdj => ?_)
          show _ = (listed.setIfInBounds i true).getD j false
          rw [hD' j, if_neg]
          rintro rfl; rw [hdi', hd] at hdj; cases hdj
        | some d =>
          simp only [St.put, hs2]
          funext t
          unfold tupd
          split
          · rename_i htd; subst htd
            refine (tmD_last (i := i) ?_ (by rw [hdi', hd]) _ hi ?_).symm
            · show (listed.setIfInBounds i true).getD i false = true
              rw [hD']; simp
            · intro j h9 h10 hdj
              show (listed.setIfInBounds i true).getD j false = false
              rw [hD' j, if_neg (by omega)]
              obtain ⟨y, hy, hyd⟩ := hco_j j h10
              rw [hyd] at hdj
              rcases htemps j i y co t (by omega) hy h2 hdj (.inr (by rw [h3]; exact hd)) with h | h
              · have := (hprespec i o ho j h).1; omega
              · exact hip j h10 h
          · rename_i htd
            rw [hsame t]
            refine tmD_congr _ (fun j hj hdj => ?_)
            show _ = (listed.setIfInBounds i true).getD j false
            rw [hD' j, if_neg]
            rintro rfl
            rw [hdi', hd] at hdj
            exact htd (Option.some.inj hdj).symm
      have hcl2 : ∀ (j : Nat) (o : Oper), ops[j]? = some o → (listed.setIfInBounds i true).getD j false = true → ∀ e ∈ o.after, Region.binds .any e = true → (listed.setIfInBounds i true).getD e.on false = true := by
        intro j o2 ho2 hj e he hb
        rw [hD'] at hj
        split at hj
        · rename_i hji; subst hji
          rw [ho, Option.some.injEq] at ho2; subst ho2
          exact getD_set_true (hafter e he hb)
        · exact getD_set_true (hcl' j o2 ho2 hj e he hb)
      have hcnt2 : cnt (fun j => (listed.setIfInBounds i true).getD j false) ops.size ≤ fuel := by
        have := cnt_lt (D := fun i => listed.getD i false) (D' := fun j => (listed.setIfInBounds i true).getD j false) (fun j h => getD_set_true h) (i := i) hi0 (by show (listed.setIfInBounds i true).getD i false = true; rw [hD']; simp) ops.size hi
        omega
      have hls2 : (listed.setIfInBounds i true).size = ops.size := by simpa using hls
      have hsr : SR c' ⟨tmD (fun i => listed.getD i false) dst (outP pd out) s.tm ops.size, (S m).hp, (S m).nx⟩ nt a' := ⟨hdi.tm, hdi.sz, hdi.df, hdi.hp, hdi.rel⟩
      have hgl : ∀ d w, g = some (d, w) → (S i).tm d = tmD (fun i => listed.getD i false) dst (outP pd out) s.tm ops.size d := by
        intro d w hg
        refine hlook d ?_
        rw [h3]; simp [COper.looks, hg]
      have htl : ∀ t ∈ cop.tms, (S i).tm t = tmD (fun i => listed.getD i false) dst (outP pd out) s.tm ops.size t := by
        intro t h
        refine hlook t ?_
        rw [h3]; simp [COper.looks, h]
      have hout_i : outP pd out i = out i := by simp only [outP, hpi0]
      -- no effect is done, and none left, that the order does not bind
      have hee : ∀ j rj, j < ops.size → rs[j]? = some rj → ¬ calm2 r rj → ¬ calm2 rj r → j ≠ i → ((listed.getD j false = true ↔ j < i)) := by
        intro j rj hj hrj hn1 hn2 hji
        rcases Nat.lt_or_gt_of_ne hji with h | h
        · rcases calm_spec hcalm h hrj h7 with h | h
          · exact ⟨fun _ => by omega, fun _ => hpi j h⟩
          · exact absurd h hn2
        · rcases calm_spec hcalm h h7 hrj with h | h
          · rw [hip j hj h]; simp; omega
          · exact absurd h hn1
      -- the state behind an operation
      have next : ∀ (c'' : Cx) (a2 : Act) (m2 : Nat) (u : Value), Ext c' c'' → HRel c'' (S m2).nx → c''.hp = (S m2).hp → TRel c'' (tmD (fun j => (listed.setIfInBounds i true).getD j false) dst (outP pd out) s.tm ops.size) a2 → a2.tmps.size = nt → a2.defers = c''.F.G → m2 ≤ ops.size →
          (r.k.eff = false ∧ m2 = m ∨ r.k = .e ∧ m = i ∧ m2 = i + 1) → DI c S rs ops.size dst out s.tm nt (listed.setIfInBounds i true) c'' a2 m2 pd := by
        intro c'' a2 m2 u he hrl hhp2 htm2 hsz2 hdf2 hm2 hcase
        have hmm : m ≤ m2 ∧ ∀ j rj, rs[j]? = some rj → rj.k.eff = true → j < m2 → j < m ∨ j = i := by
          rcases hcase with ⟨_, rfl⟩ | ⟨_, rfl, rfl⟩
          · exact ⟨Nat.le_refl _, fun j rj _ _ h => .inl h⟩
          · exact ⟨by omega, fun j rj _ _ h => by omega⟩
        refine ⟨hm2, fun j rj g1 g2 g3 => ?_, fun j rj g1 g2 g3 => ?_, fun j rj g1 g2 g3 g4 => ?_, fun j p g1 => ?_, hdi.inj, fun B => by rw [he.F]; exact hdi.F B, hhp2, hrl, htm2, hsz2, hdf2, hdi.ext.trans he⟩
        · rw [hD']
          split
          · rfl
          · rename_i hji
            rcases hmm.2 j rj g1 g2 g3 with h | h
            · exact hdi.done j rj g1 g2 h
            · exact absurd h hji
        · rw [hD', if_neg]
          · exact hdi.e j rj g1 g2 (by omega)
          · rintro rfl
            rw [h7, Option.some.injEq] at g1; subst g1
            rcases hcase with ⟨h, _⟩ | ⟨_, _, h⟩
            · rw [g2] at h; cases h
            · omega
        · rw [hD', if_neg] at g4
          · exact hdi.a j rj g1 g2 (by omega) g4
          · rintro rfl
            rw [h7, Option.some.injEq] at g1; subst g1
            rcases hcase with ⟨h, _⟩ | ⟨h, _⟩
            · rw [g2] at h; cases h
            · rw [g2] at h; cases h
        · obtain ⟨k1, k2, k3, k4, k5⟩ := hdi.pend j p g1
          have hji : j ≠ i := by rintro rfl; rw [hi0] at k3; cases k3
          refine ⟨?_, k2, by rw [hD', if_neg hji]; exact k3, k4.to ?_ (fun x u h => h.mono he), by rw [he.F]; exact k5⟩
          · rcases hcase with ⟨_, rfl⟩ | ⟨_, h1, rfl⟩
            · exact k1
            · omega
          · exact (he.keep _ (hdi.rel.F _ k5) (hdi.rel.not_own k5)).2
      unfold wpOp
      rw [ho]
      simp only []
      rcases h8 with ⟨hw, hp, nx, k, hwop, hS1, hrk⟩ | ⟨hw, hv, hS1, hrk⟩
      · -- wanted
        rw [h3] at hw hwop hS1
        simp only at hw hwop hS1
        have hw2 := hw
        rw [wantedA_congr (tm' := tmD (fun i => listed.getD i false) dst (outP pd out) s.tm ops.size) hgl] at hw2
        rw [if_pos (wanted_run h5 hw2 hdi.tm)]
        refine .inl ?_
        obtain ⟨m1, m2, m3, m4⟩ := WOp_move hR (s' := ⟨tmD (fun i => listed.getD i false) dst (outP pd out) s.tm ops.size, (S m).hp, (S m).nx⟩) hwop htl
        have hph : ∀ (d : Option Nat) (v : AV) (hp : Heap) (nx : Nat), ((S i).put d v hp nx).hp = hp ∧ ((S i).put d v hp nx).nx = nx := by intro d v hp nx; cases d <;> exact ⟨rfl, rfl⟩
        -- it did something: all ahead of it is done
        have hmi : r.k.eff = true → m ≤ i := by
          intro hre
          rcases Nat.lt_or_ge i m with h | h
          · rw [hdi.done i r h7 hre h] at hi0; cases hi0
          · exact h
        have quiet : ∀ k2, r.k.eff = false → WOp R cop ⟨tmD (fun i => listed.getD i false) dst (outP pd out) s.tm ops.size, (S m).hp, (S m).nx⟩ (Just (out i) (S m).hp (S m).nx k2) → o.wp P a' c'.w (wpAny P .any ops Q' fuel (listed.setIfInBounds i true)) Q' := by
          intro k2 hne hwk
          refine WOp_sound hR h4 hsr h6 hwk ?_
          rintro v hp' nx' k' c'' u ⟨rfl, rfl, rfl, rfl⟩ _ he hh hrl2 hvv
          have hsr2 := hsr.put h6 he hh hrl2 hvv
          refine ih _ c'' _ m pd hls2 hcnt2 hcl2 (next c'' _ m u he hrl2 hh ?_ hsr2.sz hsr2.df hdi.mle (.inl ⟨hne, rfl⟩))
          rw [← htm' pd (S m).hp (S m).nx ⟨tmD (fun i => listed.getD i false) dst (outP pd out) s.tm ops.size, (S m).hp, (S m).nx⟩ (fun _ _ => rfl) rfl, hout_i]
          exact hsr2.tm
        cases k with
        | p => exact quiet .p (by rw [hrk]; rfl) (m1 rfl).2.2
        | r x =>
          refine quiet (.r x) (by rw [hrk]; rfl) ((m2 x rfl).2.2 ?_)
          have hx : ∀ j rj, j < ops.size → rs[j]? = some rj → rj.k.eff = true → (j < i ∧ m ≤ j ∨ i ≤ j ∧ j < m) → rj.hp x = rj.hp' x := by
            intro j rj hj hrj hke hcase
            have hji : j ≠ i := by
              rintro rfl
              rw [h7, Option.some.injEq] at hrj; subst hrj
              rw [hrk] at hke; cases hke
            by_cases hc2 : rj.hp x = rj.hp' x
            · exact hc2
            · exfalso
              have hn1 : ¬ calm2 r rj := by
                rw [hrk]; simp only [calm2]
                cases hkk : rj.k with
                | p => rw [hkk] at hke; cases hke
                | r y => rw [hkk] at hke; cases hke
                | e => exact hc2
                | a => exact hc2
              have hn2 : ¬ calm2 rj r := by
                rw [hrk]; simp only [calm2]
                cases hkk : rj.k with
                | p => rw [hkk] at hke; cases hke
                | r y => rw [hkk] at hke; cases hke
                | e => exact hc2
                | a => exact hc2
              have := hee j rj hj hrj hn1 hn2 hji
              rcases hcase with ⟨h1, h2⟩ | ⟨h1, h2⟩
              · have hl := this.2 h1
                cases hkk : rj.k with
                | p => rw [hkk] at hke; cases hke
                | r y => rw [hkk] at hke; cases hke
                | e => rw [hdi.e j rj hrj hkk h2] at hl; cases hl
                | a =>
                  obtain ⟨p, hp⟩ := Option.isSome_iff_exists.1 (hdi.a j rj hrj hkk h2 hl)
                  rcases calm_spec hcalm h1 hrj h7 with h | h
                  · exact hnp j p hp h
                  · exact hn2 h
              · have := this.1 (hdi.done j rj hrj hke h2)
                omega
          rcases Nat.le_total i m with hle | hle
          · have := hbetweenX x (m - i) i (by have := hdi.mle; omega) (fun j rj g1 g2 g3 g4 => hx j rj (by have := hdi.mle; omega) g3 g4 (.inr ⟨g1, by omega⟩))
            rw [show i + (m - i) = m by omega] at this
            exact this.symm
          · have := hbetweenX x (i - m) m (by omega) (fun j rj g1 g2 g3 g4 => hx j rj (by omega) g3 g4 (.inl ⟨by omega, g1⟩))
            rw [show m + (i - m) = i by omega] at this
            exact this
        | e =>
          have hre : r.k = .e := by rw [hrk]
          have hle := hmi (by rw [hre]; rfl)
          have hmeq : m = i := by
            rcases Nat.lt_or_ge m i with h | h
            · exfalso
              rcases hmax with h1 | ⟨rm, k1, k2, k3⟩
              · omega
              · have hc : ¬ calm2 rm r := by
                  cases hkk : rm.k with
                  | p => rw [hkk] at k2; cases k2
                  | r y => rw [hkk] at k2; cases k2
                  | e => simp only [calm2, hkk, hre]; exact not_false
                  | a => simp only [calm2, hkk, hre]; exact not_false
                rcases calm_spec hcalm h k1 h7 with h9 | h9
                · rw [hpi m h9] at k3; cases k3
                · exact hc h9
            · omega
          have e1 : (S (i + 1)).hp = hp := by rw [hS1]; exact (hph _ _ _ _).1
          have e2 : (S (i + 1)).nx = nx := by rw [hS1]; exact (hph _ _ _ _).2
          have hwk := m3 rfl (by rw [hmeq]) (by rw [hmeq])
          refine WOp_sound hR h4 hsr h6 hwk ?_
          rintro v hp' nx' k' c'' u ⟨rfl, rfl, rfl, rfl⟩ _ he hh hrl2 hvv
          have hsr2 := hsr.put h6 he hh hrl2 hvv
          refine ih _ c'' _ (i + 1) pd hls2 hcnt2 hcl2 (next c'' _ (i + 1) u he (by rw [e2]; exact hrl2) (by rw [e1]; exact hh) ?_ hsr2.sz hsr2.df (by omega) (.inr ⟨hre, hmeq, rfl⟩))
          rw [← htm' pd hp' nx' ⟨tmD (fun i => listed.getD i false) dst (outP pd out) s.tm ops.size, (S m).hp, (S m).nx⟩ (fun _ _ => rfl) rfl, hout_i]
          exact hsr2.tm
        | a =>
          have hra : r.k = .a := by rw [hrk]
          have hle := hmi (by rw [hra]; rfl)
          obtain ⟨hkd, mm, es0, g1, g2, g3, g4⟩ := m4 rfl
          have e1 : (S (i + 1)).hp = hp := by rw [hS1]; exact (hph _ _ _ _).1
          have e2 : (S (i + 1)).nx = nx := by rw [hS1]; exact (hph _ _ _ _).2
          have g4' : evE (tmD (fun i => listed.getD i false) dst (outP pd out) s.tm ops.size) c'.hp (S m).nx cop = some (vA mm (S m).nx, hupd c'.hp (S m).nx (some es0), (S m).nx + 1) := by rw [hdi.hp]; exact g4
          obtain ⟨ob, p, hpB, hrun, hfok⟩ := fresh_runs h4 hkd g4' hdi.tm
          have hgr : Grow c'.w { c'.w with heap := c'.w.heap.push ob } := Grow.push _ _
          -- the new block is somebody else's, for now
          let N := c'.w.heap.size
          have hFi : ∀ B, (c'.F B ∨ B = N) ↔ c'.F B ∨ (c'.w.heap.size ≤ B ∧ B < ({ c'.w with heap := c'.w.heap.push ob } : World).heap.size) := by
            intro B
            have : ({ c'.w with heap := c'.w.heap.push ob } : World).heap.size = c'.w.heap.size + 1 := by simp
            rw [this]
            constructor
            · rintro (h | h)
              · exact .inl h
              · exact .inr (by show _; omega)
            · rintro (h | h)
              · exact .inl h
              · exact .inr (by show B = c'.w.heap.size; omega)
          obtain ⟨hrel3, mv⟩ := hdi.rel.more hgr (F' := fun B => c'.F B ∨ B = N) hFi
          let pd' : Nat → Option Place := fun j => if j = i then some p else pd j
          have hpd' : ∀ j, j ≠ i → pd' j = pd j := fun j hj => by simp only [pd', if_neg hj]
          have hpdi : pd' i = some p := by simp only [pd', if_true]
          have value : ∀ {u : Value} {w' : World} {K' : Act → World → Prop}, RunsTo P o a' c'.w u w' → K' (a'.put o.dst u) w' → o.wp P a' c'.w K' Q' := by
            intro u w' K' hr hk
            unfold Oper.wp
            rcases hr with hr | ⟨hr, rfl⟩
            · rw [hr]; exact hk
            · rw [hr]; exact hk
          refine value hrun ?_
          have hNge : c.w.heap.size ≤ N := hdi.ext.size
          refine ih _ ⟨⟨fun B => c'.F B ∨ B = N, c'.F.G⟩, c'.ι, c'.hp, { c'.w with heap := c'.w.heap.push ob }⟩ _ m pd' hls2 hcnt2 hcl2 ?_
          have hnewt : TRel ⟨⟨fun B => c'.F B ∨ B = N, c'.F.G⟩, c'.ι, c'.hp, { c'.w with heap := c'.w.heap.push ob }⟩ (tmD (fun j => (listed.setIfInBounds i true).getD j false) dst (outP pd' out) s.tm ops.size) (a'.put o.dst (uP p)) := by
            have ht0 : TRel ⟨⟨fun B => c'.F B ∨ B = N, c'.F.G⟩, c'.ι, c'.hp, { c'.w with heap := c'.w.heap.push ob }⟩ (tmD (fun i => listed.getD i false) dst (outP pd out) s.tm ops.size) a' := fun t => mv _ _ (hdi.tm t)
            have := ht0.put (v := outP pd' out i) (u := uP p) (by simp only [outP, hpdi]; exact .v _) (d := o.dst) (by rw [hdi.sz]; exact h6) ⟨tmD (fun i => listed.getD i false) dst (outP pd out) s.tm ops.size, (S m).hp, (S m).nx⟩ rfl (S m).hp (S m).nx
            rw [htm' pd' (S m).hp (S m).nx ⟨tmD (fun i => listed.getD i false) dst (outP pd out) s.tm ops.size, (S m).hp, (S m).nx⟩ hpd' rfl] at this
            exact this
          refine ⟨hdi.mle, fun j rj k1 k2 k3 => ?_, fun j rj k1 k2 k3 => ?_, fun j rj k1 k2 k3 k4 => ?_, fun j q k1 => ?_, fun j j' q q' k1 k2 k3 => ?_, fun B => ?_, hdi.hp, hrel3, hnewt, by rw [put_size]; exact hdi.sz, by rw [put_defers]; exact hdi.df, ?_⟩
          · rw [hD']
            split
            · rfl
            · exact hdi.done j rj k1 k2 k3
          · rw [hD', if_neg]
            · exact hdi.e j rj k1 k2 k3
            · rintro rfl
              rw [h7, Option.some.injEq] at k1; subst k1
              rw [hra] at k2; cases k2
          · by_cases hji : j = i
            · subst hji; rw [hpdi]; rfl
            · rw [hD', if_neg hji] at k4
              rw [hpd' j hji]
              exact hdi.a j rj k1 k2 k3 k4
          · by_cases hji : j = i
            · subst hji
              rw [hpdi, Option.some.injEq] at k1; subst k1
              refine ⟨hle, ⟨r, h7, hra⟩, by rw [hD', if_pos rfl], ⟨⟨mm, es0, g1, by rw [e1, g2], by rw [e2, g3], ob, by rw [hpB]; simp, hfok.move mv⟩, by rw [hpB]; exact hNge⟩, .inr hpB⟩
            · rw [hpd' j hji] at k1
              obtain ⟨q1, q2, q3, q4, q5⟩ := hdi.pend j q k1
              refine ⟨q1, q2, by rw [hD', if_neg hji]; exact q3, q4.to ?_ mv, .inl q5⟩
              exact hgr.keep _ (hdi.rel.F _ q5)
          · have hB : ∀ j q, j ≠ i → pd' j = some q → q.B ≠ N := by
              intro j q hj hq
              rw [hpd' j hj] at hq
              have := hdi.rel.F _ (hdi.pend j q hq).2.2.2.2
              show q.B ≠ c'.w.heap.size
              omega
            by_cases e3 : j = i
            · by_cases e4 : j' = i
              · rw [e3, e4]
              · exfalso
                rw [e3, hpdi, Option.some.injEq] at k1; subst k1
                exact hB j' q' e4 k2 (k3.symm.trans hpB)
            · by_cases e4 : j' = i
              · exfalso
                rw [e4, hpdi, Option.some.injEq] at k2; subst k2
                exact hB j q e3 k1 (k3.trans hpB)
              · rw [hpd' j e3] at k1; rw [hpd' j' e4] at k2
                exact hdi.inj j j' q q' k1 k2 k3
          · show (c'.F B ∨ B = N) ↔ _
            rw [hdi.F B]
            constructor
            · rintro ((h | ⟨j, q, h, hh⟩) | h)
              · exact .inl h
              · have hji : j ≠ i := by rintro rfl; rw [hpi0] at h; cases h
                exact .inr ⟨j, q, by rw [hpd' j hji]; exact h, hh⟩
              · exact .inr ⟨i, p, hpdi, hpB.trans h.symm⟩
            · rintro (h | ⟨j, q, h, hh⟩)
              · exact .inl (.inl h)
              · by_cases hji : j = i
                · subst hji
                  rw [hpdi, Option.some.injEq] at h; subst h
                  exact .inr (hh.symm.trans hpB)
                · rw [hpd' j hji] at h
                  exact .inl (.inr ⟨j, q, h, hh⟩)
          · refine ⟨hdi.ext.ι, Nat.le_trans hdi.ext.size hgr.size, fun B hB hno => ?_, hdi.ext.os, hdi.ext.tape, hdi.ext.output, hdi.ext.G⟩
            obtain ⟨q1, q2⟩ := hdi.ext.keep B hB hno
            exact ⟨q1, (hgr.keep B (Nat.lt_of_lt_of_le hB hdi.ext.size)).trans q2⟩
      · -- not wanted
        rw [h3] at hw
        simp only at hw
        have hw2 := hw
        rw [wantedA_congr (tm' := tmD (fun i => listed.getD i false) dst (outP pd out) s.tm ops.size) hgl] at hw2
        have hwr := wanted_run h5 hw2 hdi.tm
        rw [if_neg (by rw [hwr]; simp)]
        have hsr2 := hsr.put h6 (Ext.refl c') hdi.hp hdi.rel (v := out i) (u := undef) (by rw [hv]; exact .v undef)
        refine ih _ c' _ m pd hls2 hcnt2 hcl2 (next c' _ m undef (Ext.refl c') hdi.rel hdi.hp ?_ hsr2.sz hsr2.df hdi.mle (.inl ⟨by rw [hrk]; rfl, rfl⟩))
        rw [← htm' pd (S m).hp (S m).nx ⟨tmD (fun i => listed.getD i false) dst (outP pd out) s.tm ops.size, (S m).hp, (S m).nx⟩ (fun _ _ => rfl) rfl, hout_i]
        exact hsr2.tm
  refine wp_region_any hm ?_
  have hgr : Grow c.w { c.w with drawn := c.w.drawn + 1 } := ⟨Nat.le_refl _, fun _ _ => rfl, rfl, rfl, rfl⟩
  have he := Ext.of_grow (c := c) (nx := s.nx) hgr
  have hD0 : ∀ j, (Array.replicate ops.size false).getD j false = false := by intro j; simp [Array.getD]
  refine main ops.size (Array.replicate ops.size false) { c with w := { c.w with drawn := c.w.drawn + 1 } } a 0 (fun _ => none) (by simp) ?_ ?_ ⟨by omega, fun j r _ _ h => by omega, fun j r _ _ _ => hD0 j, fun j r _ _ _ h => (by rw [hD0] at h; cases h), fun j p h => (by cases h), fun j j' p p' h => (by cases h), fun B => ?_, by rw [hS0]; exact hs.hp, by rw [hS0]; exact hs.rel.grow hgr, ?_, hs.sz, hs.df, ⟨he.ι, he.size, he.keep, he.os, he.tape, he.output, congrArg Frm.G he.F⟩⟩
  · have : ∀ k, cnt (fun i => (Array.replicate ops.size false).getD i false) k ≤ k := by
      intro k
      induction k with
      | zero => exact Nat.le_refl _
      | succ k ih => simp only [cnt]; split <;> omega
    exact this _
  · intro j o ho h; rw [hD0] at h; cases h
  · constructor
    · exact .inl
    · rintro (h | ⟨_, _, h, _⟩)
      · exact h
      · cases h
  · have : tmD (fun i => (Array.replicate ops.size false).getD i false) dst (outP (fun _ => none) out) s.tm ops.size = s.tm := by
      have : ∀ k, tmD (fun i => (Array.replicate ops.size false).getD i false) dst (outP (fun _ => none) out) s.tm k = s.tm := by
        intro k
        induction k with
        | zero => rfl
        | succ k ih => simp only [tmD]; rw [if_neg (by rw [hD0]; simp)]; exact ih
      exact this _
    rw [this]
    exact hs.tm.mono he

end Go.Ai
