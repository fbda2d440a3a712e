/- Regions that draw their order: whatever order the edges allow comes to the same. -/
import Derived.Test.YtdhbiimmifedmaaAiCode
import Derived.Orders
namespace Go.Ai
set_option linter.unusedVariables false
set_option linter.unusedSimpArgs false

/-! ### What an operation looks at -/
section
variable {tm tm' : Nat → AV}

theorem ev_congr {x : Opd} (h : ∀ t ∈ x.tms, tm t = tm' t) : ev tm x = ev tm' x := by
  cases x with
  | t n => exact h n (by simp [Opd.tms])
  | c x => rfl
theorem evo_congr {x : Option Opd} (h : ∀ t ∈ otms x, tm t = tm' t) : evo tm x = evo tm' x := by
  cases x with
  | none => rfl
  | some x => exact congrArg some (ev_congr h)
theorem evl_congr {l : List Opd} (h : ∀ t ∈ ltms l, tm t = tm' t) : l.map (ev tm) = l.map (ev tm') :=
  List.map_congr_left fun x hx => ev_congr fun t ht => h t (List.mem_flatMap.2 ⟨x, hx, ht⟩)

theorem build_congr {ps : List (Nat × Nat × Opd)} (h : ∀ t ∈ ltms (ps.map (·.2.2)), tm t = tm' t) : (ps.map fun p => (p.1, p.2.1, ev tm p.2.2)) = (ps.map fun p => (p.1, p.2.1, ev tm' p.2.2)) :=
  List.map_congr_left fun p hp => by
    rw [ev_congr (tm := tm) (tm' := tm') fun t ht => h t (List.mem_flatMap.2 ⟨p.2.2, List.mem_map.2 ⟨p, hp, rfl⟩, ht⟩)]
theorem bslice_congr {ps : List (Nat × Opd)} (h : ∀ t ∈ ltms (ps.map (·.2)), tm t = tm' t) : (ps.map fun p => (p.1, ev tm p.2)) = (ps.map fun p => (p.1, ev tm' p.2)) :=
  List.map_congr_left fun p hp => by
    rw [ev_congr (tm := tm) (tm' := tm') fun t ht => h t (List.mem_flatMap.2 ⟨p.2, List.mem_map.2 ⟨p, hp, rfl⟩, ht⟩)]

theorem evP_congr {co : COp} (h : ∀ t ∈ co.tms, tm t = tm' t) : evP tm co = evP tm' co := by
  cases co <;> simp only [COp.tms, List.mem_append] at h <;> (try rfl)
  case pick c a b => simp only [evP, ev_congr (x := c) fun t ht => h t (.inl (.inl ht)), ev_congr (x := a) fun t ht => h t (.inl (.inr ht)), ev_congr (x := b) fun t ht => h t (.inr ht)]
  case build z ps => simp only [evP, build_congr h]
  case bslice o sz z ps => cases o <;> simp only [evP, bslice_congr h]
  case sslice x lo hi => simp only [evP, ev_congr (x := x) fun t ht => h t (.inl (.inl ht)), evo_congr (x := lo) fun t ht => h t (.inl (.inr ht)), evo_congr (x := hi) fun t ht => h t (.inr ht)]
  case slice n x lo hi mx => simp only [evP, ev_congr (x := x) fun t ht => h t (.inl (.inl (.inl ht))), evo_congr (x := lo) fun t ht => h t (.inl (.inl (.inr ht))), evo_congr (x := hi) fun t ht => h t (.inl (.inr ht)), evo_congr (x := mx) fun t ht => h t (.inr ht)]
  case mkfn f a b => simp only [evP, evl_congr (l := a) fun t ht => h t (.inl ht), evl_congr (l := b) fun t ht => h t (.inr ht)]
  all_goals first
    | (rename_i x y; simp only [evP, ev_congr (x := x) fun t ht => h t (.inl ht), ev_congr (x := y) fun t ht => h t (.inr ht)]; done)
    | (rename_i x; simp only [evP, ev_congr (x := x) h]; done)
    | (rename_i x _; simp only [evP, ev_congr (x := x) h]; done)

theorem evR_congr {co : COp} {hp hp' : Heap} {v : AV} {r : Nat} (h : ∀ t ∈ co.tms, tm t = tm' t) (he : evR tm hp co = some (v, r)) (hr : hp r = hp' r) : evR tm' hp' co = some (v, r) := by
  cases co <;> simp only [COp.tms] at h <;> (try (simp [evR] at he; done))
  case load n x =>
    simp only [evR] at he ⊢
    rw [← ev_congr (tm := tm) (tm' := tm') (x := x) h]
    split at he
    · split at he
      · rename_i es hes
        split at he
        · rename_i l hl
          simp only [Option.map_eq_some_iff, Prod.mk.injEq] at he
          obtain ⟨v', h1, rfl, rfl⟩ := he
          rw [← hr, hes]
          simp [hl, h1]
        · simp at he
      · simp at he
    · simp at he
  case b2s x =>
    simp only [evR] at he ⊢
    rw [← ev_congr (tm := tm) (tm' := tm') (x := x) h]
    split at he
    · split at he
      · rename_i es hes
        split at he
        · rename_i hc
          simp only [Option.map_eq_some_iff, Prod.mk.injEq] at he
          obtain ⟨v', h1, rfl, rfl⟩ := he
          rw [← hr, hes]
          simp [hc, h1]
        · simp at he
      · simp at he
    · simp at he
  case tou x =>
    simp only [evR] at he ⊢
    rw [← ev_congr (tm := tm) (tm' := tm') (x := x) h]
    split at he
    · split at he
      · rename_i l0 lr es hes
        simp only [Option.some.injEq, Prod.mk.injEq] at he
        obtain ⟨rfl, rfl⟩ := he
        rw [← hr, hes]
      · simp at he
    · simp at he
  case ofu t k x =>
    simp only [evR] at he ⊢
    rw [← ev_congr (tm := tm) (tm' := tm') (x := x) h]
    split at he
    · split at he
      · rename_i t' k' hes
        split at he
        · rename_i hc
          simp only [Option.some.injEq, Prod.mk.injEq] at he
          obtain ⟨rfl, rfl⟩ := he
          rw [← hr, hes]
          simp [hc]
        · simp at he
      · simp at he
    · simp at he

theorem evR_none {co : COp} {hp : Heap} (h : ∀ t ∈ co.tms, tm t = tm' t) (he : evR tm hp co = none) : evR tm' hp co = none := by
  cases hq : evR tm' hp co with
  | none => rfl
  | some x =>
    obtain ⟨v, r⟩ := x
    have := evR_congr (tm := tm') (tm' := tm) (hp' := hp) (fun t ht => (h t ht).symm) hq rfl
    rw [this] at he; simp at he

theorem evE_congr {co : COp} {hp : Heap} {nx : Nat} (h : ∀ t ∈ co.tms, tm t = tm' t) : evE tm hp nx co = evE tm' hp nx co := by
  cases co <;> simp only [COp.tms, List.mem_append] at h <;> (try rfl)
  case bslice o sz z ps => cases o <;> simp only [evE, bslice_congr h]
  all_goals first
    | (rename_i x y; simp only [evE, ev_congr (x := x) fun t ht => h t (.inl ht), ev_congr (x := y) fun t ht => h t (.inr ht)]; done)
    | (rename_i x; simp only [evE, ev_congr (x := x) h]; done)
    | (rename_i x _; simp only [evE, ev_congr (x := x) h]; done)

theorem wantedA_congr {g : Option (Nat × Bool)} (h : ∀ d w, g = some (d, w) → tm d = tm' d) : wantedA tm g = wantedA tm' g := by
  cases g with
  | none => rfl
  | some x => obtain ⟨d, w⟩ := x; simp only [wantedA, h d w rfl]
end

/-- Just one outcome. -/
def Just (v : AV) (hp : Heap) (nx : Nat) (k : Kd) : AV → Heap → Nat → Kd → Prop := fun v' hp' nx' k' => v' = v ∧ hp' = hp ∧ nx' = nx ∧ k' = k

theorem WOp_ex {R : CallRel} {co : COp} {s : St} {K : AV → Heap → Nat → Kd → Prop} (h : WOp R co s K) : ∃ v hp nx k, WOp R co s (Just v hp nx k) ∧ K v hp nx k := by
  unfold WOp at h ⊢
  split at h
  · obtain ⟨v, hp, nx, k, hr, hk⟩ := h
    exact ⟨v, hp, nx, k, ⟨v, hp, nx, k, hr, rfl, rfl, rfl, rfl⟩, hk⟩
  · split at h
    · obtain ⟨v, hp, nx, k, hr, hk⟩ := h
      exact ⟨v, hp, nx, k, ⟨v, hp, nx, k, hr, rfl, rfl, rfl, rfl⟩, hk⟩
    · exact h.elim
  · split at h
    · exact ⟨_, _, _, _, ⟨rfl, rfl, rfl, rfl⟩, h⟩
    · split at h
      · exact ⟨_, _, _, _, ⟨rfl, rfl, rfl, rfl⟩, h⟩
      · split at h
        · exact ⟨_, _, _, _, ⟨rfl, rfl, rfl, rfl⟩, h⟩
        · exact h.elim

/-- An operation done elsewhere: where what it looks at is the same. -/
theorem WOp_move {P : Program} {R : CallRel} (hR : RelSound P R) {co : COp} {s s' : St} {v : AV} {hp : Heap} {nx : Nat} {k : Kd} (h : WOp R co s (Just v hp nx k)) (ht : ∀ t ∈ co.tms, s.tm t = s'.tm t) :
    (k = .p → hp = s.hp ∧ nx = s.nx ∧ WOp R co s' (Just v s'.hp s'.nx .p)) ∧ (∀ x, k = .r x → hp = s.hp ∧ nx = s.nx ∧ (s.hp x = s'.hp x → WOp R co s' (Just v s'.hp s'.nx (.r x)))) ∧
    (k = .e → s.hp = s'.hp → s.nx = s'.nx → WOp R co s' (Just v hp nx .e)) := by
  have call : ∀ {f : Nat} {args : List AV}, WCall R f args s.hp s.nx (Just v hp nx k) →
      (k = .p → hp = s.hp ∧ nx = s.nx ∧ WCall R f args s'.hp s'.nx (Just v s'.hp s'.nx .p)) ∧ (∀ x, k = .r x → hp = s.hp ∧ nx = s.nx ∧ (s.hp x = s'.hp x → WCall R f args s'.hp s'.nx (Just v s'.hp s'.nx (.r x)))) ∧
      (k = .e → s.hp = s'.hp → s.nx = s'.nx → WCall R f args s'.hp s'.nx (Just v hp nx .e)) := by
    rintro f args ⟨v1, hp1, nx1, k1, hr, rfl, rfl, rfl, rfl⟩
    refine ⟨?_, ?_, ?_⟩
    · rintro rfl
      obtain ⟨g1, g2, g3⟩ := hR.pure _ _ _ _ _ _ _ hr
      exact ⟨g1, g2, _, _, _, _, g3 _ _, rfl, rfl, rfl, rfl⟩
    · rintro x rfl
      rcases hR.kind _ _ _ _ _ _ _ _ hr with h | h <;> cases h
    · rintro rfl e1 e2
      exact ⟨_, _, _, _, by rw [← e1, ← e2]; exact hr, rfl, rfl, rfl, rfl⟩
  unfold WOp at h ⊢
  split at h
  · rename_i f args
    rw [← evl_congr (tm := s.tm) (tm' := s'.tm) (l := args) (by simpa [COp.tms] using ht)]
    exact call h
  · rename_i g args
    simp only [COp.tms, List.mem_append] at ht
    split at h
    · rename_i f first cap hg
      rw [ev_congr (tm := s.tm) (tm' := s'.tm) (x := g) fun t h => ht t (.inl h)] at hg
      simp only [hg]
      rw [← evl_congr (tm := s.tm) (tm' := s'.tm) (l := args) fun t h => ht t (.inr h)]
      exact call h
    · exact h.elim
  · have e1 := evP_congr (tm := s.tm) (tm' := s'.tm) ht
    split at h
    · rename_i v1 hv
      obtain ⟨rfl, rfl, rfl, rfl⟩ := h
      rw [e1] at hv
      simp only [hv]
      refine ⟨fun _ => ?_, fun x h => (by cases h), fun h => (by cases h)⟩
      simp [Just]
    · rename_i hn
      rw [e1] at hn
      simp only [hn]
      split at h
      · rename_i v1 r1 hv
        obtain ⟨rfl, rfl, rfl, rfl⟩ := h
        refine ⟨fun h => (by cases h), ?_, fun h => (by cases h)⟩
        rintro x h
        cases h
        refine ⟨rfl, rfl, fun hx => ?_⟩
        rw [evR_congr ht hv hx]
        exact ⟨rfl, rfl, rfl, rfl⟩
      · rename_i hn2
        split at h
        · rename_i v1 hp1 nx1 hv
          obtain ⟨rfl, rfl, rfl, rfl⟩ := h
          refine ⟨fun h => (by cases h), fun x h => (by cases h), fun _ e2 e3 => ?_⟩
          rw [← e2, ← e3, evR_none ht hn2, ← evE_congr ht, hv]
          exact ⟨rfl, rfl, rfl, rfl⟩
        · exact h.elim

/-! ### The trace of a region, walked in the text's order -/

/-- One operation of the walk. -/
def StepOk (R : CallRel) (co : COper) (s : St) (v : AV) (r : Rec) (s' : St) : Prop :=
  (wantedA s.tm co.guard = some true ∧ ∃ hp nx k, WOp R co.op s (Just v hp nx k) ∧ s' = s.put co.dst v hp nx ∧ r = ⟨k, s.hp, hp⟩) ∨
  (wantedA s.tm co.guard = some false ∧ v = .v undef ∧ s' = s.put co.dst (.v undef) s.hp s.nx ∧ r = ⟨.p, s.hp, s.hp⟩)

theorem WDraw_trace {R : CallRel} : ∀ (cl : List COper) (s : St) (recs : List Rec) {K : St → List Rec → Prop}, WDraw R cl s recs K →
    ∃ (S : Nat → St) (out : Nat → AV) (rs : List Rec), S 0 = s ∧ rs.length = cl.length ∧ (∀ (i : Nat) (co : COper) (r : Rec), cl[i]? = some co → rs[i]? = some r → StepOk R co (S i) (out i) r (S (i + 1))) ∧ K (S cl.length) (recs ++ rs)
  | [], s, recs, K, h => ⟨fun _ => s, fun _ => .v undef, [], rfl, rfl, fun i co r h => by simp at h, by simpa [WDraw] using h⟩
  | o :: cl, s, recs, K, h => by
    have step : ∀ (v : AV) (r : Rec) (s' : St), StepOk R o s v r s' → WDraw R cl s' (recs ++ [r]) K →
        ∃ (S : Nat → St) (out : Nat → AV) (rs : List Rec), S 0 = s ∧ rs.length = (o :: cl).length ∧ (∀ (i : Nat) (co : COper) (r : Rec), (o :: cl)[i]? = some co → rs[i]? = some r → StepOk R co (S i) (out i) r (S (i + 1))) ∧ K (S (o :: cl).length) (recs ++ rs) := by
      intro v r s' hst hw
      obtain ⟨S, out, rs, h1, h2, h3, h4⟩ := WDraw_trace cl s' (recs ++ [r]) hw
      refine ⟨fun n => match n with | 0 => s | n + 1 => S n, fun n => match n with | 0 => v | n + 1 => out n, r :: rs, rfl, by simp [h2], ?_, ?_⟩
      · intro i co r' hi hr
        cases i with
        | zero =>
          simp at hi hr; subst hi; subst hr
          show StepOk R o s v r (S 0)
          rw [h1]; exact hst
        | succ i => exact h3 i co r' (by simpa using hi) (by simpa using hr)
      · simpa using h4
    unfold WDraw at h
    split at h
    · rename_i hw
      obtain ⟨v, hp, nx, k, h1, h2⟩ := WOp_ex h
      exact step v ⟨k, s.hp, hp⟩ _ (.inl ⟨hw, hp, nx, k, h1, rfl, rfl⟩) h2
    · rename_i hw
      exact step (.v undef) ⟨.p, s.hp, s.hp⟩ _ (.inr ⟨hw, rfl, rfl, rfl⟩) h
    · exact h.elim

theorem calm_one (p : List Nat) (b : Rec) : ∀ (l : List Rec) (i : Nat), calmAll.one p b l i → ∀ (k : Nat) (a : Rec), l[k]? = some a → i + k ∈ p ∨ calm2 a b
  | [], i, _, k, a, h => by simp at h
  | x :: r, i, hc, k, a, h => by
    simp only [calmAll.one] at hc
    cases k with
    | zero =>
      simp at h; subst h
      rw [Nat.add_zero]
      by_cases hp : p.contains i = true
      · left; simpa using hp
      · right; have := hc.1; rw [if_neg hp] at this; exact this
    | succ k =>
      have := calm_one p b r (i + 1) hc.2 k a (by simpa using h)
      rwa [show i + 1 + k = i + (k + 1) by omega] at this

theorem calm_go : ∀ (pre : List (List Nat)) (recs done : List Rec) (j : Nat), calmAll.go pre recs done j → ∀ (q : Nat) (b : Rec), recs[q]? = some b → ∀ (i : Nat) (a : Rec), (done ++ recs)[i]? = some a → i < done.length + q → i ∈ pre.getD q [] ∨ calm2 a b
  | pre, [], done, j, _, q, b, hb, _, _, _, _ => by simp at hb
  | [], r :: rest, done, j, h, _, _, _, _, _, _, _ => by simp [calmAll.go] at h
  | p :: ps, r :: rest, done, j, h, q, b, hb, i, a, ha, hi => by
    simp only [calmAll.go] at h
    cases q with
    | zero =>
      simp at hb; subst hb
      have := calm_one p r done 0 h.1 i a (by rw [List.getElem?_append_left (by omega)] at ha; exact ha)
      simpa using this
    | succ q =>
      have := calm_go ps rest (done ++ [r]) (j + 1) h.2 q b (by simpa using hb) i a (by rw [List.append_assoc]; simpa using ha) (by simp; omega)
      simpa using this

theorem calm_spec {pre : List (List Nat)} {recs : List Rec} (h : calmAll pre recs) {i j : Nat} {a b : Rec} (hij : i < j) (ha : recs[i]? = some a) (hb : recs[j]? = some b) : i ∈ pre.getD j [] ∨ calm2 a b :=
  calm_go pre recs [] 0 h j b hb i a (by simpa using ha) (by simpa using hij)

/-! ### Some of a region's operations done -/

/-- The temporaries when those of 'D' among the first k operations are done. -/
def tmD (D : Nat → Bool) (dst : Nat → Option Nat) (out : Nat → AV) (t0 : Nat → AV) : Nat → Nat → AV
  | 0 => t0
  | k + 1 => if D k then (match dst k with | some d => tupd (tmD D dst out t0 k) d (out k) | none => tmD D dst out t0 k) else tmD D dst out t0 k

theorem tmD_step {E : Nat → Bool} {dst : Nat → Option Nat} {out : Nat → AV} {t0 : Nat → AV} {t k : Nat} (hd : dst k ≠ some t) : tmD E dst out t0 (k + 1) t = tmD E dst out t0 k t := by
  simp only [tmD]
  split
  · cases h : dst k with
    | none => rfl
    | some d =>
      show tupd _ d _ t = _
      unfold tupd
      rw [if_neg]
      rintro rfl; exact hd h
  · rfl

theorem tmD_congr {D D' : Nat → Bool} {dst : Nat → Option Nat} {out : Nat → AV} {t0 : Nat → AV} {t : Nat} : ∀ (k : Nat), (∀ j, j < k → dst j = some t → D j = D' j) → tmD D dst out t0 k t = tmD D' dst out t0 k t
  | 0, _ => rfl
  | k + 1, h => by
    have ih := tmD_congr (D := D) (D' := D') (dst := dst) (out := out) (t0 := t0) (t := t) k (fun j hj hd => h j (by omega) hd)
    by_cases hd : dst k = some t
    · simp only [tmD, hd, h k (by omega) hd]
      split
      · simp [tupd]
      · exact ih
    · rw [tmD_step hd, tmD_step hd]; exact ih

theorem tmD_below {dst : Nat → Option Nat} {out : Nat → AV} {t0 : Nat → AV} (i : Nat) : ∀ (k : Nat), i ≤ k → tmD (fun j => decide (j < i)) dst out t0 k = tmD (fun _ => true) dst out t0 i
  | 0, h => by
    have : i = 0 := by omega
    subst this; rfl
  | k + 1, h => by
    by_cases hi : i = k + 1
    · subst hi
      funext t
      exact tmD_congr (k + 1) (fun j hj _ => by simp; omega)
    · have ih := tmD_below (dst := dst) (out := out) (t0 := t0) i k (by omega)
      simp only [tmD]
      rw [if_neg (by simp; omega)]
      exact ih

theorem tmD_last {E : Nat → Bool} {dst : Nat → Option Nat} {out : Nat → AV} {t0 : Nat → AV} {i d : Nat} (hi : E i = true) (hd : dst i = some d) : ∀ k, i < k → (∀ j, i < j → j < k → dst j = some d → E j = false) → tmD E dst out t0 k d = out i
  | 0, h, _ => by omega
  | k + 1, hk, h => by
    by_cases hik : i = k
    · subst hik
      simp [tmD, hi, hd, tupd]
    · have ih := tmD_last (out := out) (t0 := t0) hi hd k (by omega) (fun j h1 h2 => h j h1 (by omega))
      by_cases hdk : dst k = some d
      · simp only [tmD, h k (by omega) (by omega) hdk]
        simpa using ih
      · rw [tmD_step hdk]; exact ih

theorem getD_tf {l : Array Bool} {j : Nat} (h : j < l.size) : l.getD j true = l.getD j false := by
  simp [Array.getD, h]

theorem getD_set {l : Array Bool} {i j : Nat} (h : i < l.size) : (l.setIfInBounds i true).getD j false = if j = i then true else l.getD j false := by
  split
  · rename_i e; subst e; simp [h]
  · rename_i e; simp [Array.getElem?_setIfInBounds_ne (fun h => e h.symm)]

/-- How many are not done yet. -/
def cnt (D : Nat → Bool) : Nat → Nat
  | 0 => 0
  | k + 1 => cnt D k + if D k then 0 else 1

theorem cnt_le {D D' : Nat → Bool} (h : ∀ j, D j = true → D' j = true) : ∀ k, cnt D' k ≤ cnt D k
  | 0 => Nat.le_refl _
  | k + 1 => by
    have ih := cnt_le h k
    simp only [cnt]
    by_cases hd : D k = true
    · rw [if_pos hd, if_pos (h k hd)]; exact ih
    · rw [if_neg hd]; split <;> omega

theorem cnt_lt {D D' : Nat → Bool} (h : ∀ j, D j = true → D' j = true) {i : Nat} (hi : D i = false) (hi' : D' i = true) : ∀ k, i < k → cnt D' k < cnt D k
  | 0, h0 => by omega
  | k + 1, hk => by
    simp only [cnt]
    by_cases hik : i = k
    · subst hik
      have := cnt_le h i
      rw [hi, hi']; simp; omega
    · have ih := cnt_lt h hi hi' k (by omega)
      by_cases hd : D k = true
      · rw [if_pos hd, if_pos (h k hd)]; omega
      · rw [if_neg hd]; split <;> omega

theorem cnt_zero {D : Nat → Bool} : ∀ k, cnt D k = 0 → ∀ j, j < k → D j = true
  | 0, _, j, hj => by omega
  | k + 1, h, j, hj => by
    simp only [cnt] at h
    by_cases hd : D k = true
    · by_cases hjk : j = k
      · subst hjk; exact hd
      · exact cnt_zero k (by omega) j (by omega)
    · rw [if_neg hd] at h; omega

/-- The order in which a region's operations are done does not matter. -/
theorem drawSound {P : Program} (hm : P.follows .mixedOrders = true) {R : CallRel} (hR : RelSound P R) : DrawSound P R := by
  intro nt own id ops cl c s a Q Q' hcl hok hs hW hQ
  simp only [Bool.and_eq_true] at hok
  obtain ⟨hpre, htok⟩ := hok
  obtain ⟨S, out, rs, hS0, hrl, hstep, hcalm, hQn⟩ := WDraw_trace cl s [] hW
  rw [List.nil_append] at hcalm
  have hn : cl.length = ops.size := by
    have key : ∀ (l : List Oper) (i : Nat) (cl : List COper), compOpers P nt own ops l i = some cl → cl.length = l.length := by
      intro l
      induction l with
      | nil => intro i cl h; simp only [compOpers, Option.some.injEq] at h; subst h; rfl
      | cons o r ih =>
        intro i cl h
        simp only [compOpers] at h
        split at h
        · rename_i co l' h1 h2
          simp only [Option.some.injEq] at h; subst h
          simp [ih _ _ h2]
        · simp at h
    simpa using key _ _ _ hcl
  have hcomp : ∀ (i : Nat) (o : Oper), ops[i]? = some o → ∃ co, cl[i]? = some co ∧ compOper P nt (own i) ops o = some co := by
    have key : ∀ (l : List Oper) (k : Nat) (cl : List COper), compOpers P nt own ops l k = some cl → ∀ (i : Nat) (o : Oper), l[i]? = some o → ∃ co, cl[i]? = some co ∧ compOper P nt (own (k + i)) ops o = some co := by
      intro l
      induction l with
      | nil => intro k cl h i o hi; simp at hi
      | cons x r ih =>
        intro k cl h i o hi
        simp only [compOpers] at h
        split at h
        · rename_i co l' h1 h2
          simp only [Option.some.injEq] at h; subst h
          cases i with
          | zero => simp at hi; subst hi; exact ⟨co, rfl, h1⟩
          | succ i =>
            obtain ⟨co', h3, h4⟩ := ih (k + 1) l' h2 i o (by simpa using hi)
            exact ⟨co', by simpa using h3, by rw [show k + (i + 1) = k + 1 + i by omega]; exact h4⟩
        · simp at h
    intro i o hi
    obtain ⟨co, h1, h2⟩ := key _ _ _ hcl i o (by simpa using hi)
    rw [Nat.zero_add] at h2
    exact ⟨co, h1, h2⟩
  let pre := preOf ops
  let dst : Nat → Option Nat := fun i => (cl[i]?).bind (·.dst)
  -- what 'pre' says
  have hback : ∀ (j : Nat) (o : Oper), ops[j]? = some o → ∀ e ∈ o.after, Region.binds .any e = true → e.on < j := by
    intro j o ho e he hb
    have hj := (Array.getElem?_eq_some_iff.1 ho).1
    simp only [preOk, List.all_eq_true, List.mem_range] at hpre
    have := hpre j hj
    simp only [ho, Bool.and_eq_true, List.all_eq_true, Bool.or_eq_true, Bool.not_eq_true', decide_eq_true_eq] at this
    rcases this.1 e (by simpa using he) with h | h
    · rw [hb] at h; cases h
    · exact h
  have hprespec : ∀ (j : Nat) (o : Oper), ops[j]? = some o → ∀ i ∈ pre.getD j [], i < j ∧ ∃ e ∈ o.after, Region.binds .any e = true ∧ (e.on = i ∨ i ∈ pre.getD e.on []) := by
    intro j o ho i hi
    have hj := (Array.getElem?_eq_some_iff.1 ho).1
    simp only [preOk, List.all_eq_true, List.mem_range] at hpre
    have := hpre j hj
    simp only [ho, Bool.and_eq_true, List.all_eq_true, decide_eq_true_eq, List.any_eq_true, Bool.or_eq_true, beq_iff_eq] at this
    obtain ⟨h1, e, he, hb, h2⟩ := this.2 i hi
    refine ⟨h1, e, by simpa using he, hb, h2.imp (fun h => h) (fun h => by simpa using h)⟩
  have htemps : ∀ (i j : Nat) (x y : COper) (d : Nat), i ≠ j → cl[i]? = some x → cl[j]? = some y → x.dst = some d → (d ∈ y.looks ∨ y.dst = some d) → i ∈ pre.getD j [] ∨ j ∈ pre.getD i [] := by
    intro i j x y d hij hx hy hd hl
    simp only [tempsOk, List.all_eq_true, List.mem_range] at htok
    have := htok i (List.getElem?_eq_some_iff.1 hx).1 j (List.getElem?_eq_some_iff.1 hy).1
    simp only [hx, hy, hd, Bool.or_eq_true, beq_iff_eq, hij, false_or, Bool.not_eq_true', Bool.or_eq_false_iff] at this
    rcases this with (h | h) | h
    · exfalso
      rcases hl with hl | hl
      · have h1 := h.1; simp [hl] at h1
      · have h2 := h.2; simp [hl] at h2
    · left; simpa using h
    · right; simpa using h
  -- the walk's states
  have hco : ∀ i, i < ops.size → ∃ o co cop g r, ops[i]? = some o ∧ cl[i]? = some co ∧ co = ⟨o.dst, cop, g⟩ ∧ compOp' P (own i) o = some cop ∧ compGuard ops o.guard = some g ∧ o.dst.all (· < nt) = true ∧ rs[i]? = some r ∧ StepOk R co (S i) (out i) r (S (i + 1)) := by
    intro i hi
    obtain ⟨co, h1, h2⟩ := hcomp i ops[i] (Array.getElem?_eq_getElem hi)
    unfold compOper at h2
    split at h2
    · rename_i cop g hc hg
      split at h2
      · rename_i hd
        simp only [Option.some.injEq] at h2
        have hr : i < rs.length := by omega
        exact ⟨ops[i], co, cop, g, rs[i], Array.getElem?_eq_getElem hi, h1, h2.symm, hc, hg, hd, List.getElem?_eq_getElem hr, hstep i co _ h1 (List.getElem?_eq_getElem hr)⟩
      · simp at h2
    · simp at h2
  have hdst : ∀ i o, ops[i]? = some o → dst i = o.dst := by
    intro i o ho
    have hi := (Array.getElem?_eq_some_iff.1 ho).1
    obtain ⟨o', co, cop, g, r, h1, h2, h3, _⟩ := hco i hi
    rw [ho, Option.some.injEq] at h1; subst h1
    simp only [dst, h2, Option.bind_some, h3]
  have hStm : ∀ i, i ≤ ops.size → (S i).tm = tmD (fun _ => true) dst out s.tm i := by
    intro i
    induction i with
    | zero => intro _; rw [hS0]; rfl
    | succ i ih =>
      intro hi
      obtain ⟨o, co, cop, g, r, h1, h2, h3, h4, h5, h6, h7, h8⟩ := hco i (by omega)
      have hd := hdst i o h1
      have hput : ∀ (v : AV) (hp : Heap) (nx : Nat), v = out i → ((S i).put co.dst v hp nx).tm = tmD (fun _ => true) dst out s.tm (i + 1) := by
        intro v hp nx hv
        subst hv
        simp only [tmD, if_true, hd, h3]
        cases o.dst with
        | none => simp only [St.put]; exact ih (by omega)
        | some d => simp only [St.put]; rw [ih (by omega)]
      rcases h8 with ⟨_, hp, nx, k, _, e, _⟩ | ⟨_, hv, e, _⟩
      · rw [e]; exact hput _ _ _ rfl
      · rw [e]; exact hput _ _ _ hv.symm
  have hrec : ∀ i r, rs[i]? = some r → r.hp = (S i).hp ∧ r.hp' = (S (i + 1)).hp ∧ ((∀ h : r.k = .e, False) → (S (i + 1)).hp = (S i).hp ∧ (S (i + 1)).nx = (S i).nx) := by
    intro i r hr
    have hi : i < ops.size := by have := (List.getElem?_eq_some_iff.1 hr).1; omega
    obtain ⟨o, co, cop, g, r', h1, h2, h3, h4, h5, h6, h7, h8⟩ := hco i hi
    rw [hr, Option.some.injEq] at h7; subst h7
    have hph : ∀ (d : Option Nat) (v : AV) (hp : Heap) (nx : Nat), ((S i).put d v hp nx).hp = hp ∧ ((S i).put d v hp nx).nx = nx := by intro d v hp nx; cases d <;> exact ⟨rfl, rfl⟩
    rcases h8 with ⟨_, hp, nx, k, hw, e, rfl⟩ | ⟨_, hv, e, rfl⟩
    · rw [e]
      refine ⟨rfl, ((hph _ _ _ _).1).symm, fun hne => ?_⟩
      rw [(hph _ _ _ _).1, (hph _ _ _ _).2]
      obtain ⟨m1, m2, m3⟩ := WOp_move (P := P) hR (s' := S i) hw (fun _ _ => rfl)
      cases k with
      | p => exact ⟨(m1 rfl).1, (m1 rfl).2.1⟩
      | r x => exact ⟨(m2 x rfl).1, (m2 x rfl).2.1⟩
      | e => exact (hne rfl).elim
    · rw [e]
      exact ⟨rfl, ((hph _ _ _ _).1).symm, fun _ => ⟨(hph _ _ _ _).1, (hph _ _ _ _).2⟩⟩
  -- from one state to another, if no effect lies between
  have hbetween : ∀ d i, i + d ≤ ops.size → (∀ j r, i ≤ j → j < i + d → rs[j]? = some r → r.k = .e → False) → (S (i + d)).hp = (S i).hp ∧ (S (i + d)).nx = (S i).nx := by
    intro d
    induction d with
    | zero => intro i _ _; exact ⟨rfl, rfl⟩
    | succ d ih =>
      intro i hle hno
      obtain ⟨h1, h2⟩ := ih i (by omega) (fun j r h3 h4 => hno j r h3 (by omega))
      have hlt : i + d < rs.length := by omega
      obtain ⟨_, _, h3⟩ := hrec (i + d) _ (List.getElem?_eq_getElem hlt)
      obtain ⟨h4, h5⟩ := h3 (fun h => hno (i + d) _ (by omega) (by omega) (List.getElem?_eq_getElem hlt) h)
      exact ⟨h4.trans h1, h5.trans h2⟩
  have hbetweenX : ∀ x d i, i + d ≤ ops.size → (∀ j r, i ≤ j → j < i + d → rs[j]? = some r → r.k = .e → r.hp x = r.hp' x) → (S (i + d)).hp x = (S i).hp x := by
    intro x d
    induction d with
    | zero => intro i _ _; rfl
    | succ d ih =>
      intro i hle hno
      have h1 := ih i (by omega) (fun j r h3 h4 => hno j r h3 (by omega))
      have hlt : i + d < rs.length := by omega
      obtain ⟨g1, g2, h3⟩ := hrec (i + d) _ (List.getElem?_eq_getElem hlt)
      by_cases hk : (rs[i + d]).k = .e
      · have := hno (i + d) _ (by omega) (by omega) (List.getElem?_eq_getElem hlt) hk
        rw [g1, g2] at this
        exact this.symm.trans h1
      · obtain ⟨h4, _⟩ := h3 hk
        rw [show i + (d + 1) = i + d + 1 by omega, h4]; exact h1
  -- what is done stands on what is done
  have preD : ∀ (listed : Array Bool), (∀ (j : Nat) (o : Oper), ops[j]? = some o → listed.getD j false = true → ∀ e ∈ o.after, Region.binds .any e = true → listed.getD e.on false = true) →
      ∀ (b j : Nat), j < b → j < ops.size → listed.getD j false = true → ∀ i ∈ pre.getD j [], listed.getD i false = true := by
    intro listed hcl' b
    induction b with
    | zero => intro j h; omega
    | succ b ih =>
      intro j hjb hj hD i hi
      have ho := Array.getElem?_eq_getElem hj
      obtain ⟨_, e, he, hb, h2⟩ := hprespec j _ ho i hi
      have h3 := hcl' j _ ho hD e he hb
      have h4 := hback j _ ho e he hb
      rcases h2 with rfl | h2
      · exact h3
      · exact ih e.on (by omega) (by omega) h3 i h2
  have allD : ∀ (listed : Array Bool), listed.size = ops.size → Region.ready .any ops listed = [] → ∀ (b j : Nat), j < b → j < ops.size → listed.getD j false = true := by
    intro listed hls hr b
    induction b with
    | zero => intro j h; omega
    | succ b ih =>
      intro j hjb hj
      have ho := Array.getElem?_eq_getElem hj
      cases hD : listed.getD j false with
      | true => rfl
      | false =>
        have : j ∈ Region.ready .any ops listed := mem_ready.2 ⟨by rw [getD_tf (by omega)]; exact hD, _, ho, fun e he hb => ih e.on (by have := hback j _ ho e he hb; omega) (by have := hback j _ ho e he hb; omega)⟩
        rw [hr] at this; cases this
  have fin : ∀ (listed : Array Bool) (c' : Cx) (a' : Act), (∀ j, j < ops.size → listed.getD j false = true) →
      TRel c' (tmD (fun i => listed.getD i false) dst out s.tm ops.size) a' → a'.tmps.size = nt → a'.defers = [] → Ext c c' →
      (∃ m, m ≤ ops.size ∧ (∀ j r, rs[j]? = some r → r.k = .e → (listed.getD j false = true ↔ j < m)) ∧ c'.hp = (S m).hp ∧ HRel c' (S m).nx) → Q' .normal a' c'.w := by
    rintro listed c' a' hall ht hsz hdf hext ⟨m, hmle, hme, hhp, hrel⟩
    obtain ⟨g1, g2⟩ := hbetween (ops.size - m) m (by omega) (fun j r h1 h2 h3 h4 => by
      have := (hme j r h3 h4).1 (hall j (by omega)); omega)
    rw [show m + (ops.size - m) = ops.size by omega] at g1 g2
    refine hQ (S ops.size) c' a' (by rw [← hn]; exact hQn) ⟨?_, hsz, hdf, by rw [hhp, g1], by rw [g2]; exact hrel⟩ hext
    rw [hStm ops.size (Nat.le_refl _)]
    have : tmD (fun i => listed.getD i false) dst out s.tm ops.size = tmD (fun _ => true) dst out s.tm ops.size := funext fun t => tmD_congr _ (fun j hj _ => hall j hj)
    rw [← this]; exact ht
  -- the heart: some are done, in whatever order
  have main : ∀ (fuel : Nat) (listed : Array Bool) (c' : Cx) (a' : Act), listed.size = ops.size → cnt (fun i => listed.getD i false) ops.size ≤ fuel →
      (∀ (j : Nat) (o : Oper), ops[j]? = some o → listed.getD j false = true → ∀ e ∈ o.after, Region.binds .any e = true → listed.getD e.on false = true) →
      TRel c' (tmD (fun i => listed.getD i false) dst out s.tm ops.size) a' → a'.tmps.size = nt → a'.defers = [] → Ext c c' →
      (∃ m, m ≤ ops.size ∧ (∀ j r, rs[j]? = some r → r.k = .e → (listed.getD j false = true ↔ j < m)) ∧ c'.hp = (S m).hp ∧ HRel c' (S m).nx) →
      wpAny P .any ops Q' fuel listed a' c'.w := by
    intro fuel
    induction fuel with
    | zero =>
      intro listed c' a' hls hcnt hcl' ht hsz hdf hext hm'
      have hall : ∀ j, j < ops.size → listed.getD j false = true := cnt_zero ops.size (by omega)
      refine ⟨List.eq_nil_iff_forall_not_mem.2 fun j hj => ?_, fin listed c' a' hall ht hsz hdf hext hm'⟩
      obtain ⟨h1, o, ho, _⟩ := mem_ready.1 hj
      have hj := (Array.getElem?_eq_some_iff.1 ho).1
      rw [getD_tf (by omega), hall j hj] at h1; cases h1
    | succ fuel ih =>
      intro listed c' a' hls hcnt hcl' ht hsz hdf hext hm'
      refine ⟨fun hr => fin listed c' a' (fun j hj => allD listed hls hr (j + 1) j (by omega) hj) ht hsz hdf hext hm', ?_⟩
      intro i hir
      obtain ⟨hi0, o, ho, hafter⟩ := mem_ready.1 hir
      have hi := (Array.getElem?_eq_some_iff.1 ho).1
      have hil : i < listed.size := by omega
      rw [getD_tf hil] at hi0
      have hcl := preD listed hcl'
      have hpi : ∀ k ∈ pre.getD i [], listed.getD k false = true := by
        intro k hk
        obtain ⟨_, e, he, hb, h2⟩ := hprespec i o ho k hk
        have h3 := hafter e he hb
        rcases h2 with rfl | h2
        · exact h3
        · have := hback i o ho e he hb
          exact hcl (e.on + 1) e.on (by omega) (by omega) h3 k h2
      have hip : ∀ j, j < ops.size → i ∈ pre.getD j [] → listed.getD j false = false := by
        intro j hj hm2
        cases hD : listed.getD j false with
        | false => rfl
        | true => rw [hcl (j + 1) j (by omega) hj hD i hm2] at hi0; cases hi0
      obtain ⟨o', co, cop, g, r, h1, h2, h3, h4, h5, h6, h7, h8⟩ := hco i hi
      rw [ho, Option.some.injEq] at h1; subst h1
      have hdi := hdst i o ho
      have hco_j : ∀ j, j < ops.size → ∃ y, cl[j]? = some y ∧ dst j = y.dst := by
        intro j hj
        have : j < cl.length := by omega
        exact ⟨cl[j], List.getElem?_eq_getElem this, by simp [dst, List.getElem?_eq_getElem this]⟩
      -- what it looks at
      have hlook : ∀ t ∈ co.looks, (S i).tm t = tmD (fun i => listed.getD i false) dst out s.tm ops.size t := by
        intro t ht'
        rw [hStm i (by omega), ← tmD_below i ops.size (by omega)]
        refine tmD_congr _ (fun j hj hd => ?_)
        obtain ⟨y, hy, hyd⟩ := hco_j j hj
        by_cases hji : j = i
        · subst hji; rw [hi0]; simp
        · rw [hyd] at hd
          rcases htemps j i y co t hji hy h2 hd (.inl ht') with h | h
          · rw [hpi j h]; simp; exact (hprespec i o ho j h).1
          · rw [hip j hj h]; simp
            have := (hprespec j _ (Array.getElem?_eq_getElem hj) i h).1
            omega
      have hD' : ∀ j, (listed.setIfInBounds i true).getD j false = if j = i then true else listed.getD j false := fun j => getD_set hil
      have htm' : ∀ (hp : Heap) (nx : Nat) (s2 : St), s2.tm = tmD (fun i => listed.getD i false) dst out s.tm ops.size → (s2.put o.dst (out i) hp nx).tm = tmD (fun j => (listed.setIfInBounds i true).getD j false) dst out s.tm ops.size := by
        intro hp nx s2 hs2
        cases hd : o.dst with
        | none =>
          simp only [St.put, hs2]
          funext t
          refine tmD_congr _ (fun j hj hdj => ?_)
          show _ = (listed.setIfInBounds i true).getD j false
          rw [hD' j, if_neg]
          rintro rfl; rw [hdi, hd] at hdj; cases hdj
        | some d =>
          simp only [St.put, hs2]
          funext t
          unfold tupd
          split
          · rename_i htd; subst htd
            refine (tmD_last (i := i) ?_ (by rw [hdi, hd]) _ hi ?_).symm
            · show (listed.setIfInBounds i true).getD i false = true
              rw [hD']; simp
            · intro j h9 h10 hdj
              show (listed.setIfInBounds i true).getD j false = false
              rw [hD' j, if_neg (by omega)]
              obtain ⟨y, hy, hyd⟩ := hco_j j h10
              rw [hyd] at hdj
              rcases htemps j i y co t (by omega) hy h2 hdj (.inr (by rw [h3]; exact hd)) with h | h
              · have := (hprespec i o ho j h).1; omega
              · exact hip j h10 h
          · rename_i htd
            refine tmD_congr _ (fun j hj hdj => ?_)
            show _ = (listed.setIfInBounds i true).getD j false
            rw [hD' j, if_neg]
            rintro rfl
            rw [hdi, hd] at hdj
            exact htd (Option.some.inj hdj).symm
      have hcl2 : ∀ (j : Nat) (o : Oper), ops[j]? = some o → (listed.setIfInBounds i true).getD j false = true → ∀ e ∈ o.after, Region.binds .any e = true → (listed.setIfInBounds i true).getD e.on false = true := by
        intro j o2 ho2 hj e he hb
        rw [hD'] at hj
        split at hj
        · rename_i hji; subst hji
          rw [ho, Option.some.injEq] at ho2; subst ho2
          exact getD_set_true (hafter e he hb)
        · exact getD_set_true (hcl' j o2 ho2 hj e he hb)
      have hcnt2 : cnt (fun j => (listed.setIfInBounds i true).getD j false) ops.size ≤ fuel := by
        have := cnt_lt (D := fun i => listed.getD i false) (D' := fun j => (listed.setIfInBounds i true).getD j false) (fun j h => getD_set_true h) (i := i) hi0 (by show (listed.setIfInBounds i true).getD i false = true; rw [hD']; simp) ops.size hi
        omega
      have hls2 : (listed.setIfInBounds i true).size = ops.size := by simpa using hls
      obtain ⟨m, hmle, hme, hhp, hrel⟩ := hm'
      have hsr : SR c' ⟨tmD (fun i => listed.getD i false) dst out s.tm ops.size, (S m).hp, (S m).nx⟩ nt a' := ⟨ht, hsz, hdf, hhp, hrel⟩
      have hgl : ∀ d w, g = some (d, w) → (S i).tm d = tmD (fun i => listed.getD i false) dst out s.tm ops.size d := by
        intro d w hg
        refine hlook d ?_
        rw [h3]; simp [COper.looks, hg]
      have htl : ∀ t ∈ cop.tms, (S i).tm t = tmD (fun i => listed.getD i false) dst out s.tm ops.size t := by
        intro t h
        refine hlook t ?_
        rw [h3]; simp [COper.looks, h]
      -- no effect is done, and none left, that the order does not bind
      have hee : ∀ j rj, j < ops.size → rs[j]? = some rj → ¬ calm2 r rj → ¬ calm2 rj r → j ≠ i → ((listed.getD j false = true ↔ j < i)) := by
        intro j rj hj hrj hn1 hn2 hji
        rcases Nat.lt_or_gt_of_ne hji with h | h
        · rcases calm_spec hcalm h hrj h7 with h | h
          · exact ⟨fun _ => by omega, fun _ => hpi j h⟩
          · exact absurd h hn2
        · rcases calm_spec hcalm h h7 hrj with h | h
          · rw [hip j hj h]; simp; omega
          · exact absurd h hn1
      have keepm : r.k ≠ .e → (∀ j rj, rs[j]? = some rj → rj.k = .e → ((listed.setIfInBounds i true).getD j false = true ↔ j < m)) := by
        intro hne j rj hrj hk
        rw [hD', if_neg]
        · exact hme j rj hrj hk
        · rintro rfl
          rw [h7, Option.some.injEq] at hrj; subst hrj; exact hne hk
      unfold wpOp
      rw [ho]
      simp only []
      rcases h8 with ⟨hw, hp, nx, k, hwop, hS1, hrk⟩ | ⟨hw, hv, hS1, hrk⟩
      · -- wanted
        rw [h3] at hw hwop hS1
        simp only at hw hwop hS1
        have hw2 := hw
        rw [wantedA_congr (tm' := tmD (fun i => listed.getD i false) dst out s.tm ops.size) hgl] at hw2
        rw [if_pos (wanted_run h5 hw2 ht)]
        refine .inl ?_
        obtain ⟨m1, m2, m3⟩ := WOp_move hR (s' := ⟨tmD (fun i => listed.getD i false) dst out s.tm ops.size, (S m).hp, (S m).nx⟩) hwop htl
        -- either it left the memory alone, or it stands where the walk did it
        have key : (r.k ≠ .e ∧ ∃ k2, WOp R cop ⟨tmD (fun i => listed.getD i false) dst out s.tm ops.size, (S m).hp, (S m).nx⟩ (Just (out i) (S m).hp (S m).nx k2)) ∨
            (r.k = .e ∧ (S (i + 1)).hp = hp ∧ (S (i + 1)).nx = nx ∧ WOp R cop ⟨tmD (fun i => listed.getD i false) dst out s.tm ops.size, (S m).hp, (S m).nx⟩ (Just (out i) hp nx .e) ∧
              (∀ j rj, rs[j]? = some rj → rj.k = .e → ((listed.setIfInBounds i true).getD j false = true ↔ j < i + 1))) := by
          cases k with
          | p => exact .inl ⟨by rw [hrk]; simp, .p, (m1 rfl).2.2⟩
          | r x =>
            refine .inl ⟨by rw [hrk]; simp, .r x, (m2 x rfl).2.2 ?_⟩
            have hx : ∀ j rj, j < ops.size → rs[j]? = some rj → rj.k = .e → (j < i ∧ m ≤ j ∨ i ≤ j ∧ j < m) → rj.hp x = rj.hp' x := by
              intro j rj hj hrj hke hcase
              have hDj := hme j rj hrj hke
              have hji : j ≠ i := by
                rintro rfl
                rw [h7, Option.some.injEq] at hrj; subst hrj
                rw [hrk] at hke; cases hke
              by_cases hc2 : rj.hp x = rj.hp' x
              · exact hc2
              · have := hee j rj hj hrj (by rw [hrk]; simp only [calm2]; rw [hke]; exact hc2) (by rw [hrk]; simp only [calm2]; rw [hke]; exact hc2) hji
                rw [hDj] at this
                omega
            rcases Nat.le_total i m with hle | hle
            · have := hbetweenX x (m - i) i (by omega) (fun j rj g1 g2 g3 g4 => hx j rj (by omega) g3 g4 (.inr ⟨g1, by omega⟩))
              rw [show i + (m - i) = m by omega] at this
              exact this.symm
            · have := hbetweenX x (i - m) m (by omega) (fun j rj g1 g2 g3 g4 => hx j rj (by omega) g3 g4 (.inl ⟨by omega, g1⟩))
              rw [show m + (i - m) = i by omega] at this
              exact this
          | e =>
            have hre : r.k = .e := by rw [hrk]
            have hmi : m ≤ i := by
              have := hme i r h7 hre
              rw [hi0] at this
              simp at this; omega
            have hord : ∀ j rj, j < ops.size → rs[j]? = some rj → rj.k = .e → j ≠ i → (listed.getD j false = true ↔ j < i) := by
              intro j rj hj hrj hke hji
              exact hee j rj hj hrj (by simp only [calm2]; rw [hre, hke]; exact not_false) (by simp only [calm2]; rw [hre, hke]; exact not_false) hji
            obtain ⟨g1, g2⟩ := hbetween (i - m) m (by omega) (fun j rj g1 g2 g3 g4 => by
              have h9 := hord j rj (by omega) g3 g4 (by omega)
              rw [hme j rj g3 g4] at h9
              omega)
            rw [show m + (i - m) = i by omega] at g1 g2
            have hph : ∀ (d : Option Nat) (v : AV) (hp : Heap) (nx : Nat), ((S i).put d v hp nx).hp = hp ∧ ((S i).put d v hp nx).nx = nx := by intro d v hp nx; cases d <;> exact ⟨rfl, rfl⟩
            refine .inr ⟨hre, by rw [hS1]; exact (hph _ _ _ _).1, by rw [hS1]; exact (hph _ _ _ _).2, m3 rfl g1 g2, ?_⟩
            intro j rj hrj hke
            rw [hD']
            split
            · rename_i hji; subst hji; simp
            · rename_i hji
              have := hord j rj (by have := (List.getElem?_eq_some_iff.1 hrj).1; omega) hrj hke hji
              rw [this]; omega
        rcases key with ⟨hne, k2, hwk⟩ | ⟨hre, e1, e2, hwk, hmm⟩
        · refine WOp_sound hR h4 hsr h6 hwk ?_
          rintro v hp' nx' k' c'' u ⟨rfl, rfl, rfl, rfl⟩ _ he hh hrl2 hvv
          have hsr2 := hsr.put h6 he hh hrl2 hvv
          refine ih _ c'' _ hls2 hcnt2 hcl2 ?_ hsr2.sz hsr2.df (hext.trans he) ⟨m, hmle, keepm hne, hh, hrl2⟩
          rw [← htm' (S m).hp (S m).nx ⟨tmD (fun i => listed.getD i false) dst out s.tm ops.size, (S m).hp, (S m).nx⟩ rfl]
          exact hsr2.tm
        · refine WOp_sound hR h4 hsr h6 hwk ?_
          rintro v hp' nx' k' c'' u ⟨rfl, rfl, rfl, rfl⟩ _ he hh hrl2 hvv
          have hsr2 := hsr.put h6 he hh hrl2 hvv
          refine ih _ c'' _ hls2 hcnt2 hcl2 ?_ hsr2.sz hsr2.df (hext.trans he) ⟨i + 1, by omega, hmm, by rw [e1]; exact hh, by rw [e2]; exact hrl2⟩
          rw [← htm' hp' nx' ⟨tmD (fun i => listed.getD i false) dst out s.tm ops.size, (S m).hp, (S m).nx⟩ rfl]
          exact hsr2.tm
      · -- not wanted
        rw [h3] at hw
        simp only at hw
        have hw2 := hw
        rw [wantedA_congr (tm' := tmD (fun i => listed.getD i false) dst out s.tm ops.size) hgl] at hw2
        have hwr := wanted_run h5 hw2 ht
        rw [if_neg (by rw [hwr]; simp)]
        have hsr2 := hsr.put h6 (Ext.refl c') hhp hrel (v := out i) (u := undef) (by rw [hv]; exact .v undef)
        refine ih _ c' _ hls2 hcnt2 hcl2 ?_ hsr2.sz hsr2.df hext ⟨m, hmle, keepm (by rw [hrk]; simp), hhp, hrel⟩
        rw [← htm' (S m).hp (S m).nx ⟨tmD (fun i => listed.getD i false) dst out s.tm ops.size, (S m).hp, (S m).nx⟩ rfl]
        exact hsr2.tm
  refine wp_region_any hm ?_
  have hgr : Grow c.w { c.w with drawn := c.w.drawn + 1 } := ⟨Nat.le_refl _, fun _ _ => rfl, rfl, rfl, rfl⟩
  have he := Ext.of_grow (c := c) (nx := s.nx) hgr
  have hD0 : ∀ j, (Array.replicate ops.size false).getD j false = false := by intro j; simp [Array.getD]
  refine main ops.size (Array.replicate ops.size false) { c with w := { c.w with drawn := c.w.drawn + 1 } } a (by simp) ?_ ?_ ?_ hs.sz hs.df he ⟨0, by omega, fun j r _ _ => by rw [hD0]; simp, by rw [hS0]; exact hs.hp, by rw [hS0]; exact hs.rel.grow hgr⟩
  · have : ∀ k, cnt (fun i => (Array.replicate ops.size false).getD i false) k ≤ k := by
      intro k
      induction k with
      | zero => exact Nat.le_refl _
      | succ k ih => simp only [cnt]; split <;> omega
    exact this _
  · intro j o ho h; rw [hD0] at h; cases h
  · have : tmD (fun i => (Array.replicate ops.size false).getD i false) dst out s.tm ops.size = s.tm := by
      have : ∀ k, tmD (fun i => (Array.replicate ops.size false).getD i false) dst out s.tm k = s.tm := by
        intro k
        induction k with
        | zero => rfl
        | succ k ih => simp only [tmD]; rw [if_neg (by rw [hD0]; simp)]; exact ih
      exact this _
    rw [this]
    exact hs.tm.mono he

end Go.Ai
