/- Rules for 'W': monotone, continuous in what calls come to; the rules for calls and loops. -/
import Derived.Test.YtooomkpingiojaaGreatAiCore
namespace Go.Ai
set_option linter.unusedVariables false

theorem WCall_mono {R R' : CallRel} (hR : ∀ f a h n v h' n' k, R f a h n v h' n' k → R' f a h n v h' n' k) {f args hp nx} {K K' : AV → Heap → Nat → Kd → Prop}
    (hK : ∀ v h n k, K v h n k → K' v h n k) (h : WCall R f args hp nx K) : WCall R' f args hp nx K' :=
  let ⟨v, h', n', k, r, q⟩ := h; ⟨v, h', n', k, hR _ _ _ _ _ _ _ _ r, hK _ _ _ _ q⟩

theorem WOp_mono {R R' : CallRel} (hR : ∀ f a h n v h' n' k, R f a h n v h' n' k → R' f a h n v h' n' k) {co : COp} {s : St} {K K' : AV → Heap → Nat → Kd → Prop}
    (hK : ∀ v h n k, K v h n k → K' v h n k) (h : WOp R co s K) : WOp R' co s K' := by
  unfold WOp at *
  split at h
  · exact WCall_mono hR hK h
  · split at h
    · rename_i hg; (try simp only [hg]); exact WCall_mono hR hK h
    · exact h.elim
  · split at h
    · rename_i he; (try simp only [he]); exact hK _ _ _ _ h
    · rename_i he; (try simp only [he])
      split at h
      · rename_i hr; (try simp only [hr]); exact hK _ _ _ _ h
      · rename_i hr; (try simp only [hr])
        split at h
        · rename_i hE; (try simp only [hE]); exact hK _ _ _ _ h
        · exact h.elim

theorem WOps_mono {R R' : CallRel} (hR : ∀ f a h n v h' n' k, R f a h n v h' n' k → R' f a h n v h' n' k) : ∀ (ops : List COper) (s : St) {Q Q' : St → Prop}, (∀ s, Q s → Q' s) → WOps R ops s Q → WOps R' ops s Q'
  | [], s, Q, Q', hQ, h => hQ _ h
  | o :: rest, s, Q, Q', hQ, h => by
    unfold WOps at *
    split at h
    · rename_i hw; (try simp only [hw])
      exact WOp_mono hR (fun v hp nx _ h => WOps_mono hR rest _ hQ h) h
    · rename_i hw; (try simp only [hw]); exact WOps_mono hR rest _ hQ h
    · exact h.elim

theorem WDraw_mono {R R' : CallRel} (hR : ∀ f a h n v h' n' k, R f a h n v h' n' k → R' f a h n v h' n' k) : ∀ (ops : List COper) (s : St) (recs : List Rec) {Q Q' : St → List Rec → Prop}, (∀ s r, Q s r → Q' s r) → WDraw R ops s recs Q → WDraw R' ops s recs Q'
  | [], s, recs, Q, Q', hQ, h => hQ _ _ h
  | o :: rest, s, recs, Q, Q', hQ, h => by
    unfold WDraw at *
    split at h
    · rename_i hw; (try simp only [hw])
      exact WOp_mono hR (fun v hp nx _ h => WDraw_mono hR rest _ _ hQ h) h
    · rename_i hw; (try simp only [hw]); exact WDraw_mono hR rest _ _ hQ h
    · exact h.elim

theorem loopN_mono {F F' : (CExit → St → Prop) → St → Prop} (hF : ∀ Q Q' s, (∀ e s, Q e s → Q' e s) → F Q s → F' Q' s) :
    ∀ (n : Nat) (Q Q' : CExit → St → Prop) (s : St), (∀ e s, Q e s → Q' e s) → loopN F Q n s → loopN F' Q' n s
  | 0, _, _, _, _, h => h.elim
  | n + 1, Q, Q', s, hQ, h => by
    simp only [loopN] at *
    refine hF _ _ s (fun e s h => ?_) h
    cases e with
    | normal => exact loopN_mono hF n Q Q' s hQ h
    | exit i => exact hQ _ _ h
    | ret => exact hQ _ _ h

theorem W_mono {R R' : CallRel} (hR : ∀ f a h n v h' n' k, R f a h n v h' n' k → R' f a h n v h' n' k) : ∀ (c : CCode) (Q Q' : CExit → St → Prop) (s : St), (∀ e s, Q e s → Q' e s) → W R c Q s → W R' c Q' s
  | .skip, Q, Q', s, hQ, h => hQ _ _ h
  | .region ops, Q, Q', s, hQ, h => WOps_mono hR ops s (hQ .normal) h
  | .draw pre ops, Q, Q', s, hQ, h => WDraw_mono hR ops s [] (fun s r ⟨h1, h2⟩ => ⟨h1, hQ _ _ h2⟩) h
  | .seq a b, Q, Q', s, hQ, h => by
    unfold W at *
    refine W_mono hR a _ _ s (fun e s h => ?_) h
    cases e with
    | normal => exact W_mono hR b Q Q' s hQ h
    | exit i => exact hQ _ _ h
    | ret => exact hQ _ _ h
  | .cond c a b, Q, Q', s, hQ, h => by
    unfold W at *
    split at h
    · rename_i hc; (try simp only [hc])
      split at h
      · rename_i ht; simp only [ht, if_true]; exact W_mono hR a Q Q' s hQ h
      · rename_i ht; simp only [ht]; exact W_mono hR b Q Q' s hQ h
    · exact h.elim
  | .block id a, Q, Q', s, hQ, h => by
    unfold W at *
    refine W_mono hR a _ _ s (fun e s h => ?_) h
    cases e with
    | normal => exact hQ _ _ h
    | exit i => dsimp only at *; split at h <;> rename_i hi <;> simp only [hi, if_true, if_false] <;> exact hQ _ _ h
    | ret => exact hQ _ _ h
  | .loop a, Q, Q', s, hQ, h => by
    unfold W at *
    obtain ⟨n, h⟩ := h
    exact ⟨n, loopN_mono (fun Q Q' s hq h => W_mono hR a Q Q' s hq h) n Q Q' s hQ h⟩
  | .exit id, Q, Q', s, hQ, h => hQ _ _ h
  | .ret, Q, Q', s, hQ, h => hQ _ _ h

/-! ### Continuity -/
section
variable {R : Nat → CallRel} (hR : ∀ m n, m ≤ n → ∀ f a h x v h' x' k, R m f a h x v h' x' k → R n f a h x v h' x' k)
include hR

theorem WOp_cont {co : COp} {s : St} {K : Nat → AV → Heap → Nat → Kd → Prop} (hK : ∀ m n, m ≤ n → ∀ v h x k, K m v h x k → K n v h x k)
    (h : WOp (fun f a h x v h' x' k => ∃ n, R n f a h x v h' x' k) co s (fun v h x k => ∃ n, K n v h x k)) : ∃ n, WOp (R n) co s (K n) := by
  have hcall : ∀ f args, WCall (fun f a h x v h' x' k => ∃ n, R n f a h x v h' x' k) f args s.hp s.nx (fun v h x k => ∃ n, K n v h x k) → ∃ n, WCall (R n) f args s.hp s.nx (K n) := by
    rintro f args ⟨v, h', x', k, ⟨m, r⟩, n, q⟩
    exact ⟨max m n, v, h', x', k, hR _ _ (Nat.le_max_left _ _) _ _ _ _ _ _ _ _ r, hK _ _ (Nat.le_max_right _ _) _ _ _ _ q⟩
  unfold WOp at *
  split at h
  · exact hcall _ _ h
  · split at h
    · rename_i hg; (try simp only [hg]); exact hcall _ _ h
    · exact h.elim
  · split at h
    · rename_i he; (try simp only [he]); exact h
    · rename_i he; (try simp only [he])
      split at h
      · rename_i hr; (try simp only [hr]); exact h
      · rename_i hr; (try simp only [hr])
        split at h
        · rename_i hE; (try simp only [hE]); exact h
        · exact h.elim

theorem WOps_cont : ∀ (ops : List COper) (s : St) {Q : Nat → St → Prop}, (∀ m n, m ≤ n → ∀ s, Q m s → Q n s) →
    WOps (fun f a h x v h' x' k => ∃ n, R n f a h x v h' x' k) ops s (fun s => ∃ n, Q n s) → ∃ n, WOps (R n) ops s (Q n)
  | [], s, Q, hQ, h => h
  | o :: rest, s, Q, hQ, h => by
    unfold WOps at *
    split at h
    · rename_i hw; (try simp only [hw])
      refine WOp_cont hR (K := fun n v hp nx k => WOps (R n) rest (s.put o.dst v hp nx) (Q n)) ?_ ?_
      · exact fun m n hmn v hp nx k h => WOps_mono (hR m n hmn) rest _ (hQ m n hmn) h
      · exact WOp_mono (fun _ _ _ _ _ _ _ _ h => h) (fun v hp nx k h => WOps_cont rest _ hQ h) h
    · rename_i hw; (try simp only [hw]); exact WOps_cont rest _ hQ h
    · exact h.elim

theorem WDraw_cont : ∀ (ops : List COper) (s : St) (recs : List Rec) {Q : Nat → St → List Rec → Prop}, (∀ m n, m ≤ n → ∀ s r, Q m s r → Q n s r) →
    WDraw (fun f a h x v h' x' k => ∃ n, R n f a h x v h' x' k) ops s recs (fun s r => ∃ n, Q n s r) → ∃ n, WDraw (R n) ops s recs (Q n)
  | [], s, recs, Q, hQ, h => h
  | o :: rest, s, recs, Q, hQ, h => by
    unfold WDraw at *
    split at h
    · rename_i hw; (try simp only [hw])
      refine WOp_cont hR (K := fun n v hp nx k => WDraw (R n) rest (s.put o.dst v hp nx) (recs ++ [⟨k, s.hp, hp⟩]) (Q n)) ?_ ?_
      · exact fun m n hmn v hp nx k h => WDraw_mono (hR m n hmn) rest _ _ (hQ m n hmn) h
      · exact WOp_mono (fun _ _ _ _ _ _ _ _ h => h) (fun v hp nx k h => WDraw_cont rest _ _ hQ h) h
    · rename_i hw; (try simp only [hw]); exact WDraw_cont rest _ _ hQ h
    · exact h.elim

theorem W_cont : ∀ (c : CCode) (s : St) {Q : Nat → CExit → St → Prop}, (∀ m n, m ≤ n → ∀ e s, Q m e s → Q n e s) →
    W (fun f a h x v h' x' k => ∃ n, R n f a h x v h' x' k) c (fun e s => ∃ n, Q n e s) s → ∃ n, W (R n) c (Q n) s
  | .skip, s, Q, hQ, h => h
  | .region ops, s, Q, hQ, h => WOps_cont hR ops s (fun m n h => hQ m n h .normal) h
  | .draw pre ops, s, Q, hQ, h => by
    unfold W at *
    refine WDraw_cont hR ops s [] (Q := fun n s' recs => calmAll pre recs ∧ Q n .normal s') (fun m n h s r ⟨h1, h2⟩ => ⟨h1, hQ m n h _ _ h2⟩) ?_
    exact WDraw_mono (fun _ _ _ _ _ _ _ _ h => h) _ _ _ (fun s r ⟨h1, n, h2⟩ => ⟨n, h1, h2⟩) h
  | .seq a b, s, Q, hQ, h => by
    unfold W at *
    refine W_cont a s (Q := fun n e s' => match e with | .normal => W (R n) b (Q n) s' | e => Q n e s') ?_ ?_
    · intro m n hmn e s h
      cases e with
      | normal => exact W_mono (hR m n hmn) b _ _ s (hQ m n hmn) h
      | exit i => exact hQ m n hmn _ _ h
      | ret => exact hQ m n hmn _ _ h
    · refine W_mono (fun _ _ _ _ _ _ _ _ h => h) a _ _ s (fun e s h => ?_) h
      cases e with
      | normal => exact W_cont b s hQ h
      | exit i => exact h
      | ret => exact h
  | .cond c a b, s, Q, hQ, h => by
    unfold W at *
    split at h
    · rename_i hc; (try simp only [hc])
      split at h
      · rename_i ht; simp only [ht, if_true]; exact W_cont a s hQ h
      · rename_i ht; simp only [ht]; exact W_cont b s hQ h
    · exact h.elim
  | .block id a, s, Q, hQ, h => by
    unfold W at *
    refine W_cont a s (Q := fun n e s' => match e with | .exit i => if i = id then Q n .normal s' else Q n (.exit i) s' | e => Q n e s') ?_ ?_
    · intro m n hmn e s h
      cases e with
      | normal => exact hQ m n hmn _ _ h
      | exit i => dsimp only at *; split at h <;> rename_i hi <;> simp only [hi, if_true, if_false] <;> exact hQ m n hmn _ _ h
      | ret => exact hQ m n hmn _ _ h
    · refine W_mono (fun _ _ _ _ _ _ _ _ h => h) a _ _ s (fun e s h => ?_) h
      cases e with
      | normal => exact h
      | exit i => dsimp only at *; split at h <;> rename_i hi <;> simp only [hi, if_true, if_false] <;> exact h
      | ret => exact h
  | .loop a, s, Q, hQ, h => by
    unfold W at *
    obtain ⟨k, h⟩ := h
    have key : ∀ (k : Nat) (s : St), loopN (W (fun f a h x v h' x' k => ∃ n, R n f a h x v h' x' k) a) (fun e s => ∃ n, Q n e s) k s → ∃ n, loopN (W (R n) a) (Q n) k s := by
      intro k
      induction k with
      | zero => intro s h; exact h.elim
      | succ k ih =>
        intro s h
        simp only [loopN] at *
        refine W_cont a s (Q := fun n e s' => match e with | .normal => loopN (W (R n) a) (Q n) k s' | e => Q n e s') ?_ ?_
        · intro m n hmn e s h
          cases e with
          | normal => exact loopN_mono (fun Q Q' s hq h => W_mono (hR m n hmn) a Q Q' s hq h) k _ _ s (hQ m n hmn) h
          | exit i => exact hQ m n hmn _ _ h
          | ret => exact hQ m n hmn _ _ h
        · refine W_mono (fun _ _ _ _ _ _ _ _ h => h) a _ _ s (fun e s h => ?_) h
          cases e with
          | normal => exact ih s h
          | exit i => exact h
          | ret => exact h
    obtain ⟨n, h⟩ := key k s h
    exact ⟨n, k, h⟩
  | .exit id, s, Q, hQ, h => h
  | .ret, s, Q, hQ, h => h
end

theorem RetN_mono (E : Env) : ∀ m n, m ≤ n → ∀ f a h x v h' x' k, RetN E m f a h x v h' x' k → RetN E n f a h x v h' x' k
  | 0, n, _, _, _, _, _, _, _, _, _, h => h.elim
  | m + 1, 0, hmn, _, _, _, _, _, _, _, _, h => absurd hmn (by omega)
  | m + 1, n + 1, hmn, f, a, h0, x, v, h', x', k, h => by
    have ih := RetN_mono E m n (by omega)
    simp only [RetN] at *
    rcases h with h | ⟨cf, h1, h2, h3⟩ | ⟨h1, h2, h3, h4, args0, h5, h6⟩ | ⟨h1, args0, L, k', h2, h3⟩
    · exact .inl h
    rotate_left
    · exact .inr (.inr (.inl ⟨h1, h2, h3, h4, args0, h5, ih _ _ _ _ _ _ _ _ h6⟩))
    · exact .inr (.inr (.inr ⟨h1, args0, L, k', h2, ih _ _ _ _ _ _ _ _ h3⟩))
    · refine .inr (.inl ⟨cf, h1, h2, ?_⟩)
      rcases h3 with ⟨hk, h4, h5, h6, h7⟩ | ⟨hk, h4⟩
      · exact .inl ⟨hk, h4, h5, h6, W_mono ih _ _ _ _ (fun _ _ h => h) h7⟩
      · exact .inr ⟨hk, W_mono ih _ _ _ _ (fun _ _ h => h) h4⟩

theorem Ret_prim {E : Env} {f args hp nx v hp' nx' k} (h : E.prim f args hp nx v hp' nx' k) : Ret E f args hp nx v hp' nx' k :=
  ⟨1, .inl h⟩

/-- A call that leaves all as it was: its body, run by itself. -/
theorem Ret_pure {E : Env} {f : Nat} {cf : CFunc} {args : List AV} {v : AV} (hf : E.fn f = some cf) (hn : args.length = cf.np) (hc : closedL args = true)
    (h : W (Ret E) cf.body (fun e s => Ended e ∧ ∃ v1, resA cf.res s = some v1 ∧ frz 6 s.hp v1 = some v) (init args hnil 0)) (hp : Heap) (nx : Nat) :
    Ret E f args hp nx v hp nx .p := by
  obtain ⟨n, h⟩ := W_cont (R := RetN E) (RetN_mono E) cf.body (init args hnil 0) (Q := fun _ e s => Ended e ∧ ∃ v1, resA cf.res s = some v1 ∧ frz 6 s.hp v1 = some v) (fun _ _ _ _ _ h => h)
    (W_mono (fun _ _ _ _ _ _ _ _ h => h) _ _ _ _ (fun _ _ h => ⟨0, h⟩) h)
  exact ⟨n + 1, .inr (.inl ⟨cf, hf, hn, .inl ⟨rfl, rfl, rfl, hc, h⟩⟩)⟩

/-- A call over the caller's memory. -/
theorem Ret_gen {E : Env} {f : Nat} {cf : CFunc} {args : List AV} {hp hp' : Heap} {nx nx' : Nat} {v : AV} (hf : E.fn f = some cf) (hn : args.length = cf.np)
    (h : W (Ret E) cf.body (fun e s => Ended e ∧ resA cf.res s = some v ∧ Sub hp' s.hp ∧ nx' = s.nx) (init args hp nx)) :
    Ret E f args hp nx v hp' nx' .e := by
  obtain ⟨n, h⟩ := W_cont (R := RetN E) (RetN_mono E) cf.body (init args hp nx) (Q := fun _ e s => Ended e ∧ resA cf.res s = some v ∧ Sub hp' s.hp ∧ nx' = s.nx) (fun _ _ _ _ _ h => h)
    (W_mono (fun _ _ _ _ _ _ _ _ h => h) _ _ _ _ (fun _ _ h => ⟨0, h⟩) h)
  exact ⟨n + 1, .inr (.inl ⟨cf, hf, hn, .inr ⟨rfl, h⟩⟩)⟩

/-- Slices are lent to a call that only reads them, and hands out nothing of them. -/
theorem Ret_lend {E : Env} {f : Nat} {args args0 : List AV} {v : AV} {hp : Heap} {nx : Nat} (hz : mapO (frz 6 hp) args = some args0) (hv : v.flat = true) (h : Ret E f args0 hnil 0 v hnil 0 .p) : Ret E f args hp nx v hp nx .e :=
  let ⟨n, h⟩ := h; ⟨n + 1, .inr (.inr (.inl ⟨rfl, rfl, rfl, hv, args0, hz, h⟩))⟩
/-- Slices are given away: nobody writes them any more. -/
theorem Ret_give {E : Env} {f : Nat} {args args0 : List AV} {v : AV} {hp hp' : Heap} {nx nx' : Nat} {k : Kd} (L : List Nat) (hz : mapO (frzP 6 (restrH hp L)) args = some args0) (h : Ret E f args0 (dropH hp L) nx v hp' nx' k) : Ret E f args hp nx v hp' nx' .e :=
  let ⟨n, h⟩ := h; ⟨n + 1, .inr (.inr (.inr ⟨rfl, args0, L, k, hz, h⟩))⟩

/-- A loop: what holds at each round's head, and what each round lowers. -/
theorem W_loop {R : CallRel} {a : CCode} {Q : CExit → St → Prop} (I : St → Prop) (μ : St → Nat) {s : St} (h0 : I s)
    (round : ∀ s, I s → W R a (fun e s' => match e with | .normal => I s' ∧ μ s' < μ s | e => Q e s') s) : W R (.loop a) Q s := by
  have key : ∀ m s, μ s = m → I s → ∃ n, loopN (W R a) Q n s := by
    intro m
    induction m using Nat.strongRecOn with
    | _ m ih =>
      intro s hm hI
      -- continuity in the number of rounds
      have h1 := round s hI
      let G : Nat → CExit → St → Prop := fun n e s' => match e with | .normal => loopN (W R a) Q n s' | e => Q e s'
      have h2 : W (fun f a h x v h' x' k => ∃ n : Nat, R f a h x v h' x' k) a (fun e s' => ∃ n, G n e s') s := by
        refine W_mono (fun _ _ _ _ _ _ _ _ h => ⟨0, h⟩) a _ _ s (fun e s' h => ?_) h1
        cases e with
        | normal => exact ih (μ s') (by omega) s' rfl h.1
        | exit i => exact ⟨0, h⟩
        | ret => exact ⟨0, h⟩
      obtain ⟨n, h3⟩ := W_cont (R := fun _ => R) (fun _ _ _ _ _ _ _ _ _ _ _ h => h) a s (Q := G) (by
        intro m n hmn e s h
        cases e with
        | normal =>
          have : ∀ m n, m ≤ n → ∀ s, loopN (W R a) Q m s → loopN (W R a) Q n s := by
            intro m
            induction m with
            | zero => intro n _ s h; exact h.elim
            | succ m ihm =>
              intro n hn s h
              obtain ⟨n, rfl⟩ : ∃ n', n = n' + 1 := ⟨n - 1, by omega⟩
              simp only [loopN] at *
              refine W_mono (fun _ _ _ _ _ _ _ _ h => h) a _ _ s (fun e s h => ?_) h
              cases e with
              | normal => exact ihm n (by omega) s h
              | exit i => exact h
              | ret => exact h
          exact this m n hmn s h
        | exit i => exact h
        | ret => exact h) h2
      exact ⟨n + 1, h3⟩
  unfold W
  exact key _ s rfl h0

end Go.Ai
