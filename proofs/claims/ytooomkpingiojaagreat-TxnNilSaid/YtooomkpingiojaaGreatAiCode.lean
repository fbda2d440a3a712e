/- Regions that are walked in order. -/
import Derived.Test.YtooomkpingiojaaGreatAiSound
namespace Go.Ai
set_option linter.unusedVariables false
set_option linter.unusedSimpArgs false

theorem SR.put {c c' : Cx} {s : St} {nt : Nat} {a : Act} (hs : SR c s nt a) {d : Option Nat} (hd : d.all (· < nt) = true) {v : AV} {u : Value} {hp' : Heap} {nx' : Nat} (he : Ext c c') (hh : c'.hp = hp') (hr : HRel c' nx') (hv : VRel c' v u) :
    SR c' (s.put d v hp' nx') nt (a.put d u) := by
  refine ⟨(hs.tm.mono he).put hv (by rw [hs.sz]; exact hd) s rfl hp' nx', by rw [put_size]; exact hs.sz, by rw [put_defers, hs.df, he.F], ?_, ?_⟩
  · cases d <;> exact hh
  · cases d <;> exact hr

theorem WOps_sound {P : Program} {R : CallRel} (hR : RelSound P R) {ops : Array Oper} {nt : Nat} {own : Nat → Bool} : ∀ (l : List Oper) (i : Nat) {cl : List COper} {c : Cx} {s : St} {a : Act} {Q : St → Prop} {Q' : Exit → Act → World → Prop},
    compOpers P nt own ops l i = some cl → SR c s nt a → WOps R cl s Q → (∀ s' c' a', Q s' → SR c' s' nt a' → Ext c c' → Q' .normal a' c'.w) → wpList P ops Q' l a c.w
  | [], i, cl, c, s, a, Q, Q', hc, hs, h, hQ => by
    simp only [compOpers, Option.some.injEq] at hc; subst hc
    exact hQ s c a h hs (Ext.refl c)
  | o :: r, i, cl, c, s, a, Q, Q', hc, hs, h, hQ => by
    simp only [compOpers] at hc
    split at hc
    · rename_i co l ho hl
      simp only [Option.some.injEq] at hc; subst hc
      unfold compOper at ho
      split at ho
      · rename_i cop g hcop hg
        split at ho
        · rename_i hd
          simp only [Option.some.injEq] at ho; subst ho
          unfold wpList
          unfold WOps at h
          split at h
          · rename_i hw
            rw [if_pos (wanted_run hg hw hs.tm)]
            refine .inl (WOp_sound hR hcop hs hd h ?_)
            intro v hp' nx' k c' u hk _ he hh hr hv
            exact WOps_sound hR r (i + 1) hl (hs.put hd he hh hr hv) hk (fun s' c'' a' q hs' he' => hQ s' c'' a' q hs' (he.trans he'))
          · rename_i hw
            have := wanted_run hg hw hs.tm
            rw [if_neg (by rw [this]; simp)]
            exact WOps_sound hR r (i + 1) hl (hs.put hd (Ext.refl c) hs.hp hs.rel (.v undef)) h (fun s' c'' a' q hs' he' => hQ s' c'' a' q hs' he')
          · exact h.elim
        · simp at ho
      · simp at ho
    · simp at hc

def toExit : CExit → Exit
  | .normal => .normal
  | .exit i => .exit i
  | .ret => .ret

/-- Regions that draw their order: proved in a text of its own. -/
def DrawSound (P : Program) (R : CallRel) : Prop := ∀ (nt : Nat) (own : Nat → Bool) (id : Nat) (ops : Array Oper) (cl : List COper) (c : Cx) (s : St) (a : Act) (Q : St → Prop) (Q' : Exit → Act → World → Prop),
    compOpers P nt own ops ops.toList 0 = some cl → (preOk ops (preOf ops) && tempsOk cl (preOf ops)) = true → SR c s nt a → WDraw R cl s [] (fun s' recs => calmAll (preOf ops) recs ∧ Q s') →
    (∀ s' c' a', Q s' → SR c' s' nt a' → Ext c c' → Q' .normal a' c'.w) → (Code.region id ops true).wp P Q' a c.w

theorem W_sound {P : Program} {R : CallRel} (hR : RelSound P R) (hD : DrawSound P R) {nt : Nat} {ow : Owns} : ∀ (code : Code) {cc : CCode} {c : Cx} {s : St} {a : Act} {Q : CExit → St → Prop} {Q' : Exit → Act → World → Prop},
    compCode P nt ow code = some cc → SR c s nt a → W R cc Q s → (∀ e s' c' a', Q e s' → SR c' s' nt a' → Ext c c' → Q' (toExit e) a' c'.w) → code.wp P Q' a c.w
  | .skip, cc, c, s, a, Q, Q', hc, hs, h, hQ => by
    simp only [compCode, Option.some.injEq] at hc; subst hc
    exact wp_skip (hQ .normal s c a h hs (Ext.refl c))
  | .region id ops false, cc, c, s, a, Q, Q', hc, hs, h, hQ => by
    simp only [compCode, Option.map_eq_some_iff] at hc
    obtain ⟨cl, hcl, rfl⟩ := hc
    exact wp_region_list (WOps_sound hR ops.toList 0 hcl hs h (fun s' c' a' q hs' he => hQ .normal s' c' a' q hs' he))
  | .region id ops true, cc, c, s, a, Q, Q', hc, hs, h, hQ => by
    simp only [compCode] at hc
    split at hc
    · rename_i cl hcl
      split at hc
      · rename_i hok
        simp only [Option.some.injEq] at hc; subst hc
        exact hD nt _ id ops cl c s a (Q .normal) Q' hcl hok hs h (fun s' c' a' q hs' he => hQ .normal s' c' a' q hs' he)
      · simp at hc
    · simp at hc
  | .seq x y, cc, c, s, a, Q, Q', hc, hs, h, hQ => by
    simp only [compCode] at hc
    split at hc
    · rename_i cx cy hx hy
      simp only [Option.some.injEq] at hc; subst hc
      refine wp_seq (W_sound hR hD x hx hs h ?_)
      intro e s' c' a' q hs' he
      cases e with
      | normal => exact W_sound hR hD y hy hs' q (fun e s'' c'' a'' q hs'' he' => hQ e s'' c'' a'' q hs'' (he.trans he'))
      | exit i => exact hQ (.exit i) s' c' a' q hs' he
      | ret => exact hQ .ret s' c' a' q hs' he
    · simp at hc
  | .cond x y z, cc, c, s, a, Q, Q', hc, hs, h, hQ => by
    simp only [compCode] at hc
    split at hc
    · rename_i cy cz hy hz
      simp only [Option.some.injEq] at hc; subst hc
      unfold W at h
      split at h
      · rename_i b hb
        have hx := cO_rel hs.tm x
        rw [hb] at hx
        refine wp_cond (t := b) hx.v_inv ?_
        cases b with
        | true => exact W_sound hR hD y hy hs h hQ
        | false => exact W_sound hR hD z hz hs h hQ
      · exact h.elim
    · simp at hc
  | .block id x, cc, c, s, a, Q, Q', hc, hs, h, hQ => by
    simp only [compCode, Option.map_eq_some_iff] at hc
    obtain ⟨cx, hx, rfl⟩ := hc
    refine wp_block (W_sound hR hD x hx hs h ?_)
    intro e s' c' a' q hs' he
    cases e with
    | normal => exact hQ .normal s' c' a' q hs' he
    | exit i =>
      dsimp only at q
      simp only [toExit, Exit.inBlock]
      split at q
      · rename_i hi; rw [if_pos hi]; exact hQ .normal s' c' a' q hs' he
      · rename_i hi; rw [if_neg hi]; exact hQ (.exit i) s' c' a' q hs' he
    | ret => exact hQ .ret s' c' a' q hs' he
  | .loop x, cc, c, s, a, Q, Q', hc, hs, h, hQ => by
    simp only [compCode, Option.map_eq_some_iff] at hc
    obtain ⟨cx, hx, rfl⟩ := hc
    obtain ⟨n, h⟩ := h
    have key : ∀ (n : Nat) (c : Cx) (s : St) (a : Act), SR c s nt a → loopN (W R cx) Q n s → (∀ e s' c' a', Q e s' → SR c' s' nt a' → Ext c c' → Q' (toExit e) a' c'.w) → Code.rounds P x Q' n a c.w := by
      intro n
      induction n with
      | zero => intro c s a hs h hQ; exact h.elim
      | succ n ih =>
        intro c s a hs h hQ
        rw [rounds_succ]
        refine W_sound hR hD x hx hs h ?_
        intro e s' c' a' q hs' he
        cases e with
        | normal => exact ih c' s' a' hs' q (fun e s'' c'' a'' q hs'' he' => hQ e s'' c'' a'' q hs'' (he.trans he'))
        | exit i => exact hQ (.exit i) s' c' a' q hs' he
        | ret => exact hQ .ret s' c' a' q hs' he
    exact wp_loop_rounds n (key n c s a hs h hQ)
  | .exit id, cc, c, s, a, Q, Q', hc, hs, h, hQ => by
    simp only [compCode, Option.some.injEq] at hc; subst hc
    exact wp_exit (hQ (.exit id) s c a h hs (Ext.refl c))
  | .ret, cc, c, s, a, Q, Q', hc, hs, h, hQ => by
    simp only [compCode, Option.some.injEq] at hc; subst hc
    exact wp_ret (hQ .ret s c a h hs (Ext.refl c))
  | .rangeFunc .., cc, c, s, a, Q, Q', hc, hs, h, hQ => by simp [compCode] at hc
  | .scope .., cc, c, s, a, Q, Q', hc, hs, h, hQ => by simp [compCode] at hc
  | .label .., cc, c, s, a, Q, Q', hc, hs, h, hQ => by simp [compCode] at hc
  | .goto .., cc, c, s, a, Q, Q', hc, hs, h, hQ => by simp [compCode] at hc
  | .refuse .., cc, c, s, a, Q, Q', hc, hs, h, hQ => by
    simp only [compCode, Option.some.injEq] at hc; subst hc
    exact False.elim h

/-! ### Calls -/

theorem closedL_get : ∀ {l : List AV}, closedL l = true → ∀ (k : Nat) (av : AV), l[k]? = some av → av.closed = true
  | [], _, k, av, h => by simp at h
  | x :: r, hc, k, av, h => by
    simp only [closedL, Bool.and_eq_true] at hc
    cases k with
    | zero => simp at h; subst h; exact hc.1
    | succ k => exact closedL_get hc.2 k av (by simpa using h)
theorem closedLL_get : ∀ {es : List (List AV)}, closedLL es = true → ∀ (i : Nat) (l : List AV), es[i]? = some l → ∀ (j : Nat) (av : AV), l[j]? = some av → av.closed = true
  | [], _, i, l, h, _, _, _ => by simp at h
  | x :: r, hc, i, l, h, j, av, hj => by
    simp only [closedLL, Bool.and_eq_true] at hc
    cases i with
    | zero => simp at h; subst h; exact closedL_get hc.1 j av hj
    | succ i => exact closedLL_get hc.2 i l (by simpa using h) j av hj

theorem closed_rel {c c' : Cx} (hro : ∀ B, c.ro B → c'.ro B) (hcell : ∀ a : Addr, c.ro a.block → c'.w.cell? a = c.w.cell? a) {x : AV} {u : Value} (hc : x.closed = true) (h : VRel c x u) : VRel c' x u := by
  induction h with
  | v x => exact .v x
  | str l => exact .str l
  | ptr h hpm => simp [AV.closed] at hc
  | mp h hpm => simp [AV.closed] at hc
  | it h h' hr hm hm' hmr e1 e2 e3 e4 => simp [AV.closed] at hc
  | stm h hr hm hmr e1 hs => simp [AV.closed] at hc
  | rp g h1 h2 h3 ih =>
    rename_i cells B O
    have hcl : ∀ (k : Nat) (av : AV), cells[k]? = some av → av.closed = true := closedL_get (by simpa [AV.closed] using hc)
    exact .rp g (fun h => hro _ (h1 h)) (fun k av h => by rw [hcell ⟨B, O + k, none⟩ (h1 (ne_nil_of_get h))]; exact h2 k av h) (fun k av h => ih k av h (hcl k av h))
  | sl a b d e f g h hpm => simp [AV.closed] at hc
  | nil h => exact .nil h
  | rs g hlen hl hcap hsz hr h2 h3 ih =>
    rename_i sz n len es cap a
    have hcl : ∀ (i : Nat) (l : List AV), es[i]? = some l → ∀ (j : Nat) (av : AV), l[j]? = some av → av.closed = true := closedLL_get (by simpa [AV.closed] using hc)
    exact .rs g hlen hl hcap hsz (fun h => ⟨hro _ (hr h).1, (hr h).2⟩) (fun i j l av h1 h4 => by rw [hcell ⟨a.block, a.off + i * sz + j, none⟩ (hr (ne_nil_of_get h1)).1]; exact h2 i j l av h1 h4) (fun i j l av h1 h4 => ih i j l av h1 h4 (hcl i l h1 j av h4))
  | agg hl hv ih =>
    rename_i cells cs
    have hcl : ∀ (k : Nat) (av : AV), cells[k]? = some av → av.closed = true := closedL_get (by simpa [AV.closed] using hc)
    exact .agg hl (fun k av u h1 h2 => ih k av u h1 h2 (hcl k av h1))
  | tup hl hv ih =>
    rename_i cells cs
    have hcl : ∀ (k : Nat) (av : AV), cells[k]? = some av → av.closed = true := closedL_get (by simpa [AV.closed] using hc)
    exact .tup hl (fun k av u h1 h2 => ih k av u h1 h2 (hcl k av h1))
  | fn h1 h2 hx hy ihx ihy =>
    rename_i f x y cx cy
    simp only [AV.closed, Bool.and_eq_true] at hc
    exact .fn h1 h2 (fun k av u h3 h4 => ihx k av u h3 h4 (closedL_get hc.1 k av h3)) (fun k av u h3 h4 => ihy k av u h3 h4 (closedL_get hc.2 k av h3))
  | ifc h ih => exact .ifc (ih (by simpa [AV.closed] using hc))

theorem mapO_get {α β : Type} {f : α → Option β} : ∀ {l : List α} {l' : List β}, mapO f l = some l' → l'.length = l.length ∧ ∀ (k : Nat) (y : β), l'[k]? = some y → ∃ x, l[k]? = some x ∧ f x = some y
  | [], l', h => by simp only [mapO, Option.some.injEq] at h; subst h; exact ⟨rfl, fun k y h => by simp at h⟩
  | x :: r, l', h => by
    simp only [mapO] at h
    split at h
    · rename_i y l hy hl
      simp only [Option.some.injEq] at h; subst h
      obtain ⟨h1, h2⟩ := mapO_get hl
      refine ⟨by simp [h1], fun k z hk => ?_⟩
      cases k with
      | zero => simp at hk; subst hk; exact ⟨x, rfl, hy⟩
      | succ k => simpa using h2 k z (by simpa using hk)
    · simp at h

/-- What a call hands out, its own blocks being let go: 'c' is its own context at the end, 'c2' the caller's. -/
theorem frz_rel {c c2 : Cx} {nx : Nat} (hh : HRel c nx) (hw : c2.w = c.w) (hro : ∀ B, c.ro B → c2.ro B) (hown : ∀ B, c.own B → c2.ro B) : ∀ (d : Nat) {x y : AV} {u : Value}, frz d c.hp x = some y → VRel c x u → VRel c2 y u
  | 0, x, y, u, h, _ => by simp [frz] at h
  | d + 1, x, y, u, h, hv => by
    have ih := fun {x y : AV} {u : Value} => frz_rel hh hw hro hown d (x := x) (y := y) (u := u)
    unfold frz at h
    split at h
    · rename_i hc
      simp only [Option.some.injEq] at h; subst h
      exact closed_rel hro (fun a _ => by rw [hw]) hc hv
    · split at h
      · rename_i r sz i len cap hnc
        split at h
        · rename_i es hes
          split at h
          · rename_i hle
            simp only [Option.map_eq_some_iff] at h
            obtain ⟨es', hes', rfl⟩ := h
            obtain ⟨hl1, hg1⟩ := mapO_get hes'
            have hdl : ((es.drop i).take len).length = len := by simp; omega
            cases hv with
            | sl hι hs ha hl hcap hN hE hpm =>
              rename_i n p a
              obtain ⟨hF, cs, e, fz, h3, h4, h5, h6⟩ := hh.cells hes hι hpm
              have hget : ∀ (k : Nat) (l : List AV), ((es.drop i).take len)[k]? = some l → es[i + k]? = some l ∧ k < len := by
                intro k l hk
                rw [List.getElem?_take] at hk
                split at hk
                · rw [List.getElem?_drop] at hk; exact ⟨hk, by assumption⟩
                · simp at hk
              have had : es' ≠ [] → a = ⟨p.B, p.O + i * sz, none⟩ := by
                intro hne
                have : es'.length ≠ 0 := fun h => hne (List.length_eq_zero_iff.1 h)
                exact ha (by omega)
              have hrow : ∀ (k : Nat) (l' : List AV), es'[k]? = some l' → ∃ l, es[i + k]? = some l ∧ l'.length = l.length ∧ ∀ (j : Nat) (av : AV), l'[j]? = some av → ∃ av0, l[j]? = some av0 ∧ frz d c.hp av0 = some av := by
                intro k l' hk
                obtain ⟨l, h7, h8⟩ := hg1 k l' hk
                obtain ⟨h9, h10⟩ := mapO_get h8
                exact ⟨l, (hget k l h7).1, h9, h10⟩
              refine .rs (fun k j => (cs[p.O + (i + k) * p.sz + j]?).getD undef) (by rw [hl1, hdl]) hl hcap ?_ ?_ ?_ ?_
              · intro k l' hk
                obtain ⟨l, h7, h8, _⟩ := hrow k l' hk
                rw [h8, (h6 _ l h7).1, hs]
              · intro hne
                rw [had hne]
                exact ⟨hown _ ⟨r, p, by simp [hes], hι, rfl⟩, rfl⟩
              · intro k j l' av hk hj
                obtain ⟨l, h7, h8, h9⟩ := hrow k l' hk
                obtain ⟨av0, h10, h11⟩ := h9 j av hj
                obtain ⟨u, h12, h13⟩ := (h6 _ l h7).2 j av0 h10
                rw [had (ne_nil_of_get hk), hw]
                simp only [World.cell?, h3]
                rw [h12, ← hs, show p.O + i * p.sz + k * p.sz + j = p.O + (i + k) * p.sz + j by rw [Nat.add_mul]; omega, h12]
                rfl
              · intro k j l' av hk hj
                obtain ⟨l, h7, h8, h9⟩ := hrow k l' hk
                obtain ⟨av0, h10, h11⟩ := h9 j av hj
                obtain ⟨u, h12, h13⟩ := (h6 _ l h7).2 j av0 h10
                simp only [h12, Option.getD_some]
                exact ih h11 h13
          · simp at h
        · simp at h
      · rename_i cs
        simp only [Option.map_eq_some_iff] at h
        obtain ⟨cs', hcs', rfl⟩ := h
        obtain ⟨hl1, hg1⟩ := mapO_get hcs'
        obtain ⟨us, rfl, hl, hvv⟩ := hv.agg_inv
        refine .agg (by omega) (fun k av u h1 h2 => ?_)
        obtain ⟨av0, h3, h4⟩ := hg1 k av h1
        exact ih h4 (hvv k av0 u h3 h2)
      · rename_i cs
        simp only [Option.map_eq_some_iff] at h
        obtain ⟨cs', hcs', rfl⟩ := h
        obtain ⟨hl1, hg1⟩ := mapO_get hcs'
        obtain ⟨us, rfl, hl, hvv⟩ := hv.tup_inv
        refine .tup (by omega) (fun k av u h1 h2 => ?_)
        obtain ⟨av0, h3, h4⟩ := hg1 k av h1
        exact ih h4 (hvv k av0 u h3 h2)
      · simp at h

/-- A function's results. -/
def resSem (tmps : Array Value) : ResultVar → Sem Value
  | .tmp t => pure (tmps.getD t undef)
  | .cell ad t => do loadVar t (← asAddr (tmps.getD ad undef))

def RVOk (P : Program) : ResultVar → RV → Prop
  | .tmp t, .t n => n = t
  | .cell ad t, .cell ad' n => ad' = ad ∧ aggOf P t = some n
  | _, _ => False

theorem resOne_run {P : Program} {c : Cx} {s : St} {nt : Nat} {a : Act} (hs : SR c s nt a) {rv : ResultVar} {r : RV} {v : AV}
    (hc : RVOk P rv r) (h : resOne s r = some v) :
    ∃ u, (resSem a.tmps rv).run P c.w = .ok u c.w ∧ VRel c v u := by
  cases rv with
  | tmp t =>
    cases r with
    | t n =>
      have hc : n = t := hc
      subst hc
      simp only [resOne, Option.some.injEq] at h; subst h
      exact ⟨_, rfl, hs.tm n⟩
    | cell => exact hc.elim
  | cell ad t =>
    cases r with
    | t => exact hc.elim
    | cell ad' n =>
      have hc : ad' = ad ∧ aggOf P t = some n := hc
      obtain ⟨rfl, hn⟩ := hc
      simp only [resOne] at h
      have h1 := hs.tm ad'
      split at h
      · rename_i r i o hx
        split at h
        · rename_i es hes
          split at h
          · rename_i l hl
            rw [hx] at h1
            generalize hu : a.tmps.getD ad' undef = u at h1
            cases h1 with
            | ptr hι hpm =>
              rename_i p
              rw [← hs.hp] at hes
              obtain ⟨hF, cs, e, fz, h3, h4, h5, h6⟩ := hs.rel.cells hes hι hpm
              obtain ⟨h7, h8⟩ := h6 i l hl
              obtain ⟨u, h9, h10⟩ := loadVar_run (P := P) hn (B := p.B) (O := p.O + i * p.sz) (off := o) (cells := l) (fun k av hk => by
                obtain ⟨u, h11, h12⟩ := h8 k av hk
                refine ⟨u, ?_, h12⟩
                simp only [World.cell?, h3]
                simpa using h11) h
              exact ⟨u, by simp only [resSem, hu, asAddr, Sem.run_bind, Sem.run_pure, Result.andThen_ok, h9], h10⟩
          · simp at h
        · simp at h
      · rename_i cells hx
        rw [hx] at h1
        generalize hu : a.tmps.getD ad' undef = u at h1
        cases h1 with
        | rp g hro hcell hvv =>
          rename_i B O
          obtain ⟨u, h2, h3⟩ := loadVar_run (P := P) hn (B := B) (O := O) (off := 0) (cells := cells) (fun k av hk => ⟨g k, hcell k av hk, hvv k av hk⟩) h
          rw [Nat.add_zero] at h2
          exact ⟨u, by simp only [resSem, hu, asAddr, Sem.run_bind, Sem.run_pure, Result.andThen_ok, h2], h3⟩
      · simp at h

theorem compRes_cons {P : Program} {rv : ResultVar} {rvs : List ResultVar} {rs : List RV} (h : compRes P (rv :: rvs) = some rs) :
    ∃ r rl, rs = r :: rl ∧ RVOk P rv r ∧ compRes P rvs = some rl := by
  cases rv with
  | tmp t =>
    simp only [compRes, Option.map_eq_some_iff] at h
    obtain ⟨l, hl, rfl⟩ := h
    exact ⟨_, _, rfl, rfl, hl⟩
  | cell ad t =>
    simp only [compRes] at h
    split at h
    · rename_i n l hn hl
      simp only [Option.some.injEq] at h; subst h
      exact ⟨_, _, rfl, ⟨rfl, hn⟩, hl⟩
    · simp at h

theorem resAll_run {P : Program} {c : Cx} {s : St} {nt : Nat} {a : Act} (hs : SR c s nt a) : ∀ {rvs : List ResultVar} {rs : List RV} {vs : List AV}, compRes P rvs = some rs → mapO (resOne s) rs = some vs →
    ∃ us : List Value, (rvs.mapM (resSem a.tmps)).run P c.w = .ok us c.w ∧ LRel c vs us
  | [], rs, vs, hc, h => by
    simp only [compRes, Option.some.injEq] at hc; subst hc
    simp only [mapO, Option.some.injEq] at h; subst h
    exact ⟨[], rfl, rfl, fun k av u h => by simp at h⟩
  | rv :: rvs, rs, vs, hc, h => by
    obtain ⟨r, rl, rfl, hm, hcl⟩ := compRes_cons hc
    simp only [mapO] at h
    split at h
    · rename_i v l hv hl
      simp only [Option.some.injEq] at h; subst h
      obtain ⟨u, h1, h2⟩ := resOne_run (P := P) hs hm hv
      obtain ⟨us, h3, h4⟩ := resAll_run hs hcl hl
      refine ⟨u :: us, by simp only [List.mapM_cons, Sem.run_bind, h1, Result.andThen_ok, h3, Sem.run_pure], by simp [h4.1], fun k av x hk1 hk2 => ?_⟩
      cases k with
      | zero => simp at hk1 hk2; subst hk1; subst hk2; exact h2
      | succ k => exact h4.2 k av x (by simpa using hk1) (by simpa using hk2)
    · simp at h

theorem results_run {P : Program} {c : Cx} {s : St} {nt : Nat} {a : Act} (hs : SR c s nt a) {fn : Func} {rs : List RV} {v : AV} (hc : compRes P fn.results.toList = some rs) (h : resA rs s = some v) :
    ∃ u, (results fn a.tmps).run P c.w = .ok u c.w ∧ VRel c v u := by
  have hform : results fn a.tmps = (do let vs ← fn.results.mapM (resSem a.tmps); pure (if h : vs.size = 1 then vs[0] else .tuple vs)) := by
    unfold results
    congr 1
  rw [hform, Array.mapM_eq_mapM_toList]
  have fin : ∀ (us : List Value), (fn.results.toList.mapM (resSem a.tmps)).run P c.w = .ok us c.w →
      ((do let vs ← (List.toArray <$> fn.results.toList.mapM (resSem a.tmps)); pure (if h : vs.size = 1 then vs[0] else .tuple vs)) : Sem Value).run P c.w = .ok (if h : us.length = 1 then us[0] else .tuple us.toArray) c.w := by
    intro us hus
    simp only [Sem.run_bind, Sem.run_map, hus, Result.andThen_ok, Sem.run_pure]
    by_cases h1 : us.length = 1 <;> simp [h1]
  unfold resA at h
  split at h
  · rename_i r
    have hex : mapO (resOne s) [r] = some [v] := by simp [mapO, h]
    obtain ⟨us, h1, h2⟩ := resAll_run hs hc hex
    have hlen := h2.1
    refine ⟨_, fin us h1, ?_⟩
    simp only [List.length_cons, List.length_nil] at hlen
    rw [dif_pos hlen.symm]
    exact h2.2 0 v _ rfl (by simp)
  · rename_i hne
    simp only [Option.map_eq_some_iff] at h
    obtain ⟨vs, hvs, rfl⟩ := h
    obtain ⟨us, h1, h2⟩ := resAll_run hs hc hvs
    obtain ⟨hl1, _⟩ := mapO_get hvs
    have hlen : us.length ≠ 1 := by
      intro h
      rw [← h2.1, hl1] at h
      obtain ⟨r, hr⟩ := List.length_eq_one_iff.1 h
      exact hne r hr
    refine ⟨_, fin us h1, ?_⟩
    rw [dif_neg hlen]
    exact .tup (by simpa using h2.1) (fun k av u h3 h4 => h2.2 k av u h3 (by simpa using h4))

theorem flatL_get : ∀ {l : List AV}, flatL l = true → ∀ (k : Nat) (av : AV), l[k]? = some av → av.flat = true
  | [], _, k, av, h => by simp at h
  | x :: r, hc, k, av, h => by
    simp only [flatL, Bool.and_eq_true] at hc
    cases k with
    | zero => simp at h; subst h; exact hc.1
    | succ k => exact flatL_get hc.2 k av (by simpa using h)
theorem flat_rel {c c' : Cx} {x : AV} {u : Value} (hc : x.flat = true) (h : VRel c x u) : VRel c' x u := by
  induction h with
  | v x => exact .v x
  | str l => exact .str l
  | ptr h hpm => simp [AV.flat] at hc
  | mp h hpm => simp [AV.flat] at hc
  | it h h' hr hm hm' hmr e1 e2 e3 e4 => simp [AV.flat] at hc
  | stm h hr hm hmr e1 hs => simp [AV.flat] at hc
  | rp g h1 h2 h3 ih => simp [AV.flat] at hc
  | sl a b d e f g h hpm => simp [AV.flat] at hc
  | nil h => exact .nil h
  | rs g hlen hl hcap hsz hr h2 h3 ih => simp [AV.flat] at hc
  | agg hl hv ih =>
    have hcl := flatL_get (by simpa [AV.flat] using hc)
    exact .agg hl (fun k av u h1 h2 => ih k av u h1 h2 (hcl k av h1))
  | tup hl hv ih =>
    have hcl := flatL_get (by simpa [AV.flat] using hc)
    exact .tup hl (fun k av u h1 h2 => ih k av u h1 h2 (hcl k av h1))
  | fn h1 h2 hx hy ihx ihy => simp [AV.flat] at hc
  | ifc h ih => simp [AV.flat] at hc

/-- What is handed on, some blocks being given away: 'c' knows just these blocks. -/
theorem frzP_rel {c c2 : Cx} {nx : Nat} (hh : HRel c nx) (hw : c2.w = c.w) (hι : c2.ι = c.ι) (hro : ∀ B, c.ro B → c2.ro B) (hown : ∀ B, c.own B → c2.ro B) : ∀ (d : Nat) {x y : AV} {u : Value}, frzP d c.hp x = some y → VRel c x u → VRel c2 y u
  | 0, x, y, u, h, _ => by simp [frzP] at h
  | d + 1, x, y, u, h, hv => by
    have ih := fun {x y : AV} {u : Value} => frzP_rel hh hw hι hro hown d (x := x) (y := y) (u := u)
    by_cases hcl : x.closed = true
    · simp only [frzP, hcl, if_true, Option.some.injEq] at h; subst h
      exact closed_rel hro (fun a _ => by rw [hw]) hcl hv
    · cases x with
      | v x => simp [AV.closed] at hcl
      | str l => simp [AV.closed] at hcl
      | ptr r i o =>
        simp only [frzP, hcl, Bool.false_eq_true, if_false, Option.some.injEq] at h; subst h
        cases hv with
        | ptr h hpm => exact .ptr (by rw [hι]; exact h) hpm
      | rp cells => simp [frzP, hcl] at h
      | sl r sz i len cap =>
        cases hr : c.hp r with
        | none =>
          simp only [frzP, hcl, Bool.false_eq_true, if_false, hr, Option.some.injEq] at h; subst h
          cases hv with
          | sl h1 hs ha hl hcap hN hE hpm => exact .sl (by rw [hι]; exact h1) hs ha hl hcap hN hE hpm
        | some es =>
          have hz : frz (d + 1) c.hp (.sl r sz i len cap) = some y := by
            simp only [frzP, hcl, Bool.false_eq_true, if_false, hr] at h
            simp only [frz, hcl, Bool.false_eq_true, if_false, hr]
            exact h
          exact frz_rel hh hw hro hown (d + 1) hz hv
      | rs n z es cap => simp [frzP, hcl] at h
      | agg cs =>
        simp only [frzP, hcl, Bool.false_eq_true, if_false, Option.map_eq_some_iff] at h
        obtain ⟨cs', hcs', rfl⟩ := h
        obtain ⟨hl1, hg1⟩ := mapO_get hcs'
        obtain ⟨us, rfl, hl, hvv⟩ := hv.agg_inv
        refine .agg (by omega) (fun k av u h1 h2 => ?_)
        obtain ⟨av0, h3, h4⟩ := hg1 k av h1
        exact ih h4 (hvv k av0 u h3 h2)
      | tup cs =>
        simp only [frzP, hcl, Bool.false_eq_true, if_false, Option.map_eq_some_iff] at h
        obtain ⟨cs', hcs', rfl⟩ := h
        obtain ⟨hl1, hg1⟩ := mapO_get hcs'
        obtain ⟨us, rfl, hl, hvv⟩ := hv.tup_inv
        refine .tup (by omega) (fun k av u h1 h2 => ?_)
        obtain ⟨av0, h3, h4⟩ := hg1 k av h1
        exact ih h4 (hvv k av0 u h3 h2)
      | fn f a b =>
        simp only [frzP, hcl, Bool.false_eq_true, if_false] at h
        split at h
        · rename_i a' b' ha hb
          simp only [Option.some.injEq] at h; subst h
          obtain ⟨hl1, hg1⟩ := mapO_get ha
          obtain ⟨hl2, hg2⟩ := mapO_get hb
          cases hv with
          | fn h1 h2 hx hy =>
            exact .fn (by omega) (by omega) (fun k av u h3 h4 => by obtain ⟨av0, h5, h6⟩ := hg1 k av h3; exact ih h6 (hx k av0 u h5 h4)) (fun k av u h3 h4 => by obtain ⟨av0, h5, h6⟩ := hg2 k av h3; exact ih h6 (hy k av0 u h5 h4))
        · simp at h
      | ifc t x => simp [frzP, hcl] at h
      | ty t k => simp [frzP, hcl] at h
      | tk k q r => simp [frzP, hcl] at h
      | mp r =>
        simp only [frzP, hcl, Bool.false_eq_true, if_false, Option.some.injEq] at h; subst h
        cases hv with
        | mp h hpm => exact .mp (by rw [hι]; exact h) hpm

/-- The same value, for one who knows fewer blocks, and takes the others for a caller's. -/
theorem VRel.part {c c' : Cx} (hw : c'.w = c.w) (hι : c'.ι = c.ι) (hro : ∀ B, c.ro B → c'.ro B) {x : AV} {u : Value} (h : VRel c x u) : VRel c' x u := by
  induction h with
  | v x => exact .v x
  | str l => exact .str l
  | ptr h hpm => exact .ptr (by rw [hι]; exact h) hpm
  | mp h hpm => exact .mp (by rw [hι]; exact h) hpm
  | it h h' hr hm hm' hmr e1 e2 e3 e4 => exact .it (by rw [hι]; exact h) (by rw [hι]; exact h') (by rw [hι]; exact hr) hm hm' hmr e1 e2 e3 e4
  | stm h hr hm hmr e1 hs => exact .stm (by rw [hι]; exact h) (by rw [hι]; exact hr) hm hmr e1 hs
  | rp g h1 h2 h3 ih => exact .rp g (fun h => hro _ (h1 h)) (fun k av h => by rw [hw]; exact h2 k av h) ih
  | sl h1 hs ha hl hcap hN hE hpm => exact .sl (by rw [hι]; exact h1) hs ha hl hcap hN hE hpm
  | nil h => exact .nil h
  | rs g hlen hl hcap hsz hr h2 h3 ih => exact .rs g hlen hl hcap hsz (fun h => ⟨hro _ (hr h).1, (hr h).2⟩) (fun i j l av h1 h4 => by rw [hw]; exact h2 i j l av h1 h4) ih
  | agg hl hv ih => exact .agg hl ih
  | tup hl hv ih => exact .tup hl ih
  | fn h1 h2 hx hy ihx ihy => exact .fn h1 h2 ihx ihy
  | ifc h ih => exact .ifc ih

theorem lend_sound {P : Program} {R : CallRel} (hR : RelSound P R) {f : Nat} {args args0 : List AV} {v : AV} {c : Cx} {nx : Nat} {cargs : Array Value} (hz : mapO (frz 6 c.hp) args = some args0) (hv : v.flat = true) (h : R f args0 hnil 0 v hnil 0 .p) (hrel : HRel c nx) (hargs : LRel c args cargs.toList) :
    CallsX P f cargs c.w (CallPost c .e v c.hp nx nx) := by
  let c1 : Cx := ⟨c.F, fun _ => none, hnil, c.w⟩
  have hno : ∀ B, ¬ c1.own B := by rintro B ⟨r, p, h, _⟩; exact h rfl
  have hrel1 : HRel c1 0 := ⟨fun r h => absurd rfl h, fun r p h => by simp [c1] at h, fun r es p h => by simp [c1, hnil] at h, fun r r' p p' h => absurd rfl h, hrel.F, ⟨fun r t k h => by simp [c1, hnil] at h, fun r t h => by simp [c1, hnil] at h⟩, hrel.gl.to rfl (fun B hB => ⟨hB.1, hno B, hB.2.2⟩) fun _ _ => rfl⟩
  obtain ⟨hl1, hg1⟩ := mapO_get hz
  have hownF : ∀ B, c.own B → ¬ c.F B := by
    rintro B ⟨r, p, e1, e2, rfl⟩
    cases he : c.hp r with
    | none => exact absurd he e1
    | some es => exact (hrel.blk r es p he e2).1
  have hargs1 : LRel c1 args0 cargs.toList := by
    refine ⟨by rw [hl1]; exact hargs.1, fun k av u e1 e2 => ?_⟩
    obtain ⟨av0, h3, h4⟩ := hg1 k av e1
    exact frz_rel (c := c) (c2 := c1) hrel rfl (fun B hB => ⟨hB.1, hno B, hB.2.2⟩) (fun B hB => ⟨hrel.own_lt hB, hno B, hownF B hB⟩) 6 h4 (hargs.2 k av0 u h3 e2)
  refine CallsX.mono (hR.calls _ _ _ _ _ _ _ _ h c1 cargs rfl hrel1 hargs1) ?_
  rintro e w' ⟨u, ι', rfl, _, hext, _, hvv⟩
  have hkeep : ∀ B, B < c.w.heap.size → w'.heap[B]? = c.w.heap[B]? := fun B hB => (hext.keep B hB (hno B)).2
  have hgrow : Grow c.w w' := ⟨hext.size, hkeep, hext.os, hext.tape, hext.output⟩
  exact ⟨u, c.ι, rfl, (fun h => by cases h), ⟨rfl, fun _ _ h => h, hext.size, fun B hB ho => ⟨ho, hkeep B hB⟩, hext.os, hext.tape, hext.output⟩, hrel.grow hgrow, flat_rel hv hvv⟩

theorem give_sound {P : Program} {R : CallRel} (hR : RelSound P R) {f : Nat} {args args0 : List AV} {v : AV} {c : Cx} {nx nx' : Nat} {hp' : Heap} {k' : Kd} {L : List Nat} {cargs : Array Value} (hz : mapO (frzP 6 (restrH c.hp L)) args = some args0) (h : R f args0 (dropH c.hp L) nx v hp' nx' k') (hrel : HRel c nx) (hargs : LRel c args cargs.toList) :
    CallsX P f cargs c.w (CallPost c .e v hp' nx nx') := by
  have hsub : Sub (dropH c.hp L) c.hp := fun r => by simp only [dropH]; split <;> simp
  obtain ⟨hrel1, hext1⟩ := sub_rel hrel hsub
  let c1 : Cx := { c with hp := dropH c.hp L }
  have hrel1 : HRel c1 nx := hrel1
  have hext1 : Ext c c1 := hext1
  let cL : Cx := ⟨⟨fun B => c.F B ∨ c1.own B, c.F.G⟩, c.ι, restrH c.hp L, c.w⟩
  have hsubL : Sub (restrH c.hp L) c.hp := fun r => by simp only [restrH]; split <;> simp
  have hne : ∀ r, restrH c.hp L r ≠ none → r ∈ L ∧ restrH c.hp L r = c.hp r := fun r h => by
    simp only [restrH] at h ⊢
    split at h
    · rename_i hr; exact ⟨hr, by rw [if_pos hr]⟩
    · exact absurd rfl h
  have hne1 : ∀ r, dropH c.hp L r ≠ none → r ∉ L ∧ dropH c.hp L r = c.hp r := fun r h => by
    simp only [dropH] at h ⊢
    split at h
    · exact absurd rfl h
    · rename_i hr; exact ⟨hr, by rw [if_neg hr]⟩
  have hownF : ∀ B, c.own B → ¬ c.F B := by
    rintro B ⟨r, p, e1, e2, rfl⟩
    cases he : c.hp r with
    | none => exact absurd he e1
    | some es => exact (hrel.blk r es p he e2).1
  have happart : ∀ B, cL.own B → ¬ c1.own B := by
    rintro B ⟨r, p, e1, e2, e3⟩ ⟨r', p', e4, e5, e6⟩
    obtain ⟨m1, m2⟩ := hne r e1
    obtain ⟨m3, m4⟩ := hne1 r' e4
    have : r = r' := hrel.inj r r' p p' (by rw [← m2]; exact e1) (by rw [← m4]; exact e4) e2 e5 (by rw [e3, e6])
    subst this; exact m3 m1
  have hcL : ∀ B, cL.own B → c.own B := by
    rintro B ⟨r, p, e1, e2, e3⟩
    exact ⟨r, p, by rw [← (hne r e1).2]; exact e1, e2, e3⟩
  have hc1 : ∀ B, c1.own B → c.own B := by
    rintro B ⟨r, p, e1, e2, e3⟩
    exact ⟨r, p, by rw [← (hne1 r e1).2]; exact e1, e2, e3⟩
  have hroL : ∀ B, c.ro B → cL.ro B := fun B hB => ⟨hB.1, fun h => hB.2.1 (hcL B h), fun h => h.elim hB.2.2 (fun h => hB.2.1 (hc1 B h))⟩
  have hrelL : HRel cL nx := by
    refine ⟨?_, hrel.lt, ?_, ?_, ?_, hrel.ty.to (fun r t k rest hr => by
        have hr : restrH c.hp L r = _ := hr
        rw [← (hne r (by simp [hr])).2]; exact hr) (fun _ _ h => h) (fun B cs t fz hB => ⟨cs, hB, rfl⟩) (fun r _ _ hr => by
        have hr : restrH c.hp L r ≠ none := hr
        rw [(hne r hr).2] at hr; exact hr), hrel.gl.to rfl hroL fun _ _ => rfl⟩
    · intro r h
      have h : restrH c.hp L r ≠ none := h
      exact hrel.dom r (by rw [← (hne r h).2]; exact h)
    · intro r es p h1 h2
      have h1' : restrH c.hp L r = some es := h1
      have hn : restrH c.hp L r ≠ none := by simp [h1']
      have h3 : c.hp r = some es := by rw [← (hne r hn).2]; exact h1'
      obtain ⟨hF, o, h4, h5⟩ := hrel.blk r es p h3 h2
      refine ⟨?_, o, h4, h5.move fun x u h => VRel.part (c := c) (c' := cL) rfl rfl hroL h⟩
      rintro (h | h)
      · exact hF h
      · exact happart p.B ⟨r, p, hn, h2, rfl⟩ h
    · intro r r' p p' h1 h2 h3 h4 h5
      have h1 : restrH c.hp L r ≠ none := h1
      have h2 : restrH c.hp L r' ≠ none := h2
      exact hrel.inj r r' p p' (by rw [← (hne r h1).2]; exact h1) (by rw [← (hne r' h2).2]; exact h2) h3 h4 h5
    · rintro B (h | h)
      · exact hrel.F B h
      · exact hrel.own_lt (hc1 B h)
  obtain ⟨hl1, hg1⟩ := mapO_get hz
  have hargs1 : LRel c1 args0 cargs.toList := by
    refine ⟨by rw [hl1]; exact hargs.1, fun k av u e1 e2 => ?_⟩
    obtain ⟨av0, h3, h4⟩ := hg1 k av e1
    refine frzP_rel (c := cL) (c2 := c1) hrelL rfl rfl ?_ ?_ 6 h4 (VRel.part (c := c) (c' := cL) rfl rfl hroL (hargs.2 k av0 u h3 e2))
    · intro B hB
      exact ⟨hB.1, fun h => hB.2.2 (.inr h), fun h => hB.2.2 (.inl h)⟩
    · intro B hB
      exact ⟨hrel.own_lt (hcL B hB), happart B hB, hownF B (hcL B hB)⟩
  refine CallsX.mono (hR.calls _ _ _ _ _ _ _ _ h c1 cargs rfl hrel1 hargs1) ?_
  rintro e w' ⟨u, ι', rfl, _, hext, hrel2, hvv⟩
  exact ⟨u, ι', rfl, (fun h => by cases h), hext1.trans hext, hrel2, hvv⟩

/-- The same, with other calls deferred. -/
def Cx.df (c : Cx) (D : List Deferred) : Cx := ⟨⟨c.F.F, D⟩, c.ι, c.hp, c.w⟩
theorem VRel.df {c : Cx} {x : AV} {u : Value} (h : VRel c x u) (D : List Deferred) : VRel (c.df D) x u := VRel.part (c := c) (c' := c.df D) rfl rfl (fun B hB => hB) h
theorem HRel.df {c : Cx} {nx : Nat} (h : HRel c nx) (D : List Deferred) : HRel (c.df D) nx :=
  ⟨h.dom, h.lt, fun r es p h1 h2 => let ⟨h3, o, h4, h5⟩ := h.blk r es p h1 h2; ⟨h3, o, h4, h5.move fun x u g => g.df D⟩, h.inj, h.F, h.ty, h.gl⟩
theorem LRel.df {c : Cx} {x : List AV} {y : List Value} (h : LRel c x y) (D : List Deferred) : LRel (c.df D) x y := ⟨h.1, fun k av u h1 h2 => (h.2 k av u h1 h2).df D⟩
theorem Ext.df {c c' : Cx} (h : Ext c c') (D : List Deferred) : Ext (c.df D) (c'.df D) := ⟨by show (⟨c'.F.F, D⟩ : Frm) = ⟨c.F.F, D⟩; rw [h.F], h.ι, h.size, h.keep, h.os, h.tape, h.output⟩
theorem Cx.df_df {c : Cx} {D D' : List Deferred} : (c.df D).df D' = c.df D' := rfl
theorem Cx.df_self {c : Cx} : c.df c.F.G = c := rfl

/-- What is asked of an environment: each function is compiled from the program's; what is taken for granted of others is true. -/
structure EnvOk (P : Program) (E : Env) : Prop where
  fn : ∀ f cf, E.fn f = some cf → hasBody P f = true ∧ ∃ ow, compF P ow f = some cf
  prim : RelSound P E.prim

/-- A table of functions. -/
inductive BT where
  | leaf (k : Nat) (c : CFunc)
  | node (p : Nat) (l r : BT)
def BT.get : BT → Nat → Option CFunc
  | .leaf k c, f => bif Nat.beq f k then some c else none
  | .node p l r, f => bif Nat.ble f p then l.get f else r.get f
def BT.all (Q : Nat → CFunc → Prop) : BT → Prop
  | .leaf k c => Q k c
  | .node _ l r => l.all Q ∧ r.all Q
theorem BT.get_ok {Q : Nat → CFunc → Prop} : ∀ (t : BT) (f : Nat) (c : CFunc), t.all Q → t.get f = some c → Q f c
  | .leaf k c', f, c, h, e => by
    simp only [BT.get] at e
    cases hb : Nat.beq f k with
    | true => rw [hb] at e; cases e; rw [Nat.eq_of_beq_eq_true hb]; exact h
    | false => rw [hb] at e; cases e
  | .node p l r, f, c, h, e => by
    simp only [BT.get] at e
    cases hb : Nat.ble f p with
    | true => rw [hb] at e; exact l.get_ok f c h.1 e
    | false => rw [hb] at e; exact r.get_ok f c h.2 e

theorem RetN_sound {P : Program} {E : Env} (hE : EnvOk P E) (hD : ∀ R, RelSound P R → DrawSound P R) : ∀ n, RelSound P (RetN E n)
  | 0 => ⟨fun _ _ _ _ _ _ _ _ h => h.elim, fun _ _ _ _ _ _ _ h => h.elim, fun _ _ _ _ _ _ _ _ h => h.elim⟩
  | n + 1 => by
    have ih := RetN_sound hE hD n
    have hDn := hD _ ih
    refine ⟨?_, ?_, ?_⟩
    · intro f args hp nx v hp' nx' k h
      have h : E.prim f args hp nx v hp' nx' k ∨ _ := h
      rcases h with h | ⟨cf, h1, h2, h3⟩ | ⟨h1, _⟩ | ⟨h1, _⟩
      · exact hE.prim.kind _ _ _ _ _ _ _ _ h
      · rcases h3 with ⟨hk, _⟩ | ⟨hk, _⟩
        · exact .inl hk
        · exact .inr hk
      · exact .inr h1
      · exact .inr h1
    · intro f args hp nx v hp' nx' h
      have h : E.prim f args hp nx v hp' nx' .p ∨ _ := h
      rcases h with h | ⟨cf, h1, h2, h3⟩ | ⟨h1, _⟩ | ⟨h1, _⟩
      · obtain ⟨g1, g2, g3⟩ := hE.prim.pure _ _ _ _ _ _ _ h
        exact ⟨g1, g2, fun hp2 nx2 => Or.inl (g3 hp2 nx2)⟩
      · rcases h3 with ⟨_, h4, h5, h6, h7⟩ | ⟨hk, _⟩
        · exact ⟨h4, h5, fun hp2 nx2 => Or.inr (.inl ⟨cf, h1, h2, .inl ⟨rfl, rfl, rfl, h6, h7⟩⟩)⟩
        · cases hk
      · cases h1
      · cases h1
    · intro f args hp nx v hp' nx' k h c cargs hcp hrel hargs
      have h : E.prim f args hp nx v hp' nx' k ∨ _ := h
      rcases h with h | ⟨cf, h1, h2, h3⟩ | ⟨rfl, rfl, rfl, h4, args0, h5, h6⟩ | ⟨rfl, args0, L, k', h2, h3⟩
      · exact hE.prim.calls _ _ _ _ _ _ _ _ h c cargs hcp hrel hargs
      rotate_left
      · subst hcp; exact lend_sound ih h5 h4 h6 hrel hargs
      · subst hcp; exact give_sound ih h2 h3 hrel hargs
      · obtain ⟨hb, ow, hcf⟩ := hE.fn f cf h1
        refine .inl ⟨hb, ?_⟩
        unfold compF at hcf
        split at hcf
        · rename_i fn hfn
          split at hcf
          · rename_i code hcode
            split at hcf
            · rename_i b rs hbody hres
              split at hcf
              · rename_i hnp
                simp only [Option.some.injEq] at hcf; subst hcf
                have hsize : cargs.size = fn.params.size + fn.nfree := by
                  have := hargs.1
                  simp only [Array.length_toList] at this
                  rw [← this]; exact h2
                -- the first frame
                have hinit : ∀ (c1 : Cx) (hp1 : Heap) (nx1 : Nat), c1.F.G = [] → c1.hp = hp1 → HRel c1 nx1 → LRel c1 args cargs.toList → SR c1 (init args hp1 nx1) fn.ntmps { tmps := cargs ++ Array.replicate (fn.ntmps - cargs.size) undef, defers := [] } := by
                  intro c1 hp1 nx1 e0 e1 e2 e3
                  refine ⟨?_, ?_, e0.symm, e1, e2⟩
                  · intro t
                    simp only [init]
                    rcases Nat.lt_or_ge t cargs.size with hlt | hge
                    · have hl : t < args.length := by have := e3.1; simp at this; omega
                      rw [List.getElem?_eq_getElem hl, Option.getD_some]
                      have hg : (cargs ++ Array.replicate (fn.ntmps - cargs.size) undef).getD t undef = cargs[t] := by
                        rw [Array.getD_eq_getD_getElem?, Array.getElem?_append_left hlt]; simp [hlt]
                      rw [hg]
                      exact e3.2 t _ _ (List.getElem?_eq_getElem hl) (by simp [hlt])
                    · have hl : args.length ≤ t := by have := e3.1; simp at this; omega
                      rw [List.getElem?_eq_none hl, Option.getD_none]
                      have hg : (cargs ++ Array.replicate (fn.ntmps - cargs.size) undef).getD t undef = undef := by
                        rw [Array.getD_eq_getD_getElem?, Array.getElem?_append_right hge]
                        rcases Nat.lt_or_ge (t - cargs.size) (fn.ntmps - cargs.size) with h | h
                        · simp [h]
                        · rw [Array.getElem?_eq_none (by simp; omega)]; rfl
                      rw [hg]; exact .v _
                  · simp; omega
                have leave : ∀ {c1 : Cx} {Q : CExit → St → Prop} {R : Ending → World → Prop}, W (RetN E n) b Q (init args c1.hp 0) → True := fun _ => trivial
                rcases h3 with ⟨rfl, h4, h5, h6, h7⟩ | ⟨rfl, h4⟩
                · -- on its own
                  subst h4; subst h5
                  let c1 : Cx := ⟨⟨fun B => c.F B ∨ c.own B, []⟩, fun _ => none, hnil, c.w⟩
                  have hno : ∀ B, ¬ c1.own B := by rintro B ⟨r, p, h, _⟩; exact h rfl
                  have hrel1 : HRel c1 0 := by
                    refine ⟨fun r h => absurd rfl h, fun r p h => by simp [c1] at h, fun r es p h => by simp [c1, hnil] at h, fun r r' p p' h => absurd rfl h, ?_, ⟨fun r t k h => by simp [c1, hnil] at h, fun r t h => by simp [c1, hnil] at h⟩, hrel.gl.to2 (fun B hB => ⟨hB.1, hno B, fun h => h.elim hB.2.2 hB.2.1⟩) fun _ _ => rfl⟩
                    rintro B (h | h)
                    · exact hrel.F B h
                    · exact hrel.own_lt h
                  have hargs1 : LRel c1 args cargs.toList := by
                    refine ⟨hargs.1, fun k av u e1 e2 => ?_⟩
                    refine closed_rel (c := c) (c' := c1) ?_ (fun a _ => rfl) (closedL_get h6 k av e1) (hargs.2 k av u e1 e2)
                    intro B hB
                    exact ⟨hB.1, hno B, fun h => h.elim hB.2.2 hB.2.1⟩
                  refine calls_of_wp hfn hcode (W_sound (c := c1) ih hDn code hbody (hinit c1 hnil 0 rfl rfl hrel1 hargs1) h7 ?_)
                  rintro e s' c' a' ⟨hend, v1, hv1, hfz⟩ hs' hext
                  obtain ⟨u, hu1, hu2⟩ := results_run (P := P) hs' hres hv1
                  have hkeep : ∀ B, B < c.w.heap.size → c'.w.heap[B]? = c.w.heap[B]? := fun B hB => (hext.keep B hB (hno B)).2
                  let c2 : Cx := ⟨c.F, c.ι, c.hp, c'.w⟩
                  have hext2 : Ext c c2 := ⟨rfl, fun _ _ h => h, hext.size, fun B hB ho => ⟨ho, hkeep B hB⟩, hext.os, hext.tape, hext.output⟩
                  have hgrow : Grow c.w c'.w := ⟨hext.size, hkeep, hext.os, hext.tape, hext.output⟩
                  have hrel2 : HRel c2 nx' := hrel.grow hgrow
                  have hFF : (c'.F : Nat → Prop) = fun B => c.F B ∨ c.own B := congrArg Frm.F hext.F
                  have hnew : ∀ B, c'.own B → ¬ (c.F B ∨ c.own B) := by
                    rintro B ⟨r, p, e1, e2, rfl⟩
                    cases he : c'.hp r with
                    | none => exact absurd he e1
                    | some es =>
                      have := (hs'.rel.blk r es p he e2).1
                      rw [hFF] at this; exact this
                  have hvf : VRel c2 v u := by
                    refine frz_rel (c2 := c2) hs'.rel rfl ?_ ?_ 6 (by rw [hs'.hp]; exact hfz) hu2
                    · intro B hB
                      have h9 := hB.2.2
                      rw [hFF] at h9
                      exact ⟨hB.1, fun h => h9 (.inr h), fun h => h9 (.inl h)⟩
                    · intro B hB
                      have h9 := hnew B hB
                      exact ⟨hs'.rel.own_lt hB, fun h => h9 (.inr h), fun h => h9 (.inl h)⟩
                  have hpost : CallPost c .p v hp' nx' nx' (.returned u) c'.w := ⟨u, c.ι, rfl, fun _ => ⟨rfl, hcp.symm, rfl⟩, by rw [← hcp]; exact hext2, by rw [← hcp]; exact hrel2, by rw [← hcp]; exact hvf⟩
                  rcases hend with rfl | rfl
                  · exact ⟨hs'.df.trans (congrArg Frm.G hext.F), u, hu1, hpost⟩
                  · exact ⟨hs'.df.trans (congrArg Frm.G hext.F), u, hu1, hpost⟩
                · -- over the caller's memory
                  refine calls_of_wp hfn hcode (W_sound (c := c.df []) ih hDn code hbody (hinit (c.df []) hp nx rfl hcp (hrel.df []) (hargs.df [])) h4 ?_)
                  rintro e s' c' a' ⟨hend, hv1, hsub, rfl⟩ hs' hext
                  obtain ⟨u, hu1, hu2⟩ := results_run (P := P) hs' hres hv1
                  have hext2 : Ext c (c'.df c.F.G) := hext.df c.F.G
                  obtain ⟨k1, k2⟩ := sub_rel (hs'.rel.df c.F.G) (hp' := hp') (by show Sub hp' c'.hp; rw [hs'.hp]; exact hsub)
                  have hF : (c'.df c.F.G).F = c.F := hext2.F
                  have hpost : CallPost c .e v hp' nx s'.nx (.returned u) c'.w := by
                    refine ⟨u, c'.ι, rfl, (fun h => by cases h), ?_, ?_, ?_⟩
                    · have := hext2.trans k2; rw [← hF]; exact this
                    · rw [← hF]; exact k1
                    · rw [← hF]; exact (hu2.df c.F.G).mono k2
                  rcases hend with rfl | rfl
                  · exact ⟨hs'.df.trans (congrArg Frm.G hext.F), u, hu1, hpost⟩
                  · exact ⟨hs'.df.trans (congrArg Frm.G hext.F), u, hu1, hpost⟩
              · simp at hcf
            · simp at hcf
          · simp at hcf
        · simp at hcf

theorem Ret_sound {P : Program} {E : Env} (hE : EnvOk P E) (hD : ∀ R, RelSound P R → DrawSound P R) {f args hp nx v hp' nx' k} (h : Ret E f args hp nx v hp' nx' k) (c : Cx) (cargs : Array Value) (hc : c.hp = hp) (hr : HRel c nx) (ha : LRel c args cargs.toList) :
    CallsX P f cargs c.w (CallPost c k v hp' nx nx') := by
  obtain ⟨n, h⟩ := h
  exact (RetN_sound hE hD n).calls _ _ _ _ _ _ _ _ h c cargs hc hr ha

end Go.Ai
