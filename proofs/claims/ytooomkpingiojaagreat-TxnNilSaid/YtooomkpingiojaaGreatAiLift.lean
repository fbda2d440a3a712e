/- A slice whose room is not told, given to a function that asks for its room: whatever the room is, it comes to the same. -/
import Derived.Test.YtooomkpingiojaaGreatAiDraw
namespace Go.Ai
set_option linter.unusedVariables false
set_option linter.unusedSimpArgs false

/-- Rows of plain values. -/
def Plain (sz : Nat) (spare : Blk) : Prop := ∀ l ∈ spare, l.length = sz ∧ ∀ x ∈ l, ∃ u, x = AV.v u

/-- Functions ('ok') that were walked with the room told (in E0), whatever it was. -/
def LiftRel (E0 : Env) (ok : Nat → Bool) : CallRel := fun f args hp nx v hp' nx' k =>
  ok f = true ∧ k = .e ∧ nx' = nx + 1 ∧ ∃ (r sz : Nat) (es es' : Blk) (rest : List AV), args = .sl r sz 0 es.length none :: rest ∧ hp r = some es ∧ v = .sl nx sz 0 es'.length none ∧ hp' = hupd (hupd hp r none) nx (some es') ∧
    ∀ spare : Blk, Plain sz spare → ∃ hp2 nx2 k2 q c2, Ret E0 f (.sl r sz 0 es.length (some (es.length + spare.length)) :: rest) (hupd hp r (some (es ++ spare))) nx (.sl q sz 0 es'.length c2) hp2 nx2 k2 ∧
      (∃ sp, hp2 q = some (es' ++ sp)) ∧ ((q = r ∧ nx2 = nx ∧ c2 = some (es.length + spare.length)) ∨ (q = nx ∧ nx2 = nx + 1 ∧ c2 = none)) ∧ ∀ x, x < nx → x ≠ r → hp2 x = hp x

theorem lift_sound {P : Program} {E0 : Env} (hE : EnvOk P E0) (hm : P.follows .mixedOrders = true) (ok : Nat → Bool) : RelSound P (LiftRel E0 ok) := by
  refine ⟨fun f args hp nx v hp' nx' k h => .inr h.2.1, (fun f args hp nx v hp' nx' h => nomatch h.2.1), ?_⟩
  rintro f args hp nx v hp' nx' k ⟨_, rfl, rfl, r, sz, es, es', rest, rfl, hr, rfl, rfl, key⟩ c cargs hc hrel hargs
  subst hc
  obtain ⟨u0, crest, rfl⟩ : ∃ u0 crest, cargs = ⟨u0 :: crest⟩ := by
    obtain ⟨q⟩ := cargs
    match q, hargs.1 with
    | u0 :: crest, _ => exact ⟨u0, crest, rfl⟩
  have h0 := hargs.2 0 _ u0 rfl rfl
  have hrn : r < nx := hrel.dom r (by simp [hr])
  cases h0 with
  | @sl _ _ _ _ n _ p a hι hs ha hl hcap hN hE0 hmm =>
    obtain ⟨hF, cs, e, fz, hb, hsz, hfz, hrows⟩ := hrel.cells hr hι hmm
    have hEn := hE0 rfl
    rw [Nat.zero_add] at hEn
    let spare : Blk := (List.range (n - es.length)).map fun k => (List.range sz).map fun j => AV.v ((cs[p.O + (es.length + k) * sz + j]?).getD undef)
    have hsl : spare.length = n - es.length := by simp [spare]
    have hpl : Plain sz spare := by
      intro l hl
      obtain ⟨k, _, rfl⟩ := List.mem_map.1 hl
      refine ⟨by simp, fun x hx => ?_⟩
      obtain ⟨j, _, rfl⟩ := List.mem_map.1 hx
      exact ⟨_, rfl⟩
    obtain ⟨hp2, nx2, k2, q, c2, hRet, ⟨sp, hq⟩, hcase, hfr⟩ := key spare hpl
    have hrows2 : ∀ (i : Nat) (l : List AV), (es ++ spare)[i]? = some l → l.length = p.sz ∧ ∀ (j : Nat) (av : AV), l[j]? = some av → ∃ u, cs[p.O + i * p.sz + j]? = some u ∧ VRel c av u := by
      intro i l hi
      by_cases hil : i < es.length
      · rw [List.getElem?_append_left hil] at hi
        exact hrows i l hi
      · rw [List.getElem?_append_right (by omega)] at hi
        have hk : i - es.length < n - es.length := by
          have := (List.getElem?_eq_some_iff.1 hi).1
          omega
        have hi2 : l = (List.range sz).map fun j => AV.v ((cs[p.O + i * sz + j]?).getD undef) := by
          simp only [spare, List.getElem?_map, List.getElem?_range hk, Option.map_some, Option.some.injEq] at hi
          rw [← hi, show es.length + (i - es.length) = i by omega]
        subst hi2
        refine ⟨by simp [hs], fun j av hj => ?_⟩
        have hj1 : j < sz := by have := (List.getElem?_eq_some_iff.1 hj).1; simpa using this
        simp only [List.getElem?_map, List.getElem?_range hj1, Option.map_some, Option.some.injEq] at hj
        subst hj
        have hlt : p.O + i * sz + j < cs.size := by
          have h1 : (i + 1) * sz ≤ n * sz := Nat.mul_le_mul_right _ (by omega)
          rw [Nat.add_mul] at h1
          omega
        rw [hs]
        exact ⟨cs[p.O + i * sz + j], by simp [hlt], by simp [hlt]; exact .v _⟩
    have hw0 : c.w.heap = c.w.heap.setIfInBounds p.B (.cells cs e fz) := by
      apply Array.ext_getElem?
      intro i
      rw [Array.getElem?_setIfInBounds]
      by_cases hi : p.B = i
      · subst hi
        have := (Array.getElem?_eq_some_iff.1 hb).1
        rw [if_pos rfl, if_pos this]; exact hb
      · rw [if_neg hi]
    obtain ⟨hrel2, hext2⟩ := write_rel hrel (es' := es ++ spare) hr hι hb (w' := c.w) (cs' := cs) hw0 rfl rfl rfl rfl hrows2
    have hln : es.length + spare.length = n := by omega
    have hargs2 : LRel ⟨c.F, c.ι, hupd c.hp r (some (es ++ spare)), c.w⟩ (.sl r sz 0 es.length (some (es.length + spare.length)) :: rest) (Value.slice (some a) es.length n :: crest) := by
      refine ⟨hargs.1, fun k av u g1 g2 => ?_⟩
      cases k with
      | zero =>
        simp at g1 g2
        subst g1; subst g2
        exact .sl hι hs ha hl (fun m hm => by simp only [Option.some.injEq] at hm; omega) hN (fun h => by cases h) hmm
      | succ k => exact (hargs.2 (k + 1) av u g1 g2).mono hext2
    have hX := Ret_sound hE (fun R hR => drawSound hm hR) hRet ⟨c.F, c.ι, hupd c.hp r (some (es ++ spare)), c.w⟩ ⟨Value.slice (some a) es.length n :: crest⟩ rfl hrel2 hargs2
    refine hX.mono ?_
    rintro e2 w' ⟨u, ι', rfl, _, hx, hr2, hv⟩
    -- the new place
    have hqx : q < nx2 := hr2.dom q (by show hp2 q ≠ none; rw [hq]; simp)
    cases hv with
    | @sl _ _ _ _ n2 _ pq a2 gι gs ga gl gcap gN gE gm =>
      have gι : ι' q = some pq := gι
      have hιnx : ∀ p', ι' nx = some p' → p' = pq := by
        intro p' h
        rcases hcase with ⟨_, h2, _⟩ | ⟨h2, _, _⟩
        · have := hr2.lt nx p' h; omega
        · rw [← h2, gι] at h; cases h; rfl
      let ι3 : Nat → Option Place := iupd ι' nx pq
      let hp3 : Heap := hupd (hupd c.hp r none) nx (some es')
      let c3 : Cx := ⟨c.F, ι3, hp3, w'⟩
      let cB : Cx := ⟨c.F, ι', hp2, w'⟩
      have i3n : ι3 nx = some pq := by show iupd _ _ _ nx = _; simp [iupd]
      have i3o : ∀ x, x ≠ nx → ι3 x = ι' x := fun x h => by show iupd _ _ _ x = _; simp [iupd, h]
      have h3n : hp3 nx = some es' := by show hupd _ _ _ nx = _; simp [hupd]
      have h3r : hp3 r = none := by show hupd _ _ _ r = _; simp [hupd, show ¬ r = nx by omega]
      have h3o : ∀ x, x ≠ nx → x ≠ r → hp3 x = c.hp x := fun x h1 h2 => by show hupd _ _ _ x = _; simp [hupd, h1, h2]
      have h3b : ∀ x, x ≠ nx → hp3 x ≠ none → x ≠ r ∧ x < nx ∧ hp3 x = c.hp x ∧ hp2 x = c.hp x := by
        intro x h1 h2
        have hxr : x ≠ r := by rintro rfl; exact h2 h3r
        rw [h3o x h1 hxr] at h2
        have hxn := hrel.dom x h2
        exact ⟨hxr, hxn, h3o x h1 hxr, hfr x hxn hxr⟩
      have mι : ∀ x p', ι' x = some p' → ι3 x = some p' := by
        intro x p' h
        by_cases hxn : x = nx
        · subst hxn; rw [i3n, hιnx p' h]
        · rw [i3o x hxn]; exact h
      have hq0 : cB.hp q ≠ none := by show hp2 q ≠ none; rw [hq]; simp
      have hown : ∀ B, c3.own B → cB.own B := by
        rintro B ⟨x, px, g1, g2, g3⟩
        by_cases hxn : x = nx
        · subst hxn
          have g2 : ι3 x = some px := g2
          rw [i3n] at g2; cases g2
          exact ⟨q, pq, hq0, gι, g3⟩
        · obtain ⟨m1, m2, m3, m4⟩ := h3b x hxn g1
          exact ⟨x, px, by show hp2 x ≠ none; rw [m4, ← m3]; exact g1, by show ι' x = _; rw [← i3o x hxn]; exact g2, g3⟩
      have hro : ∀ B, cB.ro B → c3.ro B := fun B hB => ⟨hB.1, fun h => hB.2.1 (hown B h), hB.2.2⟩
      have mv : ∀ x u, VRel cB x u → VRel c3 x u := fun x u h => h.move (c' := c3) mι fun B hB => ⟨hro B hB, rfl⟩
      have hext : Ext c c3 := by
        have hx' := hext2.trans hx
        refine ⟨rfl, fun x px h => mι x px (hx'.ι x px h), hx'.size, fun B hB ho => ?_, hx'.os, hx'.tape, hx'.output⟩
        obtain ⟨g1, g2⟩ := hx'.keep B hB ho
        exact ⟨fun h => g1 (hown B h), g2⟩
      obtain ⟨bF, cs2, e3, fz3, b1, b2, b3, b4⟩ := hr2.cells hq gι gm
      refine ⟨.slice (some a2) es'.length n2, ι3, rfl, (fun h => nomatch h), hext, ⟨?_, ?_, ?_, ?_, hr2.F, ?_, ?_⟩, ?_⟩
      · intro x hx0
        have hx0 : hp3 x ≠ none := hx0
        by_cases hxn : x = nx
        · omega
        · have := (h3b x hxn hx0).2.1; omega
      · intro x px h
        have h : ι3 x = some px := h
        by_cases hxn : x = nx
        · omega
        · rw [i3o x hxn] at h
          have := hr2.lt x px h
          rcases hcase with ⟨_, h2, _⟩ | ⟨_, h2, _⟩ <;> omega
      · intro x ex px g1 g2
        have g1 : hp3 x = some ex := g1
        have g2 : ι3 x = some px := g2
        by_cases hxn : x = nx
        · subst hxn
          rw [h3n] at g1; cases g1
          rw [i3n] at g2; cases g2
          refine ⟨bF, _, b1, .inl ⟨gm, cs2, e3, fz3, rfl, b2, b3, fun i l hi => ?_⟩⟩
          have hi2 : (es' ++ sp)[i]? = some l := by rw [List.getElem?_append_left (List.getElem?_eq_some_iff.1 hi).1]; exact hi
          obtain ⟨m1, m2⟩ := b4 i l hi2
          exact ⟨m1, fun j av hj => let ⟨u, m3, m4⟩ := m2 j av hj; ⟨u, m3, mv _ _ m4⟩⟩
        · obtain ⟨m1, m2, m3, m4⟩ := h3b x hxn (by rw [g1]; simp)
          obtain ⟨n1, o, n3, n4⟩ := hr2.blk x ex px (by show hp2 x = _; rw [m4, ← m3]; exact g1) (by show ι' x = _; rw [← i3o x hxn]; exact g2)
          exact ⟨n1, o, n3, n4.move mv⟩
      · intro x y px py g1 g2 g3 g4 g5
        have g1 : hp3 x ≠ none := g1
        have g2 : hp3 y ≠ none := g2
        have g3 : ι3 x = some px := g3
        have g4 : ι3 y = some py := g4
        have other : ∀ z pz, z ≠ nx → hp3 z ≠ none → ι3 z = some pz → pz.B ≠ pq.B := by
          intro z pz hz k1 k2 k3
          obtain ⟨m1, m2, m3, m4⟩ := h3b z hz k1
          have := hr2.inj z q pz pq (by show hp2 z ≠ none; rw [m4, ← m3]; exact k1) hq0 (by show ι' z = _; rw [← i3o z hz]; exact k2) gι k3
          rcases hcase with ⟨h2, _, _⟩ | ⟨h2, _, _⟩
          · exact m1 (this.trans h2)
          · exact hz (this.trans h2)
        by_cases e1 : x = nx
        · by_cases e2 : y = nx
          · rw [e1, e2]
          · exfalso
            subst e1
            rw [i3n] at g3; cases g3
            exact other y py e2 g2 g4 g5.symm
        · by_cases e2 : y = nx
          · exfalso
            subst e2
            rw [i3n] at g4; cases g4
            exact other x px e1 g1 g3 g5
          · obtain ⟨m1, m2, m3, m4⟩ := h3b x e1 g1
            obtain ⟨m1', m2', m3', m4'⟩ := h3b y e2 g2
            exact hr2.inj x y px py (by show hp2 x ≠ none; rw [m4, ← m3]; exact g1) (by show hp2 y ≠ none; rw [m4', ← m3']; exact g2) (by show ι' x = _; rw [← i3o x e1]; exact g3) (by show ι' y = _; rw [← i3o y e2]; exact g4) g5
      · refine TyOk.to (c := cB) hr2.ty (fun x t k rest0 g => ?_) mι (fun B cs t fz hB => ⟨cs, hB, rfl⟩) fun x g1 g2 g3 => ?_
        · have g : hp3 x = some ([.ty t k] :: rest0) := g
          by_cases hxn : x = nx
          · subst hxn
            rw [h3n] at g; cases g
            obtain ⟨_, m2⟩ := b4 0 [.ty t k] (by simp)
            obtain ⟨u, _, m3⟩ := m2 0 (.ty t k) rfl
            exact m3.not_ty.elim
          · obtain ⟨m1, m2, m3, m4⟩ := h3b x hxn (by rw [g]; simp)
            show hp2 x = _
            rw [m4, ← m3]; exact g
        · have g2 : ι' x ≠ none := g2
          have g3 : hp3 x ≠ none := g3
          show hp2 x ≠ none
          by_cases hxn : x = nx
          · subst hxn
            rcases hcase with ⟨_, h2, _⟩ | ⟨h2, _, _⟩
            · cases hh : ι' x with
              | none => exact absurd hh g2
              | some p' => have := hr2.lt x p' hh; omega
            · rw [← h2]; exact hq0
          · obtain ⟨m1, m2, m3, m4⟩ := h3b x hxn g3
            rw [m4, ← m3]; exact g3
      · exact GlOk.to (c := cB) hr2.gl rfl hro fun B hB => rfl
      · refine .sl (c := c3) (p := pq) i3n gs ga gl (fun m hm => by cases hm) gN (fun _ => ?_) gm
        rcases hcase with ⟨h2, _, h4⟩ | ⟨_, _, h4⟩
        · have g8 := gcap _ h4
          have : ι' r = some p := (hext2.trans hx).ι r p hι
          rw [← h2, gι] at this
          cases this
          rw [Nat.zero_add, ← g8, hln]; exact hEn
        · exact gE h4
end Go.Ai
