/- Maps: what is made, and written. -/
import Derived.Test.YtooomkpingiojaaGreatAiOpsH
import Derived.Maps.RangeRun
namespace Go.Ai
set_option linter.unusedVariables false
set_option linter.unusedSimpArgs false

/-- An object is laid. -/
theorem push_blk {c : Cx} {nx : Nat} (hh : HRel c nx) {w' : World} {o : Obj} {es : Blk} {pn : Place} (hB : pn.B = c.w.heap.size) (hheap : w'.heap = c.w.heap.push o) (hnt : ∀ t k rest, es ≠ [.ty t k] :: rest) (hok : ∀ c' : Cx, BlkOk c' es pn o) (hos : w'.os = c.w.os) (htape : w'.tape = c.w.tape) (hout : w'.output = c.w.output) :
    let c' : Cx := ⟨c.F, iupd c.ι nx pn, hupd c.hp nx (some es), w'⟩
    HRel c' (nx + 1) ∧ Ext c c' := by
  intro c'
  have hget : ∀ B, B < c.w.heap.size → w'.heap[B]? = c.w.heap[B]? := by
    intro B hB; rw [hheap, Array.getElem?_push, if_neg (by omega)]
  have hnew : w'.heap[c.w.heap.size]? = some o := by rw [hheap]; simp
  have hfι := hh.fresh
  have hfh := hh.hfresh
  have hι : ∀ r, r ≠ nx → c'.ι r = c.ι r := fun r hr => by show iupd _ _ _ r = _; simp [iupd, hr]
  have hιn : c'.ι nx = some pn := by show iupd _ _ _ nx = _; simp [iupd]
  have hhp : ∀ r, r ≠ nx → c'.hp r = c.hp r := fun r hr => by show hupd _ _ _ r = _; simp [hupd, hr]
  have hhn : c'.hp nx = some es := by show hupd _ _ _ nx = _; simp [hupd]
  have hown : ∀ B, B < c.w.heap.size → c'.own B → c.own B := by
    rintro B hB ⟨r, p, h1, h2, h3⟩
    by_cases hr : r = nx
    · subst hr; rw [hιn, Option.some.injEq] at h2; subst h2; omega
    · rw [hhp r hr] at h1; rw [hι r hr] at h2; exact ⟨r, p, h1, h2, h3⟩
  have hext : Ext c c' := by
    refine ⟨rfl, ?_, ?_, ?_, hos, htape, hout⟩
    · intro r p h
      by_cases hr : r = nx
      · subst hr; rw [hfι] at h; simp at h
      · rw [hι r hr]; exact h
    · show c.w.heap.size ≤ w'.heap.size
      rw [hheap]; simp
    · exact fun B hB ho => ⟨fun h => ho (hown B hB h), hget B hB⟩
  refine ⟨⟨?_, ?_, ?_, ?_, ?_, hh.ty.to ?_ hext.ι (fun B cs0 t fz0 hB => ⟨cs0, by show w'.heap[B]? = _; rw [hget B (Array.getElem?_eq_some_iff.1 hB).1]; exact hB, rfl⟩) (fun r g1 _ g2 => by
    have : r ≠ nx := by rintro rfl; have := hh.dom _ g1; omega
    rw [hhp r this] at g2; exact g2), hh.gl.ext hext⟩, hext⟩
  rotate_right
  · intro r t k rest hr
    by_cases he : r = nx
    · subst he
      rw [hhn, Option.some.injEq] at hr; exact absurd hr (hnt _ _ _)
    · rw [hhp r he] at hr; exact hr
  · intro r hr
    by_cases he : r = nx
    · omega
    · rw [hhp r he] at hr; have := hh.dom r hr; omega
  · intro r p h
    by_cases he : r = nx
    · omega
    · rw [hι r he] at h; have := hh.lt r p h; omega
  · intro r es' p h1 h2
    by_cases he : r = nx
    · subst he
      rw [hhn, Option.some.injEq] at h1; subst h1
      rw [hιn, Option.some.injEq] at h2; subst h2
      refine ⟨fun hF => absurd (hh.F _ hF) (by omega), o, by show w'.heap[pn.B]? = _; rw [hB]; exact hnew, hok _⟩
    · rw [hhp r he] at h1; rw [hι r he] at h2
      obtain ⟨hF, o', h3, h4⟩ := hh.blk r es' p h1 h2
      have hlt : p.B < c.w.heap.size := (Array.getElem?_eq_some_iff.1 h3).1
      exact ⟨hF, o', by show w'.heap[p.B]? = _; rw [hget _ hlt]; exact h3, h4.move fun x u h => h.mono hext⟩
  · have hlt : ∀ r p, c.hp r ≠ none → c.ι r = some p → p.B < c.w.heap.size := by
      intro r p h1 h2
      exact hh.own_lt ⟨r, p, h1, h2, rfl⟩
    intro r r' p p' h1 h2 h3 h4 h5
    by_cases he : r = nx
    · by_cases he' : r' = nx
      · omega
      · subst he
        rw [hιn, Option.some.injEq] at h3; subst h3
        rw [hhp r' he'] at h2; rw [hι r' he'] at h4
        have := hlt r' p' h2 h4; omega
    · by_cases he' : r' = nx
      · subst he'
        rw [hιn, Option.some.injEq] at h4; subst h4
        rw [hhp r he] at h1; rw [hι r he] at h3
        have := hlt r p h1 h3; omega
      · rw [hhp r he] at h1; rw [hι r he] at h3; rw [hhp r' he'] at h2; rw [hι r' he'] at h4
        exact hh.inj r r' p p' h1 h2 h3 h4 h5
  · intro B hB
    have := hh.F B hB
    show B < w'.heap.size
    rw [hheap]; simp; omega

/-- A new map. -/
theorem push_map {c : Cx} {nx : Nat} (hh : HRel c nx) {w' : World} (hheap : w'.heap = c.w.heap.push (.map #[] 0)) (hos : w'.os = c.w.os) (htape : w'.tape = c.w.tape) (hout : w'.output = c.w.output) :
    let c' : Cx := ⟨c.F, iupd c.ι nx ⟨c.w.heap.size, 1, 0, 0, []⟩, hupd c.hp nx (some []), w'⟩
    HRel c' (nx + 1) ∧ Ext c c' :=
  push_blk hh (pn := ⟨c.w.heap.size, 1, 0, 0, []⟩) rfl hheap (fun t k rest h => by cases h) (fun c' => .inr (.inl ⟨rfl, #[], 0, rfl, ⟨rfl, fun i l e h => by simp at h⟩, fun i e h => by simp at h, fun i j e e' h => by simp at h⟩)) hos htape hout

/-- A map, or a walk, is written. -/
theorem write_blk {c : Cx} {nx : Nat} (hh : HRel c nx) {r : Nat} {es es' : Blk} {p : Place} (hr : c.hp r = some es) (hp : c.ι r = some p) {w' : World} {o0 o1 : Obj}
    (hb : c.w.heap[p.B]? = some o0) (hnc : ∀ cs e fz, o0 ≠ .cells cs e fz) (hheap : w'.heap = c.w.heap.setIfInBounds p.B o1)
    (hos : w'.os = c.w.os) (htape : w'.tape = c.w.tape) (hout : w'.output = c.w.output) (hnt : ∀ t k rest, es' ≠ [.ty t k] :: rest) (hok : BlkOk c es' p o1) :
    let c' : Cx := ⟨c.F, c.ι, hupd c.hp r (some es'), w'⟩
    HRel c' nx ∧ Ext c c' := by
  intro c'
  have hlt : p.B < c.w.heap.size := (Array.getElem?_eq_some_iff.1 hb).1
  have hhr : c'.hp r = some es' := by show hupd _ _ _ r = _; simp [hupd]
  have hho : ∀ q, q ≠ r → c'.hp q = c.hp q := fun q hq => by show hupd _ _ _ q = _; simp [hupd, hq]
  have hdom : ∀ q, c'.hp q ≠ none ↔ c.hp q ≠ none := by
    intro q
    by_cases hq : q = r
    · subst hq; rw [hhr, hr]; simp
    · rw [hho q hq]
  have hsize : w'.heap.size = c.w.heap.size := by rw [hheap]; simp
  have hgo : ∀ B, B ≠ p.B → w'.heap[B]? = c.w.heap[B]? := by
    intro B hB; rw [hheap, Array.getElem?_setIfInBounds_ne (by omega)]
  have hgn : w'.heap[p.B]? = some o1 := by rw [hheap]; simp [hlt]
  have howner : c.own p.B := ⟨r, p, by simp [hr], hp, rfl⟩
  have hext : Ext c c' := by
    refine ⟨rfl, fun _ _ h => h, by show _ ≤ w'.heap.size; omega, ?_, hos, htape, hout⟩
    intro B hB ho
    refine ⟨?_, hgo B (by rintro rfl; exact ho howner)⟩
    rintro ⟨q, p', h1, h2, h3⟩
    exact ho ⟨q, p', (hdom q).1 h1, h2, h3⟩
  have hty : TyOk c' := hh.ty.to (fun q t k rest hq => by
      by_cases he : q = r
      · subst he
        rw [hhr, Option.some.injEq] at hq; subst hq
        exact absurd rfl (hnt _ _ _)
      · rw [hho q he] at hq; exact hq) hext.ι (fun B cs0 t fz0 hB => by
      by_cases he : B = p.B
      · subst he; rw [hb, Option.some.injEq] at hB; exact absurd hB (hnc _ _ _)
      · exact ⟨cs0, (hgo B he).trans hB, rfl⟩) fun q _ _ h => (hdom q).1 h
  refine ⟨⟨fun q h => hh.dom q ((hdom q).1 h), hh.lt, ?_, ?_, ?_, hty, hh.gl.ext hext⟩, hext⟩
  · intro q es2 p' h1 h2
    by_cases hq : q = r
    · subst hq
      rw [hhr, Option.some.injEq] at h1; subst h1
      have h2' : c.ι q = some p' := h2
      rw [hp, Option.some.injEq] at h2'; subst h2'
      obtain ⟨hF, _⟩ := hh.blk q es p hr hp
      exact ⟨hF, o1, hgn, hok.move fun x u h => h.mono hext⟩
    · rw [hho q hq] at h1
      obtain ⟨hF, o, h3, h4⟩ := hh.blk q es2 p' h1 h2
      have hne : p'.B ≠ p.B := fun h => hq (hh.inj q r p' p (by simp [h1]) (by simp [hr]) h2 hp h)
      exact ⟨hF, o, by show w'.heap[p'.B]? = _; rw [hgo _ hne]; exact h3, h4.move fun x u h => h.mono hext⟩
  · intro q q' p1 p2 h1 h2 h3 h4 h5
    exact hh.inj q q' p1 p2 ((hdom q).1 h1) ((hdom q').1 h2) h3 h4 h5
  · intro B hB
    have := hh.F B hB
    show B < w'.heap.size
    omega

theorem MRows.nt {c : Cx} {es : Blk} {ents : Array MapEntry} (h : MRows c es ents) (t : TypeId) (k : Nat) (rest : Blk) : es ≠ [.ty t k] :: rest := by
  rintro rfl
  have hs := h.1
  simp at hs
  obtain ⟨k', v', h1, _⟩ := h.2 0 _ (ents[0]'(by omega)) rfl (Array.getElem?_eq_getElem (by omega))
  cases h1
/-- A map is written. -/
theorem write_map {c : Cx} {nx : Nat} (hh : HRel c nx) {r : Nat} {es es' : Blk} {p : Place} (hr : c.hp r = some es) (hp : c.ι r = some p) (hpm : p.O = p.N + 1) {w' : World} {ents ents' : Array MapEntry} {clock clock' : Nat}
    (hb : c.w.heap[p.B]? = some (.map ents clock)) (hheap : w'.heap = c.w.heap.setIfInBounds p.B (.map ents' clock'))
    (hos : w'.os = c.w.os) (htape : w'.tape = c.w.tape) (hout : w'.output = c.w.output) (hrows : MRows c es' ents') (hst : Stamps ents' clock') :
    let c' : Cx := ⟨c.F, c.ι, hupd c.hp r (some es'), w'⟩
    HRel c' nx ∧ Ext c c' :=
  write_blk hh hr hp hb (fun cs e fz h => by cases h) hheap hos htape hout hrows.nt (.inr (.inl ⟨hpm, ents', clock', rfl, hrows, hst⟩))

/-- A map is kept aside: its block goes on under a new number. -/
theorem park {c : Cx} {nx : Nat} (hh : HRel c nx) {r : Nat} {es : Blk} {p : Place} (hr : c.hp r = some es) (hp : c.ι r = some p) {ents : Array MapEntry} {clock : Nat}
    (hb : c.w.heap[p.B]? = some (.map ents clock)) (hrows : MRows c es ents) (hst : Stamps ents clock) :
    let c' : Cx := ⟨c.F, iupd c.ι nx ⟨p.B, 3, clock, 0, ents.toList.map (·.born)⟩, hupd (hupd c.hp r none) nx (some es), c.w⟩
    HRel c' (nx + 1) ∧ Ext c c' := by
  intro c'
  have hrn : r ≠ nx := fun h => by have := hh.lt r p hp; omega
  have hhn : c'.hp nx = some es := by show hupd _ _ _ nx = _; simp [hupd]
  have hhr : c'.hp r = none := by show hupd _ _ _ r = _; simp [hupd, hrn]
  have hho : ∀ q, q ≠ r → q ≠ nx → c'.hp q = c.hp q := fun q hq hq' => by show hupd _ _ _ q = _; simp [hupd, hq, hq']
  have hι : ∀ q, q ≠ nx → c'.ι q = c.ι q := fun q hq => by show iupd _ _ _ q = _; simp [iupd, hq]
  have hιn : c'.ι nx = some ⟨p.B, 3, clock, 0, ents.toList.map (·.born)⟩ := by show iupd _ _ _ nx = _; simp [iupd]
  have howner : c.own p.B := ⟨r, p, by simp [hr], hp, rfl⟩
  have hdo : ∀ q, c'.hp q ≠ none → q ≠ nx → c.hp q ≠ none ∧ q ≠ r := by
    intro q h hq
    have hqr : q ≠ r := by rintro rfl; exact h hhr
    rw [hho q hqr hq] at h; exact ⟨h, hqr⟩
  have hext : Ext c c' := by
    refine ⟨rfl, ?_, Nat.le_refl _, ?_, rfl, rfl, rfl⟩
    · intro q pq h
      by_cases hq : q = nx
      · subst hq; rw [hh.fresh] at h; simp at h
      · rw [hι q hq]; exact h
    · intro B hB ho
      refine ⟨?_, rfl⟩
      rintro ⟨q, pq, h1, h2, h3⟩
      by_cases hq : q = nx
      · subst hq; rw [hιn, Option.some.injEq] at h2; subst h2; rw [← h3] at ho; exact ho howner
      · rw [hι q hq] at h2; exact ho ⟨q, pq, (hdo q h1 hq).1, h2, h3⟩
  have hty : TyOk c' := hh.ty.to (fun q t k rest hq => by
      by_cases he : q = nx
      · subst he
        rw [hhn, Option.some.injEq] at hq
        exact absurd hq (hrows.nt _ _ _)
      · by_cases he2 : q = r
        · subst he2; rw [hhr] at hq; cases hq
        · rw [hho q he2 he] at hq; exact hq) hext.ι (fun B cs0 t fz0 hB => ⟨cs0, hB, rfl⟩) fun q g1 _ g2 => by
      have hq : q ≠ nx := by rintro rfl; have := hh.dom _ g1; omega
      exact (hdo q g2 hq).1
  refine ⟨⟨?_, ?_, ?_, ?_, hh.F, hty, hh.gl.ext hext⟩, hext⟩
  · intro q h
    by_cases hq : q = nx
    · omega
    · have := hh.dom q (hdo q h hq).1; omega
  · intro q pq h
    by_cases hq : q = nx
    · omega
    · rw [hι q hq] at h; have := hh.lt q pq h; omega
  · intro q es2 pq h1 h2
    by_cases hq : q = nx
    · subst hq
      rw [hhn, Option.some.injEq] at h1; subst h1
      rw [hιn, Option.some.injEq] at h2; subst h2
      obtain ⟨hF, _⟩ := hh.blk r es p hr hp
      exact ⟨hF, .map ents clock, hb, .inr (.inr (.inr ⟨rfl, ents, rfl, hrows.move fun x u h => h.mono hext, hst, rfl⟩))⟩
    · have h1' : c'.hp q ≠ none := by simp [h1]
      obtain ⟨h3, hqr⟩ := hdo q h1' hq
      rw [hho q hqr hq] at h1; rw [hι q hq] at h2
      obtain ⟨hF, o, h3, h4⟩ := hh.blk q es2 pq h1 h2
      exact ⟨hF, o, h3, h4.move fun x u h => h.mono hext⟩
  · have hne : ∀ q pq, c'.hp q ≠ none → q ≠ nx → c.ι q = some pq → pq.B ≠ p.B := by
      intro q pq h1 hq h2 h3
      obtain ⟨h4, h5⟩ := hdo q h1 hq
      exact h5 (hh.inj q r pq p h4 (by simp [hr]) h2 hp h3)
    intro q q' p1 p2 h1 h2 h3 h4 h5
    by_cases hq : q = nx
    · by_cases hq' : q' = nx
      · omega
      · subst hq
        rw [hιn, Option.some.injEq] at h3; subst h3
        rw [hι q' hq'] at h4
        exact absurd h5.symm (hne q' p2 h2 hq' h4)
    · by_cases hq' : q' = nx
      · subst hq'
        rw [hιn, Option.some.injEq] at h4; subst h4
        rw [hι q hq] at h3
        exact absurd h5 (hne q p1 h1 hq h3)
      · rw [hι q hq] at h3; rw [hι q' hq'] at h4
        exact hh.inj q q' p1 p2 (hdo q h1 hq).1 (hdo q' h2 hq').1 h3 h4 h5

/-- A map that was kept aside is the map again; other blocks may be let go. -/
theorem unpark {c : Cx} {nx : Nat} (hh : HRel c nx) {q r : Nat} {es : Blk} {p pr : Place} (hq : c.hp q = some es) (hp : c.ι q = some p) (hm : p.O = p.N + 3) (hpr : c.ι r = some pr) (hmr : pr.O = pr.N + 1) (hB : p.B = pr.B)
    {hp1 : Heap} (hsub : Sub hp1 c.hp) (hq1 : hp1 q = none) :
    let c' : Cx := ⟨c.F, c.ι, hupd hp1 r (some es), c.w⟩
    HRel c' nx ∧ Ext c c' := by
  intro c'
  obtain ⟨hF, ents, hb, hrows, hst, haux⟩ := hh.kept hq hp hm
  have hqr : q ≠ r := by
    rintro rfl
    rw [hp, Option.some.injEq] at hpr
    subst hpr; omega
  have hhr : c'.hp r = some es := by show hupd _ _ _ r = _; simp [hupd]
  have hho : ∀ x, x ≠ r → c'.hp x = hp1 x := fun x hx => by show hupd _ _ _ x = _; simp [hupd, hx]
  have hold : ∀ x, x ≠ r → c'.hp x ≠ none → c'.hp x = c.hp x ∧ c.hp x ≠ none ∧ x ≠ q := by
    intro x hx h
    rw [hho x hx] at h ⊢
    rcases hsub x with h1 | h1
    · exact ⟨h1, by rw [← h1]; exact h, by rintro rfl; exact h hq1⟩
    · exact absurd h1 h
  have hown : ∀ B, c'.own B → c.own B := by
    rintro B ⟨x, px, h1, h2, h3⟩
    by_cases hx : x = r
    · subst hx
      have h2 : c.ι x = some px := h2
      rw [hpr, Option.some.injEq] at h2; subst h2
      exact ⟨q, p, by simp [hq], hp, hB.trans h3⟩
    · exact ⟨x, px, (hold x hx h1).2.1, h2, h3⟩
  have hext : Ext c c' := ⟨rfl, fun _ _ h => h, Nat.le_refl _, fun B hB ho => ⟨fun h => ho (hown B h), rfl⟩, rfl, rfl, rfl⟩
  have hne : ∀ x px, x ≠ r → c'.hp x ≠ none → c.ι x = some px → px.B ≠ pr.B := by
    intro x px hx h1 h2 h3
    obtain ⟨g1, g2, g3⟩ := hold x hx h1
    exact g3 (hh.inj x q px p g2 (by simp [hq]) h2 hp (h3.trans hB.symm))
  have hty0 : ∀ x t k rest, c'.hp x = some ([.ty t k] :: rest) → c.hp x = some ([.ty t k] :: rest) := fun x t k rest hx => by
      by_cases he : x = r
      · subst he
        rw [hhr, Option.some.injEq] at hx
        exact absurd hx (hrows.nt _ _ _)
      · rw [← (hold x he (by rw [hx]; simp)).1]; exact hx
  have hty : TyOk c' := ⟨hh.ty.1.to hty0 hext.ι fun B cs t fz hB => ⟨cs, fz, hB, rfl⟩, fun x t hx => by
    obtain ⟨p0, cs, fz, g1, g2, g3⟩ := hh.ty.2 x t (hty0 _ _ _ _ hx)
    refine ⟨p0, cs, fz, g1, g2, fun hn => g3 ?_⟩
    by_cases he : x = r
    · subst he
      rw [hpr, Option.some.injEq] at g1; subst g1
      rw [← hB, hb] at g2; cases g2
    · exact (hold x he hn).2.1⟩
  refine ⟨⟨?_, hh.lt, ?_, ?_, hh.F, hty, hh.gl.ext hext⟩, hext⟩
  · intro x h
    by_cases hx : x = r
    · subst hx; exact hh.lt x pr hpr
    · exact hh.dom x (hold x hx h).2.1
  · intro x es2 px h1 h2
    by_cases hx : x = r
    · subst hx
      rw [hhr, Option.some.injEq] at h1; subst h1
      have h2 : c.ι x = some px := h2
      rw [hpr, Option.some.injEq] at h2; subst h2
      exact ⟨by rw [← hB]; exact hF, .map ents p.sz, by rw [← hB]; exact hb, .inr (.inl ⟨hmr, ents, p.sz, rfl, hrows.move fun x u h => h.mono hext, hst⟩)⟩
    · have h3 : c'.hp x ≠ none := by simp [h1]
      rw [(hold x hx h3).1] at h1
      obtain ⟨hF, o, h4, h5⟩ := hh.blk x es2 px h1 h2
      exact ⟨hF, o, h4, h5.move fun x u h => h.mono hext⟩
  · intro x y p1 p2 h1 h2 h3 h4 h5
    by_cases hx : x = r
    · by_cases hy : y = r
      · omega
      · subst hx
        have h3 : c.ι x = some p1 := h3
        rw [hpr, Option.some.injEq] at h3; subst h3
        exact absurd h5.symm (hne y p2 hy h2 h4)
    · by_cases hy : y = r
      · subst hy
        have h4 : c.ι y = some p2 := h4
        rw [hpr, Option.some.injEq] at h4; subst h4
        exact absurd h5 (hne x p1 hx h1 h3)
      · exact hh.inj x y p1 p2 (hold x hx h1).2.1 (hold y hy h2).2.1 h3 h4 h5

theorem sameBits_key {c : Cx} {lk : LK} {k : AV} {kv : Value} (h : keyA lk k = true) (hk : VRel c k kv) : Instr.sameBits 10000 kv kv = true := by
  unfold keyA at h
  split at h
  · have e := hk.v_inv; subst e; simp [Instr.sameBits]
  · have e := hk.str_inv; subst e
    simp only [Instr.sameBits]
    exact (MapKept.bytes_beq _ _).2 rfl
  · have e := hk.v_inv; subst e; simp [Instr.sameBits]
  · cases h

theorem Stamps.sub {ents ents' : Array MapEntry} {clock clock' : Nat} (h : Stamps ents clock) (hc : clock ≤ clock') (f : Nat → Nat) (hf : ∀ i j, f i = f j → i = j) (ho : ∀ (i : Nat) (e : MapEntry), ents'[i]? = some e → ∃ e0, ents[f i]? = some e0 ∧ e0.born = e.born) : Stamps ents' clock' := by
  refine ⟨fun i e hi => ?_, fun i j e e' hi hj hb => ?_⟩
  · obtain ⟨e0, h1, h2⟩ := ho i e hi
    have := h.1 _ _ h1; omega
  · obtain ⟨e0, h1, h2⟩ := ho i e hi
    obtain ⟨e1, h3, h4⟩ := ho j e' hj
    exact hf _ _ (h.2 _ _ _ _ h1 h3 (by omega))

theorem leftI_mem : ∀ (fl : Blk) (i0 j : Nat), j ∈ leftI fl i0 ↔ ∃ k, j = i0 + k ∧ fl[k]? = some [.v (.bool true)]
  | [], i0, j => by simp [leftI]
  | row :: r, i0, j => by
    have key : (∃ k, j = i0 + k ∧ (row :: r)[k]? = some [.v (.bool true)]) ↔ (j = i0 ∧ row = [.v (.bool true)]) ∨ ∃ k, j = i0 + 1 + k ∧ r[k]? = some [.v (.bool true)] := by
      constructor
      · rintro ⟨k, h1, h2⟩
        cases k with
        | zero => simp at h2; exact .inl ⟨by omega, h2⟩
        | succ k => exact .inr ⟨k, by omega, by simpa using h2⟩
      · rintro (⟨h1, h2⟩ | ⟨k, h1, h2⟩)
        · exact ⟨0, by omega, by simp [h2]⟩
        · exact ⟨k + 1, by omega, by simpa using h2⟩
    rw [key, ← leftI_mem r (i0 + 1) j]
    by_cases h : row = [.v (.bool true)]
    · subst h
      rw [show leftI ([.v (.bool true)] :: r) i0 = i0 :: leftI r (i0 + 1) from rfl]
      simp
    · rw [leftI.eq_3 i0 row r h]
      simp [h]

section
variable {P : Program} {dst : Option Tmp} {type : TypeId} {pos : String} {after : Array Edge} {guard : Option (Nat × Bool)} {tm : Nat → AV} {a : Act} {c : Cx} {v : AV} {hp' : Heap} {nx nx' : Nat}

theorem range_good {t kt et : TypeId} {x : Operand} (h : P.underlying t = some (.map kt et)) (he : evE tm c.hp nx (.mrange (cO x)) = some (v, hp', nx')) (ht : TRel c tm a) (hh : HRel c nx) :
    EGood P ⟨dst, .range t x, type, pos, after, guard⟩ a c v hp' nx' := by
  simp only [evE] at he
  split at he
  · rename_i r hx
    split at he
    · rename_i es hes
      simp only [Option.some.injEq, Prod.mk.injEq] at he
      obtain ⟨rfl, rfl, rfl⟩ := he
      have h1 := cO_rel ht x
      rw [hx] at h1
      generalize hux : a.eval x = ux at h1
      cases h1 with
      | mp hι hpm =>
        rename_i p
        obtain ⟨_, ents, clock, hb, hrows, hst⟩ := hh.map hes hι hpm
        let o : Obj := .mapIter (some p.B) clock #[] clock
        let w' : World := { c.w with heap := c.w.heap.push o }
        let pn : Place := ⟨c.w.heap.size, p.B + 2, clock, p.B, ents.toList.map (·.born)⟩
        have hrun : (Instr.range t (.map (some p.B))).run P c.w = .ok (.pointer (some ⟨c.w.heap.size, 0, none⟩)) w' := by
          unfold Instr.range
          simp [run_underlying h, MapKept.run_getObj_map hb, Result.andThen, newObj, Sem.run, w', o]
        have hlt := (Array.getElem?_eq_some_iff.1 hb).1
        have hrn : r < nx := hh.lt r p hι
        obtain ⟨k1, k2⟩ := push_blk hh (es := [.v (.int .i64 0)] :: es.map fun _ => [.v (.bool true)]) (pn := pn) (o := o) (w' := w') rfl rfl (fun t k rest e => by simp at e) (fun c' => .inr (.inr (.inl ⟨rfl, #[], rfl, 0, _, rfl, by simp [pn, hrows.1], fun i l s g1 g2 => by
            simp only [List.getElem?_map, Option.map_eq_some_iff] at g1
            obtain ⟨_, _, rfl⟩ := g1
            exact ⟨true, rfl, by simp⟩, fun j h => by omega⟩))) rfl rfl rfl
        obtain ⟨m1, m2⟩ := park k1 (r := r) (es := es) (p := p) (by show hupd _ _ _ r = _; simp [hupd, hes]; omega) (by show iupd _ _ _ r = _; simp [iupd, hι]; omega) (ents := ents) (clock := clock)
          (by show (c.w.heap.push o)[p.B]? = _; rw [Array.getElem?_push, if_neg (by omega)]; exact hb) (hrows.move fun x u g => g.mono k2) hst
        refine ⟨.pointer (some ⟨c.w.heap.size, 0, none⟩), w', _, .inl (by simp only [execOp, hux]; simp [hrun]), k2.trans m2, m1, ?_⟩
        refine .it (p := pn) (p' := ⟨p.B, 3, clock, 0, ents.toList.map (·.born)⟩) (pr := p) ?_ ?_ ?_ rfl rfl hpm rfl rfl rfl rfl
        · simp [iupd]
        · simp [iupd]
        · simp [iupd, show r ≠ nx by omega, show r ≠ nx + 1 by omega, hι]
    · cases he
  · cases he

theorem next_good {x : Operand} (he : evE tm c.hp nx (.mnext (cO x)) = some (v, hp', nx')) (ht : TRel c tm a) (hh : HRel c nx) :
    EGood P ⟨dst, .next x false, type, pos, after, guard⟩ a c v hp' nx' := by
  simp only [evE] at he
  split at he
  · rename_i q r hx
    split at he
    · rename_i hd fl es hfl hes
      have h1 := cO_rel ht x
      rw [hx] at h1
      generalize hux : a.eval x = ux at h1
      cases h1 with
      | it hq hq1 hr hm hm' hmr e1 e2 e3 e4 =>
        rename_i p p' pr
        obtain ⟨hFq, seen, hbq, hit⟩ := hh.walk hfl hq hm
        obtain ⟨_, ents, hb, hrows, hst, haux⟩ := hh.kept hes hq1 hm'
        rw [e2.trans e1.symm] at hbq
        obtain ⟨n0, fl0, hfe, hit⟩ := hit
        simp only [List.cons.injEq] at hfe
        obtain ⟨rfl, rfl⟩ := hfe
        have hlen : fl.length = ents.size := by rw [hit.1, ← e3, ← haux]; simp
        have haux' : ∀ (k : Nat) (e : MapEntry), ents[k]? = some e → p.aux[k]? = some e.born := by
          intro k e hk
          rw [← e3, ← haux]
          simp [List.getElem?_map, hk]
        have hflag : ∀ (k : Nat) (e : MapEntry), ents[k]? = some e → (fl[k]? = some [.v (.bool true)] ↔ seen.contains e.born = false) := by
          intro k e hk
          have hkl := (Array.getElem?_eq_some_iff.1 hk).1
          obtain ⟨b, g1, g2⟩ := hit.2.1 k fl[k] e.born (List.getElem?_eq_getElem (by omega)) (haux' k e hk)
          rw [List.getElem?_eq_getElem (show k < fl.length by omega), g1, g2]
          cases b <;> simp
        have hnext := run_next_at (P := P) c.w type p.B p'.B p.sz p.sz seen ents p'.sz hbq hb (fun x hx => by
          obtain ⟨k, hk⟩ := List.mem_iff_getElem?.1 hx
          rw [← e4]; exact hst.1 k x (by simpa using hk)) (Nat.le_refl _)
        have hin : ∀ e ∈ (leftOf ents seen).toList, ∃ k, ents[k]? = some e ∧ k ∈ leftI fl 0 := by
          intro e hel
          obtain ⟨g1, g2⟩ := mem_left hel
          obtain ⟨k, hk⟩ := List.mem_iff_getElem?.1 g1
          have hk : ents[k]? = some e := by simpa using hk
          exact ⟨k, hk, (leftI_mem fl 0 k).2 ⟨k, by omega, (hflag k e hk).2 g2⟩⟩
        split at he
        · -- nothing is left
          rename_i hl
          simp only [Option.some.injEq, Prod.mk.injEq] at he
          obtain ⟨rfl, rfl, rfl⟩ := he
          rcases hnext with ⟨_, hrun⟩ | ⟨e, hel, _⟩
          · obtain ⟨k1, k2⟩ := unpark hh (q := q + 1) (r := r) (es := es) hes hq1 hm' hr hmr e1 (hp1 := hupd (hupd c.hp q none) (q + 1) none) (fun y => by simp only [hupd]; split; exact .inr rfl; split; exact .inr rfl; exact .inl rfl) (by simp [hupd])
            exact ⟨.tuple #[.bool false], c.w, c.ι, .inl (by simp only [execOp, hux]; simp [hrun]), k2, k1, .tup rfl fun k av u g1 g2 => by
              match k with
              | 0 => simp at g1 g2; subst g1; subst g2; exact .v _
              | k + 1 => simp at g1⟩
          · obtain ⟨k, _, hk⟩ := hin e hel
            rw [hl] at hk; simp at hk
        · -- one is left
          rename_i j hl
          split at he
          · rename_i kk vv hrow
            simp only [Option.some.injEq, Prod.mk.injEq] at he
            obtain ⟨rfl, rfl, rfl⟩ := he
            have hj : j ∈ leftI fl 0 := by rw [hl]; simp
            obtain ⟨j', hj1, hj2⟩ := (leftI_mem fl 0 j).1 hj
            have : j' = j := by omega
            subst this
            have hjl : j' < ents.size := by rw [← hlen]; exact (List.getElem?_eq_some_iff.1 hj2).1
            rcases hnext with ⟨h0, _⟩ | ⟨e, hel, w1, hw1, hrun⟩
            · exfalso
              have hg := (hflag j' ents[j'] (Array.getElem?_eq_getElem hjl)).1 hj2
              have : ents[j'] ∈ leftOf ents seen := by
                unfold leftOf
                simp only [Array.mem_filter]
                exact ⟨Array.getElem_mem hjl, by rw [hg]; rfl⟩
              have := Array.size_pos_of_mem this
              omega
            · obtain ⟨k, hk, hkl⟩ := hin e hel
              rw [hl] at hkl
              simp at hkl; subst hkl
              let o1 : Obj := .mapIter (some p.N) p.sz (seen.push e.born) p.sz
              have ho1 : Obj.mapIter (some p'.B) p.sz (seen.push e.born) p'.sz = o1 := by rw [e1, ← e2, e4]
              have hheap : (ChangeMaps.setBlock w1 p.B (.mapIter (some p'.B) p.sz (seen.push e.born) p'.sz)).heap = c.w.heap.setIfInBounds p.B o1 := by
                rw [ho1]; rcases hw1 with rfl | rfl <;> rfl
              obtain ⟨k', v', g1, g2, g3⟩ := hrows.2 k _ e hrow hk
              simp only [List.cons.injEq, and_true] at g1
              obtain ⟨rfl, rfl⟩ := g1
              obtain ⟨k1, k2⟩ := write_blk hh hfl hq hbq (fun cs e fz h => by cases h) (es' := [.v (.int .i64 (k + 1 : Nat))] :: fl.set k [.v (.bool false)]) (w' := ChangeMaps.setBlock w1 p.B (.mapIter (some p'.B) p.sz (seen.push e.born) p'.sz)) hheap
                (by rcases hw1 with rfl | rfl <;> rfl) (by rcases hw1 with rfl | rfl <;> rfl) (by rcases hw1 with rfl | rfl <;> rfl) (fun t k2 rest h => by simp at h) (.inr (.inr (.inl ⟨hm, seen.push e.born, rfl, k + 1, _, rfl, by simp [hit.1], fun i l s q1 q2 => by
                  rw [List.getElem?_set] at q1
                  split at q1
                  · rename_i hki; subst hki
                    split at q1
                    · simp only [Option.some.injEq] at q1; subst q1
                      rw [haux' k e hk, Option.some.injEq] at q2; subst q2
                      exact ⟨false, rfl, by simp⟩
                    · cases q1
                  · rename_i hki
                    obtain ⟨b, r1, r2⟩ := hit.2.1 i l s q1 q2
                    refine ⟨b, r1, ?_⟩
                    have hne : s ≠ e.born := by
                      intro hs
                      have hil : i < ents.size := by rw [← hlen]; exact (List.getElem?_eq_some_iff.1 q1).1
                      have hia := haux' i ents[i] (Array.getElem?_eq_getElem hil)
                      rw [q2, Option.some.injEq] at hia
                      exact hki (hst.2 k i e ents[i] hk (Array.getElem?_eq_getElem hil) (by omega))
                    rw [Array.contains_push, r2]
                    simp [hne], fun j h => by
                  have : j = k := by omega
                  subst this
                  exact ⟨e.born, haux' j e hk, by simp⟩⟩)))
              refine ⟨.tuple #[.bool true, e.key, e.val], _, c.ι, .inl (by simp only [execOp, hux]; simp [hrun]), k2, k1, .tup rfl fun k av u g1 g4 => ?_⟩
              match k with
              | 0 => simp at g1 g4; subst g1; subst g4; exact .v _
              | 1 => simp at g1 g4; subst g1; subst g4; exact g2.mono k2
              | 2 => simp at g1 g4; subst g1; subst g4; exact g3.mono k2
              | k + 3 => simp at g1
          · cases he
        · cases he
    · cases he
  · cases he

theorem entr_good {x : Operand} (he : evE tm c.hp nx (.mentr (cO x)) = some (v, hp', nx')) (ht : TRel c tm a) (hh : HRel c nx) :
    EGood P ⟨dst, .entry x, type, pos, after, guard⟩ a c v hp' nx' := by
  simp only [evE] at he
  split at he
  · rename_i q r hx
    split at he
    · rename_i n fl es hfl hes
      split at he
      · rename_i hn
        split at he
        · rename_i kk vv hrow
          simp only [Option.some.injEq, Prod.mk.injEq] at he
          obtain ⟨rfl, rfl, rfl⟩ := he
          have h1 := cO_rel ht x
          rw [hx] at h1
          generalize hux : a.eval x = ux at h1
          cases h1 with
          | it hq hq1 hr hm hm' hmr e1 e2 e3 e4 =>
            rename_i p p' pr
            obtain ⟨hFq, seen, hbq, n0, fl0, hfe, hl, _, hback⟩ := hh.walk hfl hq hm
            obtain ⟨_, ents, hb, hrows, hst, haux⟩ := hh.kept hes hq1 hm'
            rw [e2.trans e1.symm] at hbq
            simp only [List.cons.injEq, AV.v.injEq, Value.int.injEq, and_true, true_and] at hfe
            obtain ⟨rfl, rfl⟩ := hfe
            obtain ⟨s, g1, g2⟩ := hback (n0 - 1) (by omega)
            have hj : ((n0 : Int).toNat - 1) = n0 - 1 := by omega
            rw [hj] at hrow
            have hlt : n0 - 1 < ents.size := by rw [← hrows.1]; exact (List.getElem?_eq_some_iff.1 hrow).1
            have hie : ents[n0 - 1]? = some ents[n0 - 1] := Array.getElem?_eq_getElem hlt
            have hs : ents[n0 - 1].born = s := by
              rw [← e3, ← haux] at g1
              simpa [List.getElem?_map, hie] using g1
            have hnd : (ents.toList.map (·.born)).Nodup := by
              rw [List.nodup_iff_pairwise_ne, List.pairwise_iff_getElem]
              intro i j hi hj hij heq
              simp at hi hj
              simp only [List.getElem_map, Array.getElem_toList] at heq
              have := hst.2 i j _ _ (Array.getElem?_eq_getElem hi) (Array.getElem?_eq_getElem hj) heq
              omega
            have hf : ents.find? (·.born == s) = some ents[n0 - 1] := by
              rw [← Array.find?_toList, ← hs]
              exact find_born ents[n0 - 1] ents.toList hnd (by simp)
            have hrun : (Instr.entry (.pointer (some ⟨p.B, 0, none⟩))).run P c.w = .ok (.tuple #[ents[n0 - 1].key, ents[n0 - 1].val]) c.w := by
              simp only [Instr.entry, getObj, Sem.run_bind, Sem.run, hbq, hb, Result.andThen, g2, e4, bne_self_eq_false, Bool.false_eq_true, if_false, hf]
              rfl
            obtain ⟨k', v', q1, q2, q3⟩ := hrows.2 _ _ _ hrow hie
            simp only [List.cons.injEq, and_true] at q1
            obtain ⟨rfl, rfl⟩ := q1
            refine ⟨.tuple #[ents[n0 - 1].key, ents[n0 - 1].val], c.w, c.ι, .inl (by simp only [execOp, hux]; simp [hrun]), Ext.refl c, hh, .tup rfl fun k av u r1 r2 => ?_⟩
            match k with
            | 0 => simp at r1 r2; subst r1; subst r2; exact q2
            | 1 => simp at r1 r2; subst r1; subst r2; exact q3
            | k + 2 => simp at r1
        · cases he
      · cases he
    · cases he
  · cases he

theorem del_good {t kt et : TypeId} {m k : Operand} {args : Array Operand} {ts : Array TypeId} {lk : LK} (ha : args.toList = [m, k]) (h0 : ts[0]? = some t) (h : P.underlying t = some (.map kt et)) (hl : lkOf P kt = some lk)
    (he : evE tm c.hp nx (.mdel lk (cO m) (cO k)) = some (v, hp', nx')) (ht : TRel c tm a) (hh : HRel c nx) : EGood P ⟨dst, .call ⟨.builtin .delete, args, ts⟩, type, pos, after, guard⟩ a c v hp' nx' := by
  simp only [evE] at he
  split at he
  · rename_i r hx
    split at he
    · rename_i es hes
      split at he
      · have h1 := cO_rel ht m
        have h2 := cO_rel ht k
        rw [hx] at h1
        generalize hux : a.eval m = ux at h1
        cases h1 with
        | mp hι hpm =>
          rename_i p
          obtain ⟨_, ents, clock, hb, hrows, hst⟩ := hh.map hes hι hpm
          obtain ⟨d, hd, hld⟩ := lkOf_spec hl
          have hck := fun em => checkKey_run (P := P) (w := c.w) hd hld em (a.eval k)
          have key := findM_run hld h2 es ents.toList 0 (by simpa using hrows.1) (fun i row e h3 h4 => hrows.2 i row e h3 (by simpa using h4))
          have hm : args.map a.eval = #[.map (some p.B), a.eval k] := by
            have : args = #[m, k] := Array.toList_inj.1 (by simpa using ha)
            subst this; simp [hux]
          split at he
          · rename_i i v' hf
            simp only [Option.some.injEq, Prod.mk.injEq] at he
            obtain ⟨rfl, rfl, rfl⟩ := he
            obtain ⟨e, g1, g2, g3, g4⟩ := key _ hf
            rw [Nat.zero_add] at g4
            have g1' : ents[i]? = some e := by simpa using g1
            have hil := (Array.getElem?_eq_some_iff.1 g1').1
            have hrun : (Builtin.delete_ ts type #[.map (some p.B), a.eval k]).run P c.w = .ok (.tuple #[]) { c.w with heap := c.w.heap.setIfInBounds p.B (.map (ents.eraseIdxIfInBounds i) clock) } := by
              unfold Builtin.delete_
              rw [h0, show (#[Value.map (some p.B), a.eval k] : Array Value)[0]? = some (.map (some p.B)) from rfl, show (#[Value.map (some p.B), a.eval k] : Array Value)[1]? = some (a.eval k) from rfl]
              simp [run_underlying h, MapKept.run_getObj_map hb, hck, MapKept.run_findKey hd g4, Result.andThen, MapKept.run_setObj_map _ hb]
            have hlist : (ents.eraseIdxIfInBounds i).toList = ents.toList.eraseIdx i := by simp [Array.eraseIdxIfInBounds, hil]
            have hget : ∀ (j : Nat), (ents.eraseIdxIfInBounds i)[j]? = if j < i then ents[j]? else ents[j + 1]? := by
              intro j
              rw [← Array.getElem?_toList, hlist, List.getElem?_eraseIdx]
              simp
            obtain ⟨k1, k2⟩ := write_map hh hes hι hpm hb (w' := { c.w with heap := c.w.heap.setIfInBounds p.B (.map (ents.eraseIdxIfInBounds i) clock) }) rfl rfl rfl rfl (es' := es.eraseIdx i) ⟨by
                rw [← Array.length_toList, hlist, List.length_eraseIdx, List.length_eraseIdx]; simp [hrows.1], fun j l e' q1 q2 => by
                rw [List.getElem?_eraseIdx] at q1
                rw [hget] at q2
                split at q1
                · rename_i hj; rw [if_pos hj] at q2; exact hrows.2 j l e' q1 q2
                · rename_i hj; rw [if_neg hj] at q2; exact hrows.2 _ l e' q1 q2⟩ (hst.sub (Nat.le_refl _) (fun j => if j < i then j else j + 1) (fun x y hxy => by
                  split at hxy <;> split at hxy <;> omega) fun j e' q => by
                  rw [hget] at q
                  refine ⟨e', ?_, rfl⟩
                  split at q
                  · rename_i hj; simp only [if_pos hj]; exact q
                  · rename_i hj; simp only [if_neg hj]; exact q)
            exact ⟨.tuple #[], _, c.ι, .inl (builtin_exec (by rw [hm]; simp only [builtin, Sem.run_bind, hrun, Result.andThen_ok, Sem.run_pure])), k2, k1, .v _⟩
          · rename_i hf
            simp only [Option.some.injEq, Prod.mk.injEq] at he
            obtain ⟨rfl, rfl, rfl⟩ := he
            have g4 := key _ hf
            have hrun : (Builtin.delete_ ts type #[.map (some p.B), a.eval k]).run P c.w = .ok (.tuple #[]) { c.w with heap := c.w.heap.setIfInBounds p.B (.map ents clock) } := by
              unfold Builtin.delete_
              rw [h0, show (#[Value.map (some p.B), a.eval k] : Array Value)[0]? = some (.map (some p.B)) from rfl, show (#[Value.map (some p.B), a.eval k] : Array Value)[1]? = some (a.eval k) from rfl]
              simp [run_underlying h, MapKept.run_getObj_map hb, hck, MapKept.run_findKey hd g4, Result.andThen, MapKept.run_setObj_map _ hb]
            obtain ⟨k1, k2⟩ := write_map hh hes hι hpm hb (w' := { c.w with heap := c.w.heap.setIfInBounds p.B (.map ents clock) }) rfl rfl rfl rfl hrows hst
            exact ⟨.tuple #[], _, c.ι, .inl (builtin_exec (by rw [hm]; simp only [builtin, Sem.run_bind, hrun, Result.andThen_ok, Sem.run_pure])), k2, k1, .v _⟩
          · cases he
      · cases he
    · cases he
  · cases he

theorem entry_good {t kt et : TypeId} {m k : Operand} {lk : LK} {i : TypeInfo} {z : Value} (h : P.underlying t = some (.map kt et)) (hl : lkOf P kt = some lk) (hi : P.info? et = some i) (hz : i.zero = some z)
    (he : evE tm c.hp nx (.mentry lk (ofV z) (cO m) (cO k)) = some (v, hp', nx')) (ht : TRel c tm a) (hh : HRel c nx) : EGood P ⟨dst, .mapEntry t m k, type, pos, after, guard⟩ a c v hp' nx' := by
  simp only [evE] at he
  split at he
  · rename_i r hx
    split at he
    · rename_i es hes
      split at he
      · rename_i hka
        have h1 := cO_rel ht m
        have h2 := cO_rel ht k
        rw [hx] at h1
        generalize hux : a.eval m = ux at h1
        cases h1 with
        | mp hι hpm =>
          rename_i p
          obtain ⟨_, ents, clock, hb, hrows, hst⟩ := hh.map hes hι hpm
          obtain ⟨d, hd, hld⟩ := lkOf_spec hl
          have hlt := (Array.getElem?_eq_some_iff.1 hb).1
          have hrn : r < nx := hh.lt r p hι
          have hzv : (zeroValue et).run P c.w = .ok z c.w := by simp [zeroValue, typeInfo, hi, hz]
          have hck := fun em => checkKey_run (P := P) (w := c.w) hd hld em (a.eval k)
          have key := findM_run hld h2 es ents.toList 0 (by simpa using hrows.1) (fun i row e h3 h4 => hrows.2 i row e h3 (by simpa using h4))
          have fin : ∀ (w' : World) (es' : Blk) (ents' : Array MapEntry) (clock' j : Nat) (e : MapEntry) (vv : AV), w'.heap = c.w.heap.setIfInBounds p.B (.map ents' clock') → w'.os = c.w.os → w'.tape = c.w.tape → w'.output = c.w.output →
              MRows c es' ents' → Stamps ents' clock' → ents'[j]? = some e → VRel c vv e.val → (Instr.mapEntry t (.map (some p.B)) (a.eval k)).run P c.w = .ok (.tuple #[e.val, goInt e.born]) w' →
              EGood P ⟨dst, .mapEntry t m k, type, pos, after, guard⟩ a c (.tup [vv, .tk (j + 1) nx r]) (hupd (hupd (hupd c.hp r (some es')) r none) nx (some es')) (nx + 1) := by
            intro w' es' ents' clock' j e vv hheap hos htape hout hrows' hst' hj hvv hrun
            obtain ⟨k1, k2⟩ := write_map hh hes hι hpm hb hheap hos htape hout hrows' hst'
            obtain ⟨m1, m2⟩ := park k1 (r := r) (es := es') (p := p) (by show hupd _ _ _ r = _; simp [hupd]) hι (ents := ents') (clock := clock') (by show w'.heap[p.B]? = _; rw [hheap]; simp [hlt]) (hrows'.move fun x u g => g.mono k2) hst'
            refine ⟨.tuple #[e.val, goInt e.born], w', _, .inl (by simp only [execOp, hux]; simp [hrun]), k2.trans m2, m1, .tup rfl fun q av u g1 g2 => ?_⟩
            match q with
            | 0 => simp at g1 g2; subst g1; subst g2; exact hvv.mono (k2.trans m2)
            | 1 =>
              simp at g1 g2; subst g1; subst g2
              exact .stm (p := ⟨p.B, 3, clock', 0, ents'.toList.map (·.born)⟩) (pr := p) (by simp [iupd]) (by simp [iupd, show r ≠ nx by omega, hι]) rfl hpm rfl (by simp [List.getElem?_map, hj])
            | q + 2 => simp at g1
          split at he
          · rename_i i v' hf
            simp only [Option.some.injEq, Prod.mk.injEq] at he
            obtain ⟨rfl, rfl, rfl⟩ := he
            obtain ⟨e, g1, g2, g3, g4⟩ := key _ hf
            rw [Nat.zero_add] at g4
            have g1' : ents[i]? = some e := by simpa using g1
            have hil := (Array.getElem?_eq_some_iff.1 g1').1
            let ents' := ents.modify i fun e => { e with key := a.eval k }
            have hsb : Instr.sameBits 10000 e.key (a.eval k) = true := by
              rw [g3]
              exact sameBits_key hka h2
            have hget : ∀ j, ents'[j]? = if j = i then some { e with key := a.eval k } else ents[j]? := by
              intro j
              simp only [ents', Array.getElem?_modify]
              by_cases hj : i = j
              · subst hj; simp [g1']
              · simp [hj, Ne.symm hj]
            refine fin { c.w with heap := c.w.heap.setIfInBounds p.B (.map ents' clock) } (es.set i [ev tm (cO k), v']) ents' clock i { e with key := a.eval k } v' rfl rfl rfl rfl ⟨by simp [ents', hrows.1], fun j l e' q1 q2 => ?_⟩ (hst.sub (Nat.le_refl _) id (fun _ _ h => h) fun j e' q => ?_) (by rw [hget]; simp) g2 ?_
            · rw [List.getElem?_set] at q1
              rw [hget] at q2
              by_cases hj : i = j
              · subst hj
                rw [if_pos rfl] at q2
                simp only [Option.some.injEq] at q2; subst q2
                simp only [if_true] at q1
                split at q1
                · simp only [Option.some.injEq] at q1; subst q1
                  exact ⟨_, _, rfl, h2, g2⟩
                · cases q1
              · rw [if_neg hj] at q1
                rw [if_neg (Ne.symm hj)] at q2
                exact hrows.2 j l e' q1 q2
            · rw [hget] at q
              split at q
              · rename_i hj; subst hj
                simp only [Option.some.injEq] at q; subst q
                exact ⟨e, g1', rfl⟩
              · exact ⟨e', q, rfl⟩
            · unfold Instr.mapEntry
              simp [run_underlying h, MapKept.run_getObj_map hb, hck, MapKept.run_findKey hd g4, Result.andThen, g1', Instr.keyThatStays, hsb, MapKept.run_setObj_map _ hb, ents']
          · rename_i hf
            simp only [Option.some.injEq, Prod.mk.injEq] at he
            obtain ⟨rfl, rfl, rfl⟩ := he
            have g4 := key _ hf
            let ents' := ents.push { key := a.eval k, val := z, born := clock }
            have hget : ∀ j, ents'[j]? = if j = ents.size then some { key := a.eval k, val := z, born := clock } else ents[j]? := by
              intro j
              simp only [ents', Array.getElem?_push]
            refine fin { c.w with heap := c.w.heap.setIfInBounds p.B (.map ents' (clock + 1)) } (es ++ [[ev tm (cO k), ofV z]]) ents' (clock + 1) es.length { key := a.eval k, val := z, born := clock } (ofV z) rfl rfl rfl rfl ⟨by simp [ents', hrows.1], fun j l e' q1 q2 => ?_⟩ ⟨fun j e' q => ?_, fun j j' e1 e2 q1 q2 q3 => ?_⟩ (by rw [hget, hrows.1]; simp) (ofV_rel c z) ?_
            · rw [hget] at q2
              by_cases hj : j = ents.size
              · rw [if_pos hj] at q2
                simp only [Option.some.injEq] at q2; subst q2
                rw [List.getElem?_append_right (by rw [hrows.1]; omega), hj, hrows.1, Nat.sub_self] at q1
                simp at q1; subst q1
                exact ⟨_, _, rfl, h2, ofV_rel c z⟩
              · rw [if_neg hj] at q2
                have hjl := (Array.getElem?_eq_some_iff.1 q2).1
                rw [List.getElem?_append_left (by rw [hrows.1]; exact hjl)] at q1
                exact hrows.2 j l e' q1 q2
            · rw [hget] at q
              split at q
              · simp only [Option.some.injEq] at q; subst q; exact Nat.lt_succ_self _
              · exact Nat.lt_succ_of_lt (hst.1 j e' q)
            · rw [hget] at q1 q2
              split at q1
              · rename_i hj
                simp only [Option.some.injEq] at q1; subst q1
                split at q2
                · rename_i hj'; omega
                · have := hst.1 j' e2 q2
                  simp at q3; omega
              · split at q2
                · simp only [Option.some.injEq] at q2; subst q2
                  have := hst.1 j e1 q1
                  simp at q3; omega
                · exact hst.2 j j' e1 e2 q1 q2 q3
            · unfold Instr.mapEntry
              simp [run_underlying h, MapKept.run_getObj_map hb, hck, MapKept.run_findKey hd g4, hzv, Result.andThen, MapKept.run_setObj_map _ hb, ents']
          · cases he
      · cases he
    · cases he
  · cases he

theorem estore_good {t : TypeId} {m s x : Operand} (he : evE tm c.hp nx (.mestore (cO m) (cO s) (cO x)) = some (v, hp', nx')) (ht : TRel c tm a) (hh : HRel c nx) :
    EGood P ⟨dst, .entryStore t m s x, type, pos, after, guard⟩ a c v hp' nx' := by
  simp only [evE] at he
  split at he
  · rename_i r i q r' hm hs
    split at he
    · rename_i hrr
      subst hrr
      split at he
      · rename_i es hes
        split at he
        · rename_i kk vv hrow
          simp only [Option.some.injEq, Prod.mk.injEq] at he
          obtain ⟨rfl, rfl, rfl⟩ := he
          have h1 := cO_rel ht m
          have h2 := cO_rel ht s
          have h3 := cO_rel ht x
          rw [hm] at h1
          rw [hs] at h2
          generalize hum : a.eval m = um at h1
          generalize hus : a.eval s = us at h2
          cases h1 with
          | mp hι hpm =>
            rename_i pr
            cases h2 with
            | stm hq hr hmq hmr e1 hs' =>
              rename_i n p pr'
              rw [hι, Option.some.injEq] at hr; subst hr
              obtain ⟨_, ents, hb, hrows, hst, haux⟩ := hh.kept hes hq hmq
              have hlt := (Array.getElem?_eq_some_iff.1 hb).1
              have hil : i < ents.size := by rw [← hrows.1]; exact (List.getElem?_eq_some_iff.1 hrow).1
              have hie : ents[i]? = some ents[i] := Array.getElem?_eq_getElem hil
              have hn : ents[i].born = n := by
                rw [← haux] at hs'
                simpa [List.getElem?_map, hie] using hs'
              obtain ⟨k', v', g1, g2, g3⟩ := hrows.2 i _ _ hrow hie
              simp only [List.cons.injEq, and_true] at g1
              obtain ⟨rfl, rfl⟩ := g1
              let ents' := ents.modify i fun e => { e with val := a.eval x }
              have hfind : ents.findIdx? (fun e => (e.born : Int) == (n : Int)) = some i := by
                rw [Array.findIdx?_eq_some_iff_getElem]
                refine ⟨hil, by simp [hn], fun j hj hb => ?_⟩
                have hb : ents[j].born = n := by
                  have h : ((ents[j].born : Nat) : Int) = (n : Int) := by simpa using hb
                  omega
                have := hst.2 j i _ _ (Array.getElem?_eq_getElem (by omega)) hie (by rw [hb, hn])
                omega
              have hrun : (Instr.entryStore t (.map (some pr.B)) (.int .i64 n) (a.eval x)).run P c.w = .ok () { c.w with heap := c.w.heap.setIfInBounds p.B (.map ents' p.sz) } := by
                unfold Instr.entryStore
                rw [← e1]
                simp [MapKept.run_getObj_map hb, asInt, asIntOf, hfind, Result.andThen, MapKept.run_setObj_map _ hb, ents']
              have hget : ∀ j, ents'[j]? = if j = i then some { ents[i] with val := a.eval x } else ents[j]? := by
                intro j
                simp only [ents', Array.getElem?_modify]
                by_cases hj : i = j
                · subst hj; simp [hie]
                · simp [hj, Ne.symm hj]
              have hrows' : MRows c (es.set i [kk, ev tm (cO x)]) ents' := ⟨by simp [ents', hrows.1], fun j l e' q1 q2 => by
                rw [List.getElem?_set] at q1
                rw [hget] at q2
                by_cases hj : i = j
                · subst hj
                  rw [if_pos rfl] at q2
                  simp only [Option.some.injEq] at q2; subst q2
                  simp only [if_true] at q1
                  split at q1
                  · simp only [Option.some.injEq] at q1; subst q1
                    exact ⟨_, _, rfl, g2, h3⟩
                  · cases q1
                · rw [if_neg hj] at q1
                  rw [if_neg (Ne.symm hj)] at q2
                  exact hrows.2 j l e' q1 q2⟩
              have hst' : Stamps ents' p.sz := hst.sub (Nat.le_refl _) id (fun _ _ h => h) fun j e' q => by
                rw [hget] at q
                split at q
                · rename_i hj; subst hj
                  simp only [Option.some.injEq] at q; subst q
                  exact ⟨_, hie, rfl⟩
                · exact ⟨e', q, rfl⟩
              have haux' : ents'.toList.map (·.born) = p.aux := by
                rw [← haux]
                apply List.ext_getElem?
                intro j
                simp only [List.getElem?_map, Array.getElem?_toList, hget]
                split
                · rename_i hj; subst hj; simp [hie]
                · rfl
              obtain ⟨k1, k2⟩ := write_blk hh hes hq hb (fun cs e fz h => by cases h) (es' := es.set i [kk, ev tm (cO x)]) (w' := { c.w with heap := c.w.heap.setIfInBounds p.B (.map ents' p.sz) }) rfl rfl rfl rfl hrows'.nt
                (.inr (.inr (.inr ⟨hmq, ents', rfl, hrows', hst', haux'⟩)))
              obtain ⟨m1, m2⟩ := unpark k1 (q := q) (r := r) (es := es.set i [kk, ev tm (cO x)]) (by simp [hupd]) hq hmq hι hpm e1 (hp1 := hupd (hupd c.hp q (some (es.set i [kk, ev tm (cO x)]))) q none) (fun y => by simp only [hupd]; split; exact .inr rfl; exact .inl rfl) (by simp [hupd])
              exact ⟨undef, _, c.ι, .inr ⟨by simp only [execOp, hum, hus]; simp [hrun], rfl⟩, k2.trans m2, m1, .v _⟩
        · cases he
      · cases he
    · cases he
  · cases he
end

theorem evE_map {P : Program} {op : Op} {co : COp} (hm : MapOp P op co) {dst : Option Tmp} {type : TypeId} {pos : String} {after : Array Edge} {guard : Option (Nat × Bool)} {tm : Nat → AV} {a : Act} {c : Cx} {v : AV} {hp' : Heap} {nx nx' : Nat} (he : evE tm c.hp nx co = some (v, hp', nx')) (ht : TRel c tm a) (hh : HRel c nx) :
    EGood P ⟨dst, op, type, pos, after, guard⟩ a c v hp' nx' := by
  cases hm with
  | look h hl hi hz => simp [evE] at he
  | len ha h0 h => simp [evE] at he
  | del ha h0 h hl => exact del_good ha h0 h hl he ht hh
  | range h => exact range_good h he ht hh
  | next => exact next_good he ht hh
  | entr => exact entr_good he ht hh
  | entry h hl hi hz => exact entry_good h hl hi hz he ht hh
  | estore => exact estore_good he ht hh
  | @mk t kt et h =>
    simp only [evE, Option.some.injEq, Prod.mk.injEq] at he
    obtain ⟨rfl, rfl, rfl⟩ := he
    obtain ⟨h1, h2⟩ := push_map hh (w' := { c.w with heap := c.w.heap.push (.map #[] 0) }) rfl rfl rfl rfl
    exact ⟨.map (some c.w.heap.size), _, _, .inl rfl, h2, h1, .mp (p := ⟨c.w.heap.size, 1, 0, 0, []⟩) (by simp [iupd]) (by simp)⟩
  | @set t kt et m k x lk h hl =>
    simp only [evE] at he
    split at he
    · rename_i r hx
      split at he
      · rename_i es hes
        split at he
        · rename_i hka
          have h1 := cO_rel ht m
          have h2 := cO_rel ht k
          have h3 := cO_rel ht x
          rw [hx] at h1
          generalize hux : a.eval m = ux at h1
          cases h1 with
          | mp hι hpm =>
            rename_i p
            obtain ⟨_, ents, clock, hb, hrows, hst⟩ := hh.map hes hι hpm
            obtain ⟨d, hd, hld⟩ := lkOf_spec hl
            have hck := fun em => checkKey_run (P := P) (w := c.w) hd hld em (a.eval k)
            have key := findM_run hld h2 es ents.toList 0 (by simpa using hrows.1) (fun i row e h3 h4 => hrows.2 i row e h3 (by simpa using h4))
            split at he
            · rename_i i v' hf
              simp only [Option.some.injEq, Prod.mk.injEq] at he
              obtain ⟨rfl, rfl, rfl⟩ := he
              obtain ⟨e, g1, g2, g3, g4⟩ := key _ hf
              have g1' : ents[i]? = some e := by simpa using g1
              have hil := (Array.getElem?_eq_some_iff.1 g1').1
              let ents' := ents.modify i fun e => { e with key := a.eval k, val := a.eval x }
              have hsb : Instr.sameBits 10000 e.key (a.eval k) = true := by
                rw [g3]
                exact sameBits_key hka h2
              have hrun : (Instr.mapUpdate t (.map (some p.B)) (a.eval k) (a.eval x)).run P c.w = .ok () { c.w with heap := c.w.heap.setIfInBounds p.B (.map ents' clock) } := by
                unfold Instr.mapUpdate
                simp [run_underlying h, MapKept.run_getObj_map hb, hck, MapKept.run_findKey hd g4, Result.andThen, g1', Instr.keyThatStays, hsb, MapKept.run_setObj_map _ hb, ents']
              have hget : ∀ j, ents'[j]? = if j = i then some { e with key := a.eval k, val := a.eval x } else ents[j]? := by
                intro j
                simp only [ents', Array.getElem?_modify]
                by_cases hj : i = j
                · subst hj; simp [g1']
                · simp [hj, Ne.symm hj]
              obtain ⟨k1, k2⟩ := write_map hh hes hι hpm hb (w' := { c.w with heap := c.w.heap.setIfInBounds p.B (.map ents' clock) }) (ents' := ents') (clock' := clock) rfl rfl rfl rfl (es' := es.set i [ev tm (cO k), ev tm (cO x)]) ⟨by simp [ents', hrows.1], fun j l e' q1 q2 => by
                rw [List.getElem?_set] at q1
                rw [hget] at q2
                by_cases hj : i = j
                · subst hj
                  rw [if_pos rfl] at q2
                  simp only [Option.some.injEq] at q2; subst q2
                  simp only [if_true] at q1
                  split at q1
                  · simp only [Option.some.injEq] at q1; subst q1
                    exact ⟨_, _, rfl, h2, h3⟩
                  · cases q1
                · rw [if_neg hj] at q1
                  rw [if_neg (Ne.symm hj)] at q2
                  exact hrows.2 j l e' q1 q2⟩ ⟨fun j e' q => by
                  rw [hget] at q
                  split at q
                  · simp only [Option.some.injEq] at q; subst q
                    exact hst.1 i e g1'
                  · exact hst.1 j e' q, fun j j' e1 e2 q1 q2 q3 => by
                  have old : ∀ (j : Nat) (e1 : MapEntry), ents'[j]? = some e1 → ∃ e0 : MapEntry, ents[j]? = some e0 ∧ e0.born = e1.born := by
                    intro j e1 q
                    rw [hget] at q
                    split at q
                    · rename_i hj; subst hj
                      simp only [Option.some.injEq] at q; subst q
                      exact ⟨e, g1', rfl⟩
                    · exact ⟨e1, q, rfl⟩
                  obtain ⟨a1, b1, c1⟩ := old j e1 q1
                  obtain ⟨a2, b2, c2⟩ := old j' e2 q2
                  exact hst.2 j j' a1 a2 b1 b2 (by rw [c1, c2, q3])⟩
              exact ⟨undef, _, c.ι, .inr ⟨by simp only [execOp, hux]; simp [hrun], rfl⟩, k2, k1, .v _⟩
            · rename_i hf
              simp only [Option.some.injEq, Prod.mk.injEq] at he
              obtain ⟨rfl, rfl, rfl⟩ := he
              have g4 := key _ hf
              let ents' := ents.push { key := a.eval k, val := a.eval x, born := clock }
              have hrun : (Instr.mapUpdate t (.map (some p.B)) (a.eval k) (a.eval x)).run P c.w = .ok () { c.w with heap := c.w.heap.setIfInBounds p.B (.map ents' (clock + 1)) } := by
                unfold Instr.mapUpdate
                simp [run_underlying h, MapKept.run_getObj_map hb, hck, MapKept.run_findKey hd g4, Result.andThen, MapKept.run_setObj_map _ hb, ents']
              have hget : ∀ j, ents'[j]? = if j = ents.size then some { key := a.eval k, val := a.eval x, born := clock } else ents[j]? := by
                intro j
                simp only [ents', Array.getElem?_push]
              obtain ⟨k1, k2⟩ := write_map hh hes hι hpm hb (w' := { c.w with heap := c.w.heap.setIfInBounds p.B (.map ents' (clock + 1)) }) (ents' := ents') (clock' := clock + 1) rfl rfl rfl rfl (es' := es ++ [[ev tm (cO k), ev tm (cO x)]]) ⟨by simp [ents', hrows.1], fun j l e' q1 q2 => by
                rw [hget] at q2
                by_cases hj : j = ents.size
                · rw [if_pos hj] at q2
                  simp only [Option.some.injEq] at q2; subst q2
                  rw [List.getElem?_append_right (by rw [hrows.1]; omega), hj, hrows.1, Nat.sub_self] at q1
                  simp at q1; subst q1
                  exact ⟨_, _, rfl, h2, h3⟩
                · rw [if_neg hj] at q2
                  have hjl := (Array.getElem?_eq_some_iff.1 q2).1
                  rw [List.getElem?_append_left (by rw [hrows.1]; exact hjl)] at q1
                  exact hrows.2 j l e' q1 q2⟩ ⟨fun j e' q => by
                  rw [hget] at q
                  split at q
                  · simp only [Option.some.injEq] at q; subst q; exact Nat.lt_succ_self _
                  · exact Nat.lt_succ_of_lt (hst.1 j e' q), fun j j' e1 e2 q1 q2 q3 => by
                  rw [hget] at q1 q2
                  split at q1
                  · rename_i hj
                    simp only [Option.some.injEq] at q1; subst q1
                    split at q2
                    · rename_i hj'; omega
                    · have := hst.1 j' e2 q2
                      simp at q3; omega
                  · split at q2
                    · simp only [Option.some.injEq] at q2; subst q2
                      have := hst.1 j e1 q1
                      simp at q3; omega
                    · exact hst.2 j j' e1 e2 q1 q2 q3⟩
              exact ⟨undef, _, c.ι, .inr ⟨by simp only [execOp, hux]; simp [hrun], rfl⟩, k2, k1, .v _⟩
            · cases he
        · cases he
      · cases he
    · cases he
end Go.Ai
