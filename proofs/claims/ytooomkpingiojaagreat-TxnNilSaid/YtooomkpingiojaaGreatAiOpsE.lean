/- Operations that read, make or change owned memory: the lemmas on memory. -/
import Derived.Test.YtooomkpingiojaaGreatAiOpsS
namespace Go.Ai
set_option linter.unusedVariables false
set_option linter.unusedSimpArgs false

def iupd (ι : Inj) (r : Nat) (p : Place) : Inj := fun x => if x = r then some p else ι x

/-- A new block. -/
theorem push_rel {c : Cx} {nx : Nat} (hh : HRel c nx) {w' : World} {cs : Array Value} {e : TypeId} {fz : Nat × Nat} {es : Blk} {sz : Nat}
    (hheap : w'.heap = c.w.heap.push (.cells cs e fz)) (hos : w'.os = c.w.os) (htape : w'.tape = c.w.tape) (hout : w'.output = c.w.output)
    (hfz : ∀ o, o < cs.size → ¬ (fz.1 ≤ o ∧ o < fz.2))
    (hes : ∀ (i : Nat) (l : List AV), es[i]? = some l → l.length = sz ∧ ∀ (j : Nat) (av : AV), l[j]? = some av → ∃ u, cs[i * sz + j]? = some u ∧ VRel c av u) :
    let c' : Cx := ⟨c.F, iupd c.ι nx ⟨c.w.heap.size, 0, sz, cs.size, []⟩, hupd c.hp nx (some es), w'⟩
    HRel c' (nx + 1) ∧ Ext c c' := by
  intro c'
  have hget : ∀ B, B < c.w.heap.size → w'.heap[B]? = c.w.heap[B]? := by
    intro B hB; rw [hheap, Array.getElem?_push, if_neg (by omega)]
  have hnew : w'.heap[c.w.heap.size]? = some (.cells cs e fz) := by rw [hheap]; simp
  have hfι := hh.fresh
  have hfh := hh.hfresh
  have hι : ∀ r, r ≠ nx → c'.ι r = c.ι r := fun r hr => by show iupd _ _ _ r = _; simp [iupd, hr]
  have hιn : c'.ι nx = some ⟨c.w.heap.size, 0, sz, cs.size, []⟩ := by show iupd _ _ _ nx = _; simp [iupd]
  have hhp : ∀ r, r ≠ nx → c'.hp r = c.hp r := fun r hr => by show hupd _ _ _ r = _; simp [hupd, hr]
  have hhn : c'.hp nx = some es := by show hupd _ _ _ nx = _; simp [hupd]
  have hown : ∀ B, B < c.w.heap.size → c'.own B → c.own B := by
    rintro B hB ⟨r, p, h1, h2, h3⟩
    by_cases hr : r = nx
    · subst hr; rw [hιn, Option.some.injEq] at h2; subst h2; simp at h3; omega
    · rw [hhp r hr] at h1; rw [hι r hr] at h2; exact ⟨r, p, h1, h2, h3⟩
  have hext : Ext c c' := by
    refine ⟨rfl, ?_, ?_, ?_, hos, htape, hout⟩
    · intro r p h
      by_cases hr : r = nx
      · subst hr; rw [hfι] at h; simp at h
      · rw [hι r hr]; exact h
    · show c.w.heap.size ≤ w'.heap.size
      rw [hheap]; simp
    · exact fun B hB ho => ⟨fun h => ho (hown B hB h), hget B hB⟩
  refine ⟨⟨?_, ?_, ?_, ?_, ?_, hh.ty.to ?_ hext.ι (fun B cs0 t fz0 hB => ⟨cs0, by show w'.heap[B]? = _; rw [hget B (Array.getElem?_eq_some_iff.1 hB).1]; exact hB, rfl⟩) (fun r g1 _ g2 => by
    have : r ≠ nx := by rintro rfl; have := hh.dom _ g1; omega
    rw [hhp r this] at g2; exact g2), hh.gl.ext hext⟩, hext⟩
  rotate_right
  · intro r t k rest hr
    by_cases he : r = nx
    · subst he
      rw [hhn, Option.some.injEq] at hr; subst hr
      obtain ⟨u, _, hu⟩ := (hes 0 _ rfl).2 0 _ rfl
      exact hu.not_ty.elim
    · rw [hhp r he] at hr; exact hr
  · intro r hr
    by_cases he : r = nx
    · omega
    · rw [hhp r he] at hr; have := hh.dom r hr; omega
  · intro r p h
    by_cases he : r = nx
    · omega
    · rw [hι r he] at h; have := hh.lt r p h; omega
  · intro r es' p h1 h2
    by_cases he : r = nx
    · subst he
      rw [hhn, Option.some.injEq] at h1; subst h1
      rw [hιn, Option.some.injEq] at h2; subst h2
      refine ⟨fun hF => absurd (hh.F _ hF) (Nat.lt_irrefl _), .cells cs e fz, hnew, .inl ⟨Nat.zero_le _, cs, e, fz, rfl, rfl, hfz, fun i l hl => ?_⟩⟩
      obtain ⟨h3, h4⟩ := hes i l hl
      exact ⟨h3, fun j av hj => let ⟨u, h5, h6⟩ := h4 j av hj; ⟨u, by rw [Nat.zero_add]; exact h5, h6.mono hext⟩⟩
    · rw [hhp r he] at h1; rw [hι r he] at h2
      obtain ⟨hF, o, h3, h4⟩ := hh.blk r es' p h1 h2
      have hlt : p.B < c.w.heap.size := (Array.getElem?_eq_some_iff.1 h3).1
      exact ⟨hF, o, by show w'.heap[p.B]? = _; rw [hget _ hlt]; exact h3, h4.move fun x u h => h.mono hext⟩
  · have hlt : ∀ r p, c.hp r ≠ none → c.ι r = some p → p.B < c.w.heap.size := by
      intro r p h1 h2
      exact hh.own_lt ⟨r, p, h1, h2, rfl⟩
    intro r r' p p' h1 h2 h3 h4 h5
    by_cases he : r = nx
    · by_cases he' : r' = nx
      · omega
      · subst he
        rw [hιn, Option.some.injEq] at h3; subst h3
        rw [hhp r' he'] at h2; rw [hι r' he'] at h4
        have := hlt r' p' h2 h4; simp at h5; omega
    · by_cases he' : r' = nx
      · subst he'
        rw [hιn, Option.some.injEq] at h4; subst h4
        rw [hhp r he] at h1; rw [hι r he] at h3
        have := hlt r p h1 h3; simp at h5; omega
      · rw [hhp r he] at h1; rw [hι r he] at h3; rw [hhp r' he'] at h2; rw [hι r' he'] at h4
        exact hh.inj r r' p p' h1 h2 h3 h4 h5
  · intro B hB
    have := hh.F B hB
    show B < w'.heap.size
    rw [hheap]; simp; omega

/-- Blocks may be let go. -/
theorem sub_rel {c : Cx} {nx : Nat} (hh : HRel c nx) {hp' : Heap} (hs : Sub hp' c.hp) : HRel { c with hp := hp' } nx ∧ Ext c { c with hp := hp' } := by
  have hne : ∀ r, hp' r ≠ none → hp' r = c.hp r := fun r h => (hs r).resolve_right h
  have hext : Ext c { c with hp := hp' } := by
    refine ⟨rfl, fun _ _ h => h, Nat.le_refl _, ?_, rfl, rfl, rfl⟩
    rintro B hB ho
    refine ⟨?_, rfl⟩
    rintro ⟨r, p, h1, h2, h3⟩
    exact ho ⟨r, p, by rw [← hne r h1]; exact h1, h2, h3⟩
  refine ⟨⟨?_, hh.lt, ?_, ?_, hh.F, hh.ty.to (fun r t k rest hr => by
      have hr : hp' r = _ := hr
      rw [← hne r (by simp [hr])]; exact hr) (fun _ _ h => h) (fun B cs t fz hB => ⟨cs, hB, rfl⟩) (fun r _ _ hr => by
      have hr : hp' r ≠ none := hr
      rw [hne r hr] at hr; exact hr), hh.gl.ext hext⟩, hext⟩
  · intro r h; exact hh.dom r (by rw [← hne r h]; exact h)
  · intro r es p h1 h2
    have h1' : hp' r = some es := h1
    have : c.hp r = some es := by rw [← hne r (by simp [h1'])]; exact h1
    obtain ⟨hF, o, h3, h4⟩ := hh.blk r es p this h2
    exact ⟨hF, o, h3, h4.move fun x u h => h.mono hext⟩
  · intro r r' p p' h1 h2 h3 h4 h5
    exact hh.inj r r' p p' (by rw [← hne r h1]; exact h1) (by rw [← hne r' h2]; exact h2) h3 h4 h5

/-- An owned block is written. -/
theorem write_rel {c : Cx} {nx : Nat} (hh : HRel c nx) {r : Nat} {es es' : Blk} {p : Place} (hr : c.hp r = some es) (hp : c.ι r = some p) {w' : World} {cs cs' : Array Value} {e : TypeId} {fz : Nat × Nat}
    (hb : c.w.heap[p.B]? = some (.cells cs e fz)) (hheap : w'.heap = c.w.heap.setIfInBounds p.B (.cells cs' e fz)) (hsz : cs'.size = cs.size)
    (hos : w'.os = c.w.os) (htape : w'.tape = c.w.tape) (hout : w'.output = c.w.output)
    (hes : ∀ (i : Nat) (l : List AV), es'[i]? = some l → l.length = p.sz ∧ ∀ (j : Nat) (av : AV), l[j]? = some av → ∃ u, cs'[p.O + i * p.sz + j]? = some u ∧ VRel c av u) :
    let c' : Cx := ⟨c.F, c.ι, hupd c.hp r (some es'), w'⟩
    HRel c' nx ∧ Ext c c' := by
  intro c'
  have hlt : p.B < c.w.heap.size := (Array.getElem?_eq_some_iff.1 hb).1
  have hhr : c'.hp r = some es' := by show hupd _ _ _ r = _; simp [hupd]
  have hho : ∀ q, q ≠ r → c'.hp q = c.hp q := fun q hq => by show hupd _ _ _ q = _; simp [hupd, hq]
  have hdom : ∀ q, c'.hp q ≠ none ↔ c.hp q ≠ none := by
    intro q
    by_cases hq : q = r
    · subst hq; rw [hhr, hr]; simp
    · rw [hho q hq]
  have hsize : w'.heap.size = c.w.heap.size := by rw [hheap]; simp
  have hgo : ∀ B, B ≠ p.B → w'.heap[B]? = c.w.heap[B]? := by
    intro B hB; rw [hheap, Array.getElem?_setIfInBounds_ne (by omega)]
  have hgn : w'.heap[p.B]? = some (.cells cs' e fz) := by rw [hheap]; simp [hlt]
  have howner : c.own p.B := ⟨r, p, by simp [hr], hp, rfl⟩
  have hext : Ext c c' := by
    refine ⟨rfl, fun _ _ h => h, by show _ ≤ w'.heap.size; omega, ?_, hos, htape, hout⟩
    intro B hB ho
    refine ⟨?_, hgo B (by rintro rfl; exact ho howner)⟩
    rintro ⟨q, p', h1, h2, h3⟩
    exact ho ⟨q, p', (hdom q).1 h1, h2, h3⟩
  have hty : TyOk c' := hh.ty.to (fun q t k rest hq => by
      by_cases he : q = r
      · subst he
        rw [hhr, Option.some.injEq] at hq; subst hq
        obtain ⟨u, _, hu⟩ := (hes 0 _ rfl).2 0 _ rfl
        exact hu.not_ty.elim
      · rw [hho q he] at hq; exact hq) (fun _ _ h => h) (fun B cs0 t fz0 hB => by
      by_cases he : B = p.B
      · subst he
        rw [hb, Option.some.injEq, Obj.cells.injEq] at hB
        obtain ⟨rfl, rfl, rfl⟩ := hB
        exact ⟨cs', hgn, hsz⟩
      · exact ⟨cs0, (hgo B he).trans hB, rfl⟩) fun q _ _ h => (hdom q).1 h
  refine ⟨⟨fun q h => hh.dom q ((hdom q).1 h), hh.lt, ?_, ?_, ?_, hty, hh.gl.ext hext⟩, hext⟩
  · intro q es2 p' h1 h2
    by_cases hq : q = r
    · subst hq
      rw [hhr, Option.some.injEq] at h1; subst h1
      have h2' : c.ι q = some p' := h2
      rw [hp, Option.some.injEq] at h2'; subst h2'
      obtain ⟨hF, o, h3, h4⟩ := hh.blk q es p hr hp
      rw [hb, Option.some.injEq] at h3; subst h3
      rcases h4 with ⟨hm, cs0, e0, fz0, h4, h5, h6, h7⟩ | ⟨_, _, _, h4, _⟩ | ⟨_, _, h4, _⟩ | ⟨_, _, h4, _⟩
      · rw [Obj.cells.injEq] at h4
        obtain ⟨rfl, rfl, rfl⟩ := h4
        exact ⟨hF, .cells cs' e fz, hgn, .inl ⟨hm, cs', e, fz, rfl, hsz.trans h5, h6, fun i l hl => let ⟨h7, h8⟩ := hes i l hl; ⟨h7, fun j av hj => let ⟨u, h9, h10⟩ := h8 j av hj; ⟨u, h9, h10.mono hext⟩⟩⟩⟩
      all_goals cases h4
    · rw [hho q hq] at h1
      obtain ⟨hF, o, h3, h4⟩ := hh.blk q es2 p' h1 h2
      have hne : p'.B ≠ p.B := fun h => hq (hh.inj q r p' p (by simp [h1]) (by simp [hr]) h2 hp h)
      exact ⟨hF, o, by show w'.heap[p'.B]? = _; rw [hgo _ hne]; exact h3, h4.move fun x u h => h.mono hext⟩
  · intro q q' p1 p2 h1 h2 h3 h4 h5
    exact hh.inj q q' p1 p2 ((hdom q).1 h1) ((hdom q').1 h2) h3 h4 h5
  · intro B hB
    have := hh.F B hB
    show B < w'.heap.size
    omega

/-- An owned block is written, and goes on under another number. -/
theorem move_rel {c : Cx} {nx : Nat} (hh : HRel c nx) {r : Nat} {es es' : Blk} {p p' : Place} (hr : c.hp r = some es) (hp : c.ι r = some p) {w' : World} {cs cs' : Array Value} {e : TypeId} {fz : Nat × Nat}
    (hb : c.w.heap[p.B]? = some (.cells cs e fz)) (hheap : w'.heap = c.w.heap.setIfInBounds p.B (.cells cs' e fz)) (hsz : cs'.size = cs.size) (hpB : p'.B = p.B) (hpN : p'.N = p.N) (hpO : p'.O ≤ p'.N)
    (hos : w'.os = c.w.os) (htape : w'.tape = c.w.tape) (hout : w'.output = c.w.output)
    (hes : ∀ (i : Nat) (l : List AV), es'[i]? = some l → l.length = p'.sz ∧ ∀ (j : Nat) (av : AV), l[j]? = some av → ∃ u, cs'[p'.O + i * p'.sz + j]? = some u ∧ VRel c av u) :
    let c' : Cx := ⟨c.F, iupd c.ι nx p', hupd (hupd c.hp r none) nx (some es'), w'⟩
    HRel c' (nx + 1) ∧ Ext c c' := by
  intro c'
  have hlt : p.B < c.w.heap.size := (Array.getElem?_eq_some_iff.1 hb).1
  have hrn : r ≠ nx := fun h => by have := hh.lt r p hp; omega
  have hhn : c'.hp nx = some es' := by show hupd _ _ _ nx = _; simp [hupd]
  have hhr : c'.hp r = none := by show hupd _ _ _ r = _; simp [hupd, hrn]
  have hho : ∀ q, q ≠ r → q ≠ nx → c'.hp q = c.hp q := fun q hq hq' => by show hupd _ _ _ q = _; simp [hupd, hq, hq']
  have hι : ∀ q, q ≠ nx → c'.ι q = c.ι q := fun q hq => by show iupd _ _ _ q = _; simp [iupd, hq]
  have hιn : c'.ι nx = some p' := by show iupd _ _ _ nx = _; simp [iupd]
  have hsize : w'.heap.size = c.w.heap.size := by rw [hheap]; simp
  have hgo : ∀ B, B ≠ p.B → w'.heap[B]? = c.w.heap[B]? := by
    intro B hB; rw [hheap, Array.getElem?_setIfInBounds_ne (by omega)]
  have hgn : w'.heap[p.B]? = some (.cells cs' e fz) := by rw [hheap]; simp [hlt]
  have howner : c.own p.B := ⟨r, p, by simp [hr], hp, rfl⟩
  have hdo : ∀ q, c'.hp q ≠ none → q ≠ nx → c.hp q ≠ none ∧ q ≠ r := by
    intro q h hq
    have hqr : q ≠ r := by rintro rfl; exact h hhr
    rw [hho q hqr hq] at h; exact ⟨h, hqr⟩
  have hext : Ext c c' := by
    refine ⟨rfl, ?_, by show _ ≤ w'.heap.size; omega, ?_, hos, htape, hout⟩
    · intro q pq h
      by_cases hq : q = nx
      · subst hq; rw [hh.fresh] at h; simp at h
      · rw [hι q hq]; exact h
    · intro B hB ho
      refine ⟨?_, hgo B (by rintro rfl; exact ho howner)⟩
      rintro ⟨q, pq, h1, h2, h3⟩
      by_cases hq : q = nx
      · subst hq; rw [hιn, Option.some.injEq] at h2; subst h2; rw [← h3, hpB] at ho; exact ho howner
      · rw [hι q hq] at h2; exact ho ⟨q, pq, (hdo q h1 hq).1, h2, h3⟩
  have hty : TyOk c' := hh.ty.to (fun q t k rest hq => by
      by_cases he : q = nx
      · subst he
        rw [hhn, Option.some.injEq] at hq; subst hq
        obtain ⟨u, _, hu⟩ := (hes 0 _ rfl).2 0 _ rfl
        exact hu.not_ty.elim
      · by_cases he2 : q = r
        · subst he2; rw [hhr] at hq; cases hq
        · rw [hho q he2 he] at hq; exact hq) hext.ι (fun B cs0 t fz0 hB => by
      by_cases he : B = p.B
      · subst he
        rw [hb, Option.some.injEq, Obj.cells.injEq] at hB
        obtain ⟨rfl, rfl, rfl⟩ := hB
        exact ⟨cs', hgn, hsz⟩
      · exact ⟨cs0, (hgo B he).trans hB, rfl⟩) fun q g1 _ g2 => by
      have hq : q ≠ nx := by rintro rfl; have := hh.dom _ g1; omega
      exact (hdo q g2 hq).1
  refine ⟨⟨?_, ?_, ?_, ?_, ?_, hty, hh.gl.ext hext⟩, hext⟩
  · intro q h
    by_cases hq : q = nx
    · omega
    · have := hh.dom q (hdo q h hq).1; omega
  · intro q pq h
    by_cases hq : q = nx
    · omega
    · rw [hι q hq] at h; have := hh.lt q pq h; omega
  · intro q es2 pq h1 h2
    by_cases hq : q = nx
    · subst hq
      rw [hhn, Option.some.injEq] at h1; subst h1
      rw [hιn, Option.some.injEq] at h2; subst h2
      obtain ⟨hF, o, h3, h4⟩ := hh.blk r es p hr hp
      rw [hb, Option.some.injEq] at h3; subst h3
      rcases h4 with ⟨hm, cs0, e0, fz0, h4, h5, h6, h7⟩ | ⟨_, _, _, h4, _⟩ | ⟨_, _, h4, _⟩ | ⟨_, _, h4, _⟩
      · rw [Obj.cells.injEq] at h4
        obtain ⟨rfl, rfl, rfl⟩ := h4
        refine ⟨by rw [hpB]; exact hF, .cells cs' e fz, by show w'.heap[p'.B]? = _; rw [hpB]; exact hgn, .inl ⟨hpO, cs', e, fz, rfl, by rw [hpN]; exact hsz.trans h5, by rw [hpN]; exact h6, ?_⟩⟩
        exact fun i l hl => let ⟨h7, h8⟩ := hes i l hl; ⟨h7, fun j av hj => let ⟨u, h9, h10⟩ := h8 j av hj; ⟨u, h9, h10.mono hext⟩⟩
      all_goals cases h4
    · have h1' : c'.hp q ≠ none := by simp [h1]
      obtain ⟨h3, hqr⟩ := hdo q h1' hq
      rw [hho q hqr hq] at h1; rw [hι q hq] at h2
      obtain ⟨hF, o, h3, h4⟩ := hh.blk q es2 pq h1 h2
      have hne : pq.B ≠ p.B := fun h => hqr (hh.inj q r pq p (by simp [h1]) (by simp [hr]) h2 hp h)
      exact ⟨hF, o, by show w'.heap[pq.B]? = _; rw [hgo _ hne]; exact h3, h4.move fun x u h => h.mono hext⟩
  · have hne : ∀ q pq, c'.hp q ≠ none → q ≠ nx → c.ι q = some pq → pq.B ≠ p.B := by
      intro q pq h1 hq h2 h3
      obtain ⟨h4, h5⟩ := hdo q h1 hq
      exact h5 (hh.inj q r pq p h4 (by simp [hr]) h2 hp h3)
    intro q q' p1 p2 h1 h2 h3 h4 h5
    by_cases hq : q = nx
    · by_cases hq' : q' = nx
      · omega
      · subst hq
        rw [hιn, Option.some.injEq] at h3; subst h3
        rw [hι q' hq'] at h4
        exact absurd (h5.symm.trans hpB) (hne q' p2 h2 hq' h4)
    · by_cases hq' : q' = nx
      · subst hq'
        rw [hιn, Option.some.injEq] at h4; subst h4
        rw [hι q hq] at h3
        exact absurd (h5.trans hpB) (hne q p1 h1 hq h3)
      · rw [hι q hq] at h3; rw [hι q' hq'] at h4
        exact hh.inj q q' p1 p2 (hdo q h1 hq).1 (hdo q' h2 hq').1 h3 h4 h5
  · intro B hB
    have := hh.F B hB
    show B < w'.heap.size
    omega

end Go.Ai
