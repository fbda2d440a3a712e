/- Maps: what is made, and written. -/
import Derived.Test.YtblopagmddgkjaaGreatAiOpsH
namespace Go.Ai
set_option linter.unusedVariables false
set_option linter.unusedSimpArgs false

/-- A new map. -/
theorem push_map {c : Cx} {nx : Nat} (hh : HRel c nx) {w' : World} (hheap : w'.heap = c.w.heap.push (.map #[] 0)) (hos : w'.os = c.w.os) (htape : w'.tape = c.w.tape) (hout : w'.output = c.w.output) :
    let c' : Cx := ⟨c.F, iupd c.ι nx ⟨c.w.heap.size, 1, 0, 0⟩, hupd c.hp nx (some []), w'⟩
    HRel c' (nx + 1) ∧ Ext c c' := by
  intro c'
  have hget : ∀ B, B < c.w.heap.size → w'.heap[B]? = c.w.heap[B]? := by
    intro B hB; rw [hheap, Array.getElem?_push, if_neg (by omega)]
  have hnew : w'.heap[c.w.heap.size]? = some (.map #[] 0) := by rw [hheap]; simp
  have hfι := hh.fresh
  have hfh := hh.hfresh
  have hι : ∀ r, r ≠ nx → c'.ι r = c.ι r := fun r hr => by show iupd _ _ _ r = _; simp [iupd, hr]
  have hιn : c'.ι nx = some ⟨c.w.heap.size, 1, 0, 0⟩ := by show iupd _ _ _ nx = _; simp [iupd]
  have hhp : ∀ r, r ≠ nx → c'.hp r = c.hp r := fun r hr => by show hupd _ _ _ r = _; simp [hupd, hr]
  have hhn : c'.hp nx = some [] := by show hupd _ _ _ nx = _; simp [hupd]
  have hown : ∀ B, B < c.w.heap.size → c'.own B → c.own B := by
    rintro B hB ⟨r, p, h1, h2, h3⟩
    by_cases hr : r = nx
    · subst hr; rw [hιn, Option.some.injEq] at h2; subst h2; simp at h3; omega
    · rw [hhp r hr] at h1; rw [hι r hr] at h2; exact ⟨r, p, h1, h2, h3⟩
  have hext : Ext c c' := by
    refine ⟨rfl, ?_, ?_, ?_, hos, htape, hout⟩
    · intro r p h
      by_cases hr : r = nx
      · subst hr; rw [hfι] at h; simp at h
      · rw [hι r hr]; exact h
    · show c.w.heap.size ≤ w'.heap.size
      rw [hheap]; simp
    · exact fun B hB ho => ⟨fun h => ho (hown B hB h), hget B hB⟩
  refine ⟨⟨?_, ?_, ?_, ?_, ?_, hh.ty.to ?_ hext.ι (fun B cs0 t fz0 hB => ⟨cs0, by show w'.heap[B]? = _; rw [hget B (Array.getElem?_eq_some_iff.1 hB).1]; exact hB, rfl⟩) (fun r g1 _ g2 => by
    have : r ≠ nx := by rintro rfl; have := hh.dom _ g1; omega
    rw [hhp r this] at g2; exact g2), hh.gl.ext hext⟩, hext⟩
  rotate_right
  · intro r t k rest hr
    by_cases he : r = nx
    · subst he
      rw [hhn, Option.some.injEq] at hr; cases hr
    · rw [hhp r he] at hr; exact hr
  · intro r hr
    by_cases he : r = nx
    · omega
    · rw [hhp r he] at hr; have := hh.dom r hr; omega
  · intro r p h
    by_cases he : r = nx
    · omega
    · rw [hι r he] at h; have := hh.lt r p h; omega
  · intro r es' p h1 h2
    by_cases he : r = nx
    · subst he
      rw [hhn, Option.some.injEq] at h1; subst h1
      rw [hιn, Option.some.injEq] at h2; subst h2
      refine ⟨fun hF => absurd (hh.F _ hF) (Nat.lt_irrefl _), .map #[] 0, hnew, .inr ⟨by simp, #[], 0, rfl, ⟨rfl, fun i l e h => by simp at h⟩, fun i e h => by simp at h, fun i j e e' h => by simp at h⟩⟩
    · rw [hhp r he] at h1; rw [hι r he] at h2
      obtain ⟨hF, o, h3, h4⟩ := hh.blk r es' p h1 h2
      have hlt : p.B < c.w.heap.size := (Array.getElem?_eq_some_iff.1 h3).1
      exact ⟨hF, o, by show w'.heap[p.B]? = _; rw [hget _ hlt]; exact h3, h4.move fun x u h => h.mono hext⟩
  · have hlt : ∀ r p, c.hp r ≠ none → c.ι r = some p → p.B < c.w.heap.size := by
      intro r p h1 h2
      exact hh.own_lt ⟨r, p, h1, h2, rfl⟩
    intro r r' p p' h1 h2 h3 h4 h5
    by_cases he : r = nx
    · by_cases he' : r' = nx
      · omega
      · subst he
        rw [hιn, Option.some.injEq] at h3; subst h3
        rw [hhp r' he'] at h2; rw [hι r' he'] at h4
        have := hlt r' p' h2 h4; simp at h5; omega
    · by_cases he' : r' = nx
      · subst he'
        rw [hιn, Option.some.injEq] at h4; subst h4
        rw [hhp r he] at h1; rw [hι r he] at h3
        have := hlt r p h1 h3; simp at h5; omega
      · rw [hhp r he] at h1; rw [hι r he] at h3; rw [hhp r' he'] at h2; rw [hι r' he'] at h4
        exact hh.inj r r' p p' h1 h2 h3 h4 h5
  · intro B hB
    have := hh.F B hB
    show B < w'.heap.size
    rw [hheap]; simp; omega

/-- A map is written. -/
theorem write_map {c : Cx} {nx : Nat} (hh : HRel c nx) {r : Nat} {es es' : Blk} {p : Place} (hr : c.hp r = some es) (hp : c.ι r = some p) (hpm : ¬ p.O ≤ p.N) {w' : World} {ents ents' : Array MapEntry} {clock clock' : Nat}
    (hb : c.w.heap[p.B]? = some (.map ents clock)) (hheap : w'.heap = c.w.heap.setIfInBounds p.B (.map ents' clock'))
    (hos : w'.os = c.w.os) (htape : w'.tape = c.w.tape) (hout : w'.output = c.w.output) (hrows : MRows c es' ents') (hst : Stamps ents' clock') :
    let c' : Cx := ⟨c.F, c.ι, hupd c.hp r (some es'), w'⟩
    HRel c' nx ∧ Ext c c' := by
  intro c'
  have hlt : p.B < c.w.heap.size := (Array.getElem?_eq_some_iff.1 hb).1
  have hhr : c'.hp r = some es' := by show hupd _ _ _ r = _; simp [hupd]
  have hho : ∀ q, q ≠ r → c'.hp q = c.hp q := fun q hq => by show hupd _ _ _ q = _; simp [hupd, hq]
  have hdom : ∀ q, c'.hp q ≠ none ↔ c.hp q ≠ none := by
    intro q
    by_cases hq : q = r
    · subst hq; rw [hhr, hr]; simp
    · rw [hho q hq]
  have hsize : w'.heap.size = c.w.heap.size := by rw [hheap]; simp
  have hgo : ∀ B, B ≠ p.B → w'.heap[B]? = c.w.heap[B]? := by
    intro B hB; rw [hheap, Array.getElem?_setIfInBounds_ne (by omega)]
  have hgn : w'.heap[p.B]? = some (.map ents' clock') := by rw [hheap]; simp [hlt]
  have howner : c.own p.B := ⟨r, p, by simp [hr], hp, rfl⟩
  have hext : Ext c c' := by
    refine ⟨rfl, fun _ _ h => h, by show _ ≤ w'.heap.size; omega, ?_, hos, htape, hout⟩
    intro B hB ho
    refine ⟨?_, hgo B (by rintro rfl; exact ho howner)⟩
    rintro ⟨q, p', h1, h2, h3⟩
    exact ho ⟨q, p', (hdom q).1 h1, h2, h3⟩
  have hty : TyOk c' := hh.ty.to (fun q t k rest hq => by
      by_cases he : q = r
      · subst he
        rw [hhr, Option.some.injEq] at hq; subst hq
        have hs := hrows.1
        simp at hs
        obtain ⟨k', v', h1, _⟩ := hrows.2 0 _ (ents'[0]'(by omega)) rfl (Array.getElem?_eq_getElem (by omega))
        cases h1
      · rw [hho q he] at hq; exact hq) hext.ι (fun B cs0 t fz0 hB => by
      by_cases he : B = p.B
      · subst he; rw [hb] at hB; cases hB
      · exact ⟨cs0, (hgo B he).trans hB, rfl⟩) fun q _ _ h => (hdom q).1 h
  refine ⟨⟨fun q h => hh.dom q ((hdom q).1 h), hh.lt, ?_, ?_, ?_, hty, hh.gl.ext hext⟩, hext⟩
  · intro q es2 p' h1 h2
    by_cases hq : q = r
    · subst hq
      rw [hhr, Option.some.injEq] at h1; subst h1
      have h2' : c.ι q = some p' := h2
      rw [hp, Option.some.injEq] at h2'; subst h2'
      obtain ⟨hF, _⟩ := hh.blk q es p hr hp
      exact ⟨hF, .map ents' clock', hgn, .inr ⟨hpm, ents', clock', rfl, ⟨hrows.1, fun i l e h3 h4 => let ⟨k, v, g1, g2, g3⟩ := hrows.2 i l e h3 h4; ⟨k, v, g1, g2.mono hext, g3.mono hext⟩⟩, hst⟩⟩
    · rw [hho q hq] at h1
      obtain ⟨hF, o, h3, h4⟩ := hh.blk q es2 p' h1 h2
      have hne : p'.B ≠ p.B := fun h => hq (hh.inj q r p' p (by simp [h1]) (by simp [hr]) h2 hp h)
      exact ⟨hF, o, by show w'.heap[p'.B]? = _; rw [hgo _ hne]; exact h3, h4.move fun x u h => h.mono hext⟩
  · intro q q' p1 p2 h1 h2 h3 h4 h5
    exact hh.inj q q' p1 p2 ((hdom q).1 h1) ((hdom q').1 h2) h3 h4 h5
  · intro B hB
    have := hh.F B hB
    show B < w'.heap.size
    omega

theorem sameBits_key {c : Cx} {lk : LK} {k : AV} {kv : Value} (h : keyA lk k = true) (hk : VRel c k kv) : Instr.sameBits 10000 kv kv = true := by
  unfold keyA at h
  split at h
  · have e := hk.v_inv; subst e; simp [Instr.sameBits]
  · have e := hk.str_inv; subst e
    simp only [Instr.sameBits]
    exact (MapKept.bytes_beq _ _).2 rfl
  · have e := hk.v_inv; subst e; simp [Instr.sameBits]
  · cases h

theorem evE_map {P : Program} {op : Op} {co : COp} (hm : MapOp P op co) {dst : Option Tmp} {type : TypeId} {pos : String} {after : Array Edge} {guard : Option (Nat × Bool)} {tm : Nat → AV} {a : Act} {c : Cx} {v : AV} {hp' : Heap} {nx nx' : Nat} (he : evE tm c.hp nx co = some (v, hp', nx')) (ht : TRel c tm a) (hh : HRel c nx) :
    EGood P ⟨dst, op, type, pos, after, guard⟩ a c v hp' nx' := by
  cases hm with
  | look h hl hi hz => simp [evE] at he
  | len ha h0 h => simp [evE] at he
  | @mk t kt et h =>
    simp only [evE, Option.some.injEq, Prod.mk.injEq] at he
    obtain ⟨rfl, rfl, rfl⟩ := he
    obtain ⟨h1, h2⟩ := push_map hh (w' := { c.w with heap := c.w.heap.push (.map #[] 0) }) rfl rfl rfl rfl
    exact ⟨.map (some c.w.heap.size), _, _, .inl rfl, h2, h1, .mp (p := ⟨c.w.heap.size, 1, 0, 0⟩) (by simp [iupd]) (by simp)⟩
  | @set t kt et m k x lk h hl =>
    simp only [evE] at he
    split at he
    · rename_i r hx
      split at he
      · rename_i es hes
        split at he
        · rename_i hka
          have h1 := cO_rel ht m
          have h2 := cO_rel ht k
          have h3 := cO_rel ht x
          rw [hx] at h1
          generalize hux : a.eval m = ux at h1
          cases h1 with
          | mp hι hpm =>
            rename_i p
            obtain ⟨_, ents, clock, hb, hrows, hst⟩ := hh.map hes hι hpm
            obtain ⟨d, hd, hld⟩ := lkOf_spec hl
            have hck := fun em => checkKey_run (P := P) (w := c.w) hd hld em (a.eval k)
            have key := findM_run hld h2 es ents.toList 0 (by simpa using hrows.1) (fun i row e h3 h4 => hrows.2 i row e h3 (by simpa using h4))
            split at he
            · rename_i i v' hf
              simp only [Option.some.injEq, Prod.mk.injEq] at he
              obtain ⟨rfl, rfl, rfl⟩ := he
              obtain ⟨e, g1, g2, g3, g4⟩ := key _ hf
              have g1' : ents[i]? = some e := by simpa using g1
              have hil := (Array.getElem?_eq_some_iff.1 g1').1
              let ents' := ents.modify i fun e => { e with key := a.eval k, val := a.eval x }
              have hsb : Instr.sameBits 10000 e.key (a.eval k) = true := by
                rw [g3]
                exact sameBits_key hka h2
              have hrun : (Instr.mapUpdate t (.map (some p.B)) (a.eval k) (a.eval x)).run P c.w = .ok () { c.w with heap := c.w.heap.setIfInBounds p.B (.map ents' clock) } := by
                unfold Instr.mapUpdate
                simp [run_underlying h, MapKept.run_getObj_map hb, hck, MapKept.run_findKey hd g4, Result.andThen, g1', Instr.keyThatStays, hsb, MapKept.run_setObj_map _ hb, ents']
              have hget : ∀ j, ents'[j]? = if j = i then some { e with key := a.eval k, val := a.eval x } else ents[j]? := by
                intro j
                simp only [ents', Array.getElem?_modify]
                by_cases hj : i = j
                · subst hj; simp [g1']
                · simp [hj, Ne.symm hj]
              obtain ⟨k1, k2⟩ := write_map hh hes hι hpm hb (w' := { c.w with heap := c.w.heap.setIfInBounds p.B (.map ents' clock) }) (ents' := ents') (clock' := clock) rfl rfl rfl rfl (es' := es.set i [ev tm (cO k), ev tm (cO x)]) ⟨by simp [ents', hrows.1], fun j l e' q1 q2 => by
                rw [List.getElem?_set] at q1
                rw [hget] at q2
                by_cases hj : i = j
                · subst hj
                  rw [if_pos rfl] at q2
                  simp only [Option.some.injEq] at q2; subst q2
                  simp only [if_true] at q1
                  split at q1
                  · simp only [Option.some.injEq] at q1; subst q1
                    exact ⟨_, _, rfl, h2, h3⟩
                  · cases q1
                · rw [if_neg hj] at q1
                  rw [if_neg (Ne.symm hj)] at q2
                  exact hrows.2 j l e' q1 q2⟩ ⟨fun j e' q => by
                  rw [hget] at q
                  split at q
                  · simp only [Option.some.injEq] at q; subst q
                    exact hst.1 i e g1'
                  · exact hst.1 j e' q, fun j j' e1 e2 q1 q2 q3 => by
                  have old : ∀ (j : Nat) (e1 : MapEntry), ents'[j]? = some e1 → ∃ e0 : MapEntry, ents[j]? = some e0 ∧ e0.born = e1.born := by
                    intro j e1 q
                    rw [hget] at q
                    split at q
                    · rename_i hj; subst hj
                      simp only [Option.some.injEq] at q; subst q
                      exact ⟨e, g1', rfl⟩
                    · exact ⟨e1, q, rfl⟩
                  obtain ⟨a1, b1, c1⟩ := old j e1 q1
                  obtain ⟨a2, b2, c2⟩ := old j' e2 q2
                  exact hst.2 j j' a1 a2 b1 b2 (by rw [c1, c2, q3])⟩
              exact ⟨undef, _, c.ι, .inr ⟨by simp only [execOp, hux]; simp [hrun], rfl⟩, k2, k1, .v _⟩
            · rename_i hf
              simp only [Option.some.injEq, Prod.mk.injEq] at he
              obtain ⟨rfl, rfl, rfl⟩ := he
              have g4 := key _ hf
              let ents' := ents.push { key := a.eval k, val := a.eval x, born := clock }
              have hrun : (Instr.mapUpdate t (.map (some p.B)) (a.eval k) (a.eval x)).run P c.w = .ok () { c.w with heap := c.w.heap.setIfInBounds p.B (.map ents' (clock + 1)) } := by
                unfold Instr.mapUpdate
                simp [run_underlying h, MapKept.run_getObj_map hb, hck, MapKept.run_findKey hd g4, Result.andThen, MapKept.run_setObj_map _ hb, ents']
              have hget : ∀ j, ents'[j]? = if j = ents.size then some { key := a.eval k, val := a.eval x, born := clock } else ents[j]? := by
                intro j
                simp only [ents', Array.getElem?_push]
              obtain ⟨k1, k2⟩ := write_map hh hes hι hpm hb (w' := { c.w with heap := c.w.heap.setIfInBounds p.B (.map ents' (clock + 1)) }) (ents' := ents') (clock' := clock + 1) rfl rfl rfl rfl (es' := es ++ [[ev tm (cO k), ev tm (cO x)]]) ⟨by simp [ents', hrows.1], fun j l e' q1 q2 => by
                rw [hget] at q2
                by_cases hj : j = ents.size
                · rw [if_pos hj] at q2
                  simp only [Option.some.injEq] at q2; subst q2
                  rw [List.getElem?_append_right (by rw [hrows.1]; omega), hj, hrows.1, Nat.sub_self] at q1
                  simp at q1; subst q1
                  exact ⟨_, _, rfl, h2, h3⟩
                · rw [if_neg hj] at q2
                  have hjl := (Array.getElem?_eq_some_iff.1 q2).1
                  rw [List.getElem?_append_left (by rw [hrows.1]; exact hjl)] at q1
                  exact hrows.2 j l e' q1 q2⟩ ⟨fun j e' q => by
                  rw [hget] at q
                  split at q
                  · simp only [Option.some.injEq] at q; subst q; exact Nat.lt_succ_self _
                  · exact Nat.lt_succ_of_lt (hst.1 j e' q), fun j j' e1 e2 q1 q2 q3 => by
                  rw [hget] at q1 q2
                  split at q1
                  · rename_i hj
                    simp only [Option.some.injEq] at q1; subst q1
                    split at q2
                    · rename_i hj'; omega
                    · have := hst.1 j' e2 q2
                      simp at q3; omega
                  · split at q2
                    · simp only [Option.some.injEq] at q2; subst q2
                      have := hst.1 j e1 q1
                      simp at q3; omega
                    · exact hst.2 j j' e1 e2 q1 q2 q3⟩
              exact ⟨undef, _, c.ι, .inr ⟨by simp only [execOp, hux]; simp [hrun], rfl⟩, k2, k1, .v _⟩
            · cases he
        · cases he
      · cases he
    · cases he
end Go.Ai
