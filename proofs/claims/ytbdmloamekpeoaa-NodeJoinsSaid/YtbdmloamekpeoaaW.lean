/- Decode, walked: the loop. -/
import Derived.Test.YtbdmloamekpeoaaV
namespace Go.Ai
set_option linter.unusedVariables false
set_option linter.unusedSimpArgs false

theorem c46' {K : AV → Heap → Nat → Kd → Prop} (r : RS) (n : Nat) (hn : n ≤ 6) {hp : Heap} {nx w : Nat} (hw : w < nx) (h : RD hp w r)
    (k : ∀ hp' nx', RD hp' w (numR r n).2 → Stay (· = w) hp nx hp' nx' → K (.v (.int .i64 (numR r n).1)) hp' nx' .e) : WCall (Ret E) 46 [.ptr w 0 0, .v (.int .i64 n)] hp nx K := by
  obtain ⟨hp', nx', h1, h2, h3⟩ := f46 r n hn hp nx w hw h
  exact WCall_k h1 (k _ _ h2 h3)
theorem c47' {K : AV → Heap → Nat → Kd → Prop} (r : RS) (n : Nat) {hp : Heap} {nx w : Nat} (h : RD hp w r)
    (k : ∀ hp', RD hp' w (bytesR r n).2 → Stay (· = w) hp nx hp' nx → K (.str (bytesR r n).1) hp' nx .e) : WCall (Ret E) 47 [.ptr w 0 0, .v (.int .i64 n)] hp nx K := by
  obtain ⟨hp', h1, h2, h3⟩ := f47 r n hp nx w h
  exact WCall_k h1 (k _ h2 h3)
theorem c48' {K : AV → Heap → Nat → Kd → Prop} (r : RS) {hp : Heap} {nx w : Nat} (hw : w < nx) (h : RD hp w r)
    (k : ∀ hp' nx', RD hp' w (itemR r).2 → Stay (· = w) hp nx hp' nx' → K (.agg (itemR r).1.cells) hp' nx' .e) : WCall (Ret E) 48 [.ptr w 0 0] hp nx K := by
  obtain ⟨hp', nx', h1, h2, h3⟩ := f48 r hp nx w hw h
  exact WCall_k h1 (k _ _ h2 h3)

/-- One more key. -/
theorem NH.key {hp hp' : Heap} {nx w : Nat} {n : Nd} {xk xi xd : AV} (h : NH hp nx 1 w n xk xi xd) (h2 : 1 < nx) (hw : w < nx) (k : List UInt8) (h3 : hp' nx = some (n.keys.map keyC ++ [keyC k])) (h4 : ∀ q, q ≠ nx → q ∉ slB xk → hp' q = hp q) :
    NH (hupd hp' 1 (some [[.v (.bool n.leaf), .sl nx 1 0 (n.keys.length + 1) none, xi, xd]])) (nx + 1) 1 w ⟨n.leaf, n.keys ++ [k], n.items, n.kids⟩ (.sl nx 1 0 (n.keys.length + 1) none) xi xd := by
  have hi := fun q hq => h.i.lt q hq
  have hd := fun q hq => h.d.lt q hq
  refine ⟨by simp, .inr ⟨nx, by omega, by simp, by simp [show ¬ nx = 1 by omega, h3]⟩, h.i.keep (by omega) fun q hq => ?_, h.d.keep (by omega) fun q hq => ?_, by simp; omega, h.ib, h.db, ?_, ?_, h.id'⟩
  · have := hi q hq
    have hq1 : ¬ q = 1 := fun e => h.ib.1 (e ▸ hq)
    simp only [hupd_apply, hq1, if_false]
    exact h4 q (by omega) (fun hk => h.ki q hk hq)
  · have := hd q hq
    have hq1 : ¬ q = 1 := fun e => h.db.1 (e ▸ hq)
    simp only [hupd_apply, hq1, if_false]
    exact h4 q (by omega) (fun hk => h.kd q hk hq)
  · intro q hq; simp at hq; subst hq; intro hq; have := hi _ hq; omega
  · intro q hq; simp at hq; subst hq; intro hq; have := hd _ hq; omega
theorem NH.item {hp hp' : Heap} {nx w : Nat} {n : Nd} {xk xi xd : AV} (h : NH hp nx 1 w n xk xi xd) (h2 : 1 < nx) (hw : w < nx) (k : Itm) (h3 : hp' nx = some (n.items.map Itm.cells ++ [k.cells])) (h4 : ∀ q, q ≠ nx → q ∉ slB xi → hp' q = hp q) :
    NH (hupd hp' 1 (some [[.v (.bool n.leaf), xk, .sl nx 3 0 (n.items.length + 1) none, xd]])) (nx + 1) 1 w ⟨n.leaf, n.keys, n.items ++ [k], n.kids⟩ xk (.sl nx 3 0 (n.items.length + 1) none) xd := by
  have hi := fun q hq => h.k.lt q hq
  have hd := fun q hq => h.d.lt q hq
  refine ⟨by simp, h.k.keep (by omega) fun q hq => ?_, .inr ⟨nx, by omega, by simp, by simp [show ¬ nx = 1 by omega, h3]⟩, h.d.keep (by omega) fun q hq => ?_, h.kb, by simp; omega, h.db, ?_, h.kd, ?_⟩
  · have := hi q hq
    have hq1 : ¬ q = 1 := fun e => h.kb.1 (e ▸ hq)
    simp only [hupd_apply, hq1, if_false]
    exact h4 q (by omega) (fun hk => h.ki q hq hk)
  · have := hd q hq
    have hq1 : ¬ q = 1 := fun e => h.db.1 (e ▸ hq)
    simp only [hupd_apply, hq1, if_false]
    exact h4 q (by omega) (fun hk => h.id' q hk hq)
  · intro q hq hq2; simp at hq2; subst hq2; have := hi _ hq; omega
  · intro q hq; simp at hq; subst hq; intro hq; have := hd _ hq; omega
theorem NH.kid {hp hp' : Heap} {nx w : Nat} {n : Nd} {xk xi xd : AV} (h : NH hp nx 1 w n xk xi xd) (h2 : 1 < nx) (hw : w < nx) (k : Int) (h3 : hp' nx = some (n.kids.map kidC ++ [kidC k])) (h4 : ∀ q, q ≠ nx → q ∉ slB xd → hp' q = hp q) :
    NH (hupd hp' 1 (some [[.v (.bool n.leaf), xk, xi, .sl nx 1 0 (n.kids.length + 1) none]])) (nx + 1) 1 w ⟨n.leaf, n.keys, n.items, n.kids ++ [k]⟩ xk xi (.sl nx 1 0 (n.kids.length + 1) none) := by
  have hi := fun q hq => h.k.lt q hq
  have hd := fun q hq => h.i.lt q hq
  refine ⟨by simp, h.k.keep (by omega) fun q hq => ?_, h.i.keep (by omega) fun q hq => ?_, .inr ⟨nx, by omega, by simp, by simp [show ¬ nx = 1 by omega, h3]⟩, h.kb, h.ib, by simp; omega, h.ki, ?_, ?_⟩
  · have := hi q hq
    have hq1 : ¬ q = 1 := fun e => h.kb.1 (e ▸ hq)
    simp only [hupd_apply, hq1, if_false]
    exact h4 q (by omega) (fun hk => h.kd q hq hk)
  · have := hd q hq
    have hq1 : ¬ q = 1 := fun e => h.ib.1 (e ▸ hq)
    simp only [hupd_apply, hq1, if_false]
    exact h4 q (by omega) (fun hk => h.id' q hq hk)
  · intro q hq hq2; simp at hq2; subst hq2; have := hi _ hq; omega
  · intro q hq hq2; simp at hq2; subst hq2; have := hd _ hq; omega

abbrev decI (kind : Int) (s : List UInt8) (many : Nat) (leaf : Bool) (g : Nat × Nd × RS) (st : St) : Prop :=
  g.1 ≤ many ∧ st.tm 9 = .int .i64 g.1 ∧ st.tm 8 = .int .i64 many ∧ st.tm 4 = .ptr 0 0 0 ∧ st.tm 6 = .ptr 1 0 0 ∧ st.tm 7 = .ptr 2 0 0 ∧ st.hp 0 = some [zeroN.cells] ∧ (∃ xk xi xd, NH st.hp st.nx 1 2 g.2.1 xk xi xd) ∧ RD st.hp 2 g.2.2 ∧ 2 < st.nx ∧
    loopR (many - g.1) g.2.1 g.2.2 = endR kind s ∧ g.2.1.leaf = leaf ∧ g.2.1.keys.length ≤ g.1 ∧ g.2.1.items.length ≤ g.1 ∧ g.2.1.kids.length ≤ g.1 + 1

theorem f24_loop (kind : Int) (hk : kind = 1 ∨ kind = 2) (s : List UInt8) (many : Nat) (hm : many ≤ 65535) (leaf : Bool) (g : Nat × Nd × RS) (st : St) (h0 : decI kind s many leaf g st) :
    W (Ret E) (match c24.body with | .seq _ (.seq _ (.seq _ (.seq _ (.seq _ (.seq _ (.seq (.seq _ (.block _ l)) _)))))) => l | _ => .skip) (blkK 0 (seqK (Ret E) c24_rrrrrrr (pureEQ [.cell 4 (some 4), .t 5] (decQ kind s)))) st := by
  simp only [c24]
  refine W_loopI (I := decI kind s many leaf) (fun g => many - g.1) g h0 ?_
  rintro ⟨j, n, r⟩ tm hp nx ⟨hj, t9, t8, t4, t6, t7, hz, ⟨xk, xi, xd, hN⟩, hR, hnx, hlp, hlf, hl1, hl2, hl3⟩
  simp only at hj t9 t8 t4 t6 t7 hz hN hR hnx hlp hlf hl1 hl2 hl3
  have hR' : hp 2 = some [[.str r.1, .v (.bool r.2)]] := hR
  have stop : ∀ tm, tm 4 = .ptr 0 0 0 → tm 6 = .ptr 1 0 0 → tm 7 = .ptr 2 0 0 → loopR (many - j) n r = (n, r) → W (Ret E) c24_rrrrrrr (pureEQ [.cell 4 (some 4), .t 5] (decQ kind s)) ⟨tm, hp, nx⟩ := by
    intro tm t4 t6 t7 he
    exact f24_tail kind hk s tm hp nx n r xk xi xd t4 t6 t7 hz hN hR (by rw [← hlp, he]) ⟨by omega, by omega, by omega⟩
  by_cases hlt : j < many
  · have hlt' : (j : Int) < (many : Int) := by omega
    cases hb : r.2
    · rw [hb] at hR'
      have hlp' : loopR (many - (j + 1)) (stepR n r).1 (stepR n r).2 = endR kind s := by
        rw [← hlp, show many - j = many - (j + 1) + 1 by omega, loopR, hb]; rfl
      have hw9 : IntKind.wrap .i64 ((j : Int) + 1) = (j + 1 : Nat) := by rw [wrap_id] <;> omega
      simp [t9, t8, t4, t6, t7, hlt', hR', hN.at', -Int.ofNat_lt, -Int.natCast_add]
      refine c46' r 1 (by omega) hnx hR ?_
      intro hp1 nx1 hR1 hS1
      have hn1 := hS1.le
      simp [t9, t8, t4, t6, t7, -Int.natCast_add]
      refine c47' _ _ hR1 ?_
      intro hp2 hR2 hS2
      have hN2 : NH hp2 nx1 1 2 n xk xi xd := (hN.keep (by omega) (by omega) hS1).keep (by omega) (by omega) hS2
      obtain ⟨hp3, a1, a2, a3, a4⟩ := hN2.k.app (bytes := 16) (new := [keyC (bytesR (numR r 1).2 (numR r 1).1).1]) (by simp) (by simp; omega)
      have hN3 := hN2.key (by omega) (by omega) _ a2 a4
      have e1 : hp1 1 = hp 1 := hS1.keep 1 (by omega) (by omega)
      have e2 : hp2 1 = hp1 1 := hS2.keep 1 (by omega) (by omega)
      have e3 : hp3 1 = hp2 1 := a4 1 (by omega) hN2.kb.1
      have e3z : hp3 0 = some [zeroN.cells] := by
        rw [a4 0 (by omega) hN2.kb.2.2, hS2.keep 0 (by omega) (by omega), hS1.keep 0 (by omega) (by omega)]; exact hz
      have e3r : RD hp3 2 (bytesR (numR r 1).2 (numR r 1).1).2 := by
        show hp3 2 = _; rw [a4 2 (by omega) hN2.kb.2.1]; exact hR2
      have eN := hN.at'
      simp [keyC] at a1
      obtain ⟨i1, i2⟩ := hN.i.one
      obtain ⟨d1, d2⟩ := hN.d.one
      simp [t9, t8, t4, t6, t7, a1, e1, e2, e3, eN, spliceL, -Int.natCast_add]
      cases hleaf : n.leaf
      · rw [hleaf] at hN3
        simp [t9, t8, t4, t6, t7, -Int.natCast_add]
        refine c46' (nx := nx1 + 1) _ 4 (by omega) (by omega) (show RD _ 2 (bytesR (numR r 1).2 (numR r 1).1).2 by simp [RD]; exact e3r) ?_
        intro hp4 nx4 hR4 hS4
        have hn4 := hS4.le
        have hN4 := hN3.keep (by omega) (by omega) hS4
        obtain ⟨hp5, b1, b2, b3, b4⟩ := hN4.d.app (bytes := 8) (new := [kidC ((numR (bytesR (numR r 1).2 (numR r 1).1).2 4).1 : Int)]) (by simp) (by simp; omega)
        have hN5 := hN4.kid (by omega) (by omega) _ b2 b4
        have g1 := hS4.keep 1 (by omega) (by omega)
        have g5 : hp5 1 = hp4 1 := b4 1 (by omega) hN4.db.1
        have e5z : hp5 0 = some [zeroN.cells] := by
          rw [b4 0 (by omega) hN4.db.2.2, hS4.keep 0 (by omega) (by omega)]; simpa using e3z
        have e5r : RD hp5 2 (numR (bytesR (numR r 1).2 (numR r 1).1).2 4).2 := by
          show hp5 2 = _; rw [b4 2 (by omega) hN4.db.2.1]; exact hR4
        simp at g1
        simp [kidC] at b1
        simp [t9, t8, t4, t6, t7, b1, g1, g5, spliceL, hw9, -Int.natCast_add, -Prod.exists, -Bool.exists_bool]
        have hst : stepR n r = (⟨n.leaf, n.keys ++ [(bytesR (numR r 1).2 (numR r 1).1).1], n.items, n.kids ++ [((numR (bytesR (numR r 1).2 (numR r 1).1).2 4).1 : Int)]⟩, (numR (bytesR (numR r 1).2 (numR r 1).1).2 4).2) := by
          simp [stepR, hleaf]
        refine ⟨(j + 1, _, _), by simp; omega, by omega, by simp, by simp [t8], by simp [t4], by simp [t6], by simp [t7], by simpa using e5z, ⟨_, _, _, hN5⟩, by simp [RD]; exact e5r, (by show 2 < nx4 + 1; omega), ?_, ?_, by simp; omega, by simp; omega, by simp; omega⟩
        · rw [hst] at hlp'; simpa [hleaf] using hlp'
        · simp [← hlf, hleaf]
      · rw [hleaf] at hN3
        simp [t9, t8, t4, t6, t7, -Int.natCast_add]
        refine c48' (nx := nx1 + 1) _ (by omega) (show RD _ 2 (bytesR (numR r 1).2 (numR r 1).1).2 by simp [RD]; exact e3r) ?_
        intro hp4 nx4 hR4 hS4
        have hn4 := hS4.le
        have hN4 := hN3.keep (by omega) (by omega) hS4
        obtain ⟨hp5, b1, b2, b3, b4⟩ := hN4.i.app (bytes := 32) (new := [(itemR (bytesR (numR r 1).2 (numR r 1).1).2).1.cells]) (by simp) (by simp; omega)
        have hN5 := hN4.item (by omega) (by omega) _ b2 b4
        have g1 := hS4.keep 1 (by omega) (by omega)
        have g5 : hp5 1 = hp4 1 := b4 1 (by omega) hN4.ib.1
        have e5z : hp5 0 = some [zeroN.cells] := by
          rw [b4 0 (by omega) hN4.ib.2.2, hS4.keep 0 (by omega) (by omega)]; simpa using e3z
        have e5r : RD hp5 2 (itemR (bytesR (numR r 1).2 (numR r 1).1).2).2 := by
          show hp5 2 = _; rw [b4 2 (by omega) hN4.ib.2.1]; exact hR4
        have hic : (itemR (bytesR (numR r 1).2 (numR r 1).1).2).1.cells.all AV.one = true := by simp [Itm.cells]
        have hil : (itemR (bytesR (numR r 1).2 (numR r 1).1).2).1.cells.length = 3 := by simp [Itm.cells]
        simp at g1
        simp at b1
        generalize hcs : (itemR (bytesR (numR r 1).2 (numR r 1).1).2).1.cells = cs at *
        simp at hic
        simp [t9, t8, t4, t6, t7, hil, hic, b1, g1, g5, spliceL, hw9, -Int.natCast_add, -Prod.exists, -Bool.exists_bool]
        have hst : stepR n r = (⟨n.leaf, n.keys ++ [(bytesR (numR r 1).2 (numR r 1).1).1], n.items ++ [(itemR (bytesR (numR r 1).2 (numR r 1).1).2).1], n.kids⟩, (itemR (bytesR (numR r 1).2 (numR r 1).1).2).2) := by
          simp [stepR, hleaf]
        refine ⟨hic, (j + 1, _, _), by simp; omega, by omega, by simp, by simp [t8], by simp [t4], by simp [t6], by simp [t7], by simpa using e5z, ⟨_, _, _, hN5⟩, by simp [RD]; exact e5r, (by show 2 < nx4 + 1; omega), ?_, ?_, by simp; omega, by simp; omega, by simp; omega⟩
        · rw [hst] at hlp'; simpa [hleaf] using hlp'
        · simp [← hlf, hleaf]
    · rw [hb] at hR'
      simp [t9, t8, t4, t6, t7, hlt', hR', -Int.ofNat_lt]
      exact stop _ (by simp [t4]) (by simp [t6]) (by simp [t7]) (loopR_bad hb)
  · have hlt' : ¬ (j : Int) < (many : Int) := by omega
    have : many - j = 0 := by omega
    simp [t9, t8, t4, t6, t7, hlt', -Int.ofNat_lt]
    exact stop _ (by simp [t4]) (by simp [t6]) (by simp [t7]) (by rw [this]; rfl)
end Go.Ai
