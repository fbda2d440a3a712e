/- Decode, walked: the loop. -/
import Derived.Test.YtbdmloamekpeoaaMg5
/- Decode, walked: the loop. -/
namespace Go.Ai
set_option linter.unusedVariables false
set_option linter.unusedSimpArgs false

theorem c46' {K : AV → Heap → Nat → Kd → Prop} (r : RS) (n : Nat) (hn : n ≤ 6) {hp : Heap} {nx w : Nat} (hw : w < nx) (h : RD hp w r)
    (k : ∀ hp' nx', RD hp' w (numR r n).2 → Stay (· = w) hp nx hp' nx' → K (.v (.int .i64 (numR r n).1)) hp' nx' .e) : WCall (Ret E) 46 [.ptr w 0 0, .v (.int .i64 n)] hp nx K := by
  obtain ⟨hp', nx', h1, h2, h3⟩ := f46 r n hn hp nx w hw h
  exact WCall_k h1 (k _ _ h2 h3)
theorem c47' {K : AV → Heap → Nat → Kd → Prop} (r : RS) (n : Nat) {hp : Heap} {nx w : Nat} (h : RD hp w r)
    (k : ∀ hp', RD hp' w (bytesR r n).2 → Stay (· = w) hp nx hp' nx → K (.str (bytesR r n).1) hp' nx .e) : WCall (Ret E) 47 [.ptr w 0 0, .v (.int .i64 n)] hp nx K := by
  obtain ⟨hp', h1, h2, h3⟩ := f47 r n hp nx w h
  exact WCall_k h1 (k _ h2 h3)
theorem c48' {K : AV → Heap → Nat → Kd → Prop} (r : RS) {hp : Heap} {nx w : Nat} (hw : w < nx) (h : RD hp w r)
    (k : ∀ hp' nx', RD hp' w (itemR r).2 → Stay (· = w) hp nx hp' nx' → K (.agg (itemR r).1.cells) hp' nx' .e) : WCall (Ret E) 48 [.ptr w 0 0] hp nx K := by
  obtain ⟨hp', nx', h1, h2, h3⟩ := f48 r hp nx w hw h
  exact WCall_k h1 (k _ _ h2 h3)

/-- One more key. -/
theorem NH.key {hp hp' : Heap} {nx w : Nat} {n : Nd} {xk xi xd : AV} (h : NH hp nx 1 w n xk xi xd) (h2 : 1 < nx) (hw : w < nx) (k : List UInt8) (h3 : hp' nx = some (n.keys.map keyC ++ [keyC k])) (h4 : ∀ q, q ≠ nx → q ∉ slB xk → hp' q = hp q) :
    NH (hupd hp' 1 (some [[.v (.bool n.leaf), .sl nx 1 0 (n.keys.length + 1) none, xi, xd]])) (nx + 1) 1 w ⟨n.leaf, n.keys ++ [k], n.items, n.kids⟩ (.sl nx 1 0 (n.keys.length + 1) none) xi xd := by
  have hi := fun q hq => h.i.lt q hq
  have hd := fun q hq => h.d.lt q hq
  refine ⟨by simp, .inr ⟨nx, by omega, by simp, by simp [show ¬ nx = 1 by omega, h3]⟩, h.i.keep (by omega) fun q hq => ?_, h.d.keep (by omega) fun q hq => ?_, by simp; omega, h.ib, h.db, ?_, ?_, h.id'⟩
  · have := hi q hq
    have hq1 : ¬ q = 1 := fun e => h.ib.1 (e ▸ hq)
    simp only [hupd_apply, hq1, if_false]
    exact h4 q (by omega) (fun hk => h.ki q hk hq)
  · have := hd q hq
    have hq1 : ¬ q = 1 := fun e => h.db.1 (e ▸ hq)
    simp only [hupd_apply, hq1, if_false]
    exact h4 q (by omega) (fun hk => h.kd q hk hq)
  · intro q hq; simp at hq; subst hq; intro hq; have := hi _ hq; omega
  · intro q hq; simp at hq; subst hq; intro hq; have := hd _ hq; omega
theorem NH.item {hp hp' : Heap} {nx w : Nat} {n : Nd} {xk xi xd : AV} (h : NH hp nx 1 w n xk xi xd) (h2 : 1 < nx) (hw : w < nx) (k : Itm) (h3 : hp' nx = some (n.items.map Itm.cells ++ [k.cells])) (h4 : ∀ q, q ≠ nx → q ∉ slB xi → hp' q = hp q) :
    NH (hupd hp' 1 (some [[.v (.bool n.leaf), xk, .sl nx 3 0 (n.items.length + 1) none, xd]])) (nx + 1) 1 w ⟨n.leaf, n.keys, n.items ++ [k], n.kids⟩ xk (.sl nx 3 0 (n.items.length + 1) none) xd := by
  have hi := fun q hq => h.k.lt q hq
  have hd := fun q hq => h.d.lt q hq
  refine ⟨by simp, h.k.keep (by omega) fun q hq => ?_, .inr ⟨nx, by omega, by simp, by simp [show ¬ nx = 1 by omega, h3]⟩, h.d.keep (by omega) fun q hq => ?_, h.kb, by simp; omega, h.db, ?_, h.kd, ?_⟩
  · have := hi q hq
    have hq1 : ¬ q = 1 := fun e => h.kb.1 (e ▸ hq)
    simp only [hupd_apply, hq1, if_false]
    exact h4 q (by omega) (fun hk => h.ki q hq hk)
  · have := hd q hq
    have hq1 : ¬ q = 1 := fun e => h.db.1 (e ▸ hq)
    simp only [hupd_apply, hq1, if_false]
    exact h4 q (by omega) (fun hk => h.id' q hk hq)
  · intro q hq hq2; simp at hq2; subst hq2; have := hi _ hq; omega
  · intro q hq; simp at hq; subst hq; intro hq; have := hd _ hq; omega
theorem NH.kid {hp hp' : Heap} {nx w : Nat} {n : Nd} {xk xi xd : AV} (h : NH hp nx 1 w n xk xi xd) (h2 : 1 < nx) (hw : w < nx) (k : Int) (h3 : hp' nx = some (n.kids.map kidC ++ [kidC k])) (h4 : ∀ q, q ≠ nx → q ∉ slB xd → hp' q = hp q) :
    NH (hupd hp' 1 (some [[.v (.bool n.leaf), xk, xi, .sl nx 1 0 (n.kids.length + 1) none]])) (nx + 1) 1 w ⟨n.leaf, n.keys, n.items, n.kids ++ [k]⟩ xk xi (.sl nx 1 0 (n.kids.length + 1) none) := by
  have hi := fun q hq => h.k.lt q hq
  have hd := fun q hq => h.i.lt q hq
  refine ⟨by simp, h.k.keep (by omega) fun q hq => ?_, h.i.keep (by omega) fun q hq => ?_, .inr ⟨nx, by omega, by simp, by simp [show ¬ nx = 1 by omega, h3]⟩, h.kb, h.ib, by simp; omega, h.ki, ?_, ?_⟩
  · have := hi q hq
    have hq1 : ¬ q = 1 := fun e => h.kb.1 (e ▸ hq)
    simp only [hupd_apply, hq1, if_false]
    exact h4 q (by omega) (fun hk => h.kd q hq hk)
  · have := hd q hq
    have hq1 : ¬ q = 1 := fun e => h.ib.1 (e ▸ hq)
    simp only [hupd_apply, hq1, if_false]
    exact h4 q (by omega) (fun hk => h.id' q hq hk)
  · intro q hq hq2; simp at hq2; subst hq2; have := hi _ hq; omega
  · intro q hq hq2; simp at hq2; subst hq2; have := hd _ hq; omega

abbrev decI (kind : Int) (s : List UInt8) (many : Nat) (leaf : Bool) (g : Nat × Nd × RS) (st : St) : Prop :=
  g.1 ≤ many ∧ st.tm 9 = .int .i64 g.1 ∧ st.tm 8 = .int .i64 many ∧ st.tm 4 = .ptr 0 0 0 ∧ st.tm 6 = .ptr 1 0 0 ∧ st.tm 7 = .ptr 2 0 0 ∧ st.hp 0 = some [zeroN.cells] ∧ (∃ xk xi xd, NH st.hp st.nx 1 2 g.2.1 xk xi xd) ∧ RD st.hp 2 g.2.2 ∧ 2 < st.nx ∧
    loopR (many - g.1) g.2.1 g.2.2 = endR kind s ∧ g.2.1.leaf = leaf ∧ g.2.1.keys.length ≤ g.1 ∧ g.2.1.items.length ≤ g.1 ∧ g.2.1.kids.length ≤ g.1 + 1

theorem f24_loop (kind : Int) (hk : kind = 1 ∨ kind = 2) (s : List UInt8) (many : Nat) (hm : many ≤ 65535) (leaf : Bool) (g : Nat × Nd × RS) (st : St) (h0 : decI kind s many leaf g st) :
    W (Ret E) (match c24.body with | .seq _ (.seq _ (.seq _ (.seq _ (.seq _ (.seq _ (.seq (.seq _ (.block _ l)) _)))))) => l | _ => .skip) (blkK 0 (seqK (Ret E) c24_rrrrrrr (pureEQ [.cell 4 (some 4), .t 5] (decQ kind s)))) st := by
  simp only [c24]
  refine W_loopI (I := decI kind s many leaf) (fun g => many - g.1) g h0 ?_
  rintro ⟨j, n, r⟩ tm hp nx ⟨hj, t9, t8, t4, t6, t7, hz, ⟨xk, xi, xd, hN⟩, hR, hnx, hlp, hlf, hl1, hl2, hl3⟩
  simp only at hj t9 t8 t4 t6 t7 hz hN hR hnx hlp hlf hl1 hl2 hl3
  have hR' : hp 2 = some [[.str r.1, .v (.bool r.2)]] := hR
  have stop : ∀ tm, tm 4 = .ptr 0 0 0 → tm 6 = .ptr 1 0 0 → tm 7 = .ptr 2 0 0 → loopR (many - j) n r = (n, r) → W (Ret E) c24_rrrrrrr (pureEQ [.cell 4 (some 4), .t 5] (decQ kind s)) ⟨tm, hp, nx⟩ := by
    intro tm t4 t6 t7 he
    exact f24_tail kind hk s tm hp nx n r xk xi xd t4 t6 t7 hz hN hR (by rw [← hlp, he]) ⟨by omega, by omega, by omega⟩
  by_cases hlt : j < many
  · have hlt' : (j : Int) < (many : Int) := by omega
    cases hb : r.2
    · rw [hb] at hR'
      have hlp' : loopR (many - (j + 1)) (stepR n r).1 (stepR n r).2 = endR kind s := by
        rw [← hlp, show many - j = many - (j + 1) + 1 by omega, loopR, hb]; rfl
      have hw9 : IntKind.wrap .i64 ((j : Int) + 1) = (j + 1 : Nat) := by rw [wrap_id] <;> omega
      simp [t9, t8, t4, t6, t7, hlt', hR', hN.at', -Int.ofNat_lt, -Int.natCast_add]
      refine c46' r 1 (by omega) hnx hR ?_
      intro hp1 nx1 hR1 hS1
      have hn1 := hS1.le
      simp [t9, t8, t4, t6, t7, -Int.natCast_add]
      refine c47' _ _ hR1 ?_
      intro hp2 hR2 hS2
      have hN2 : NH hp2 nx1 1 2 n xk xi xd := (hN.keep (by omega) (by omega) hS1).keep (by omega) (by omega) hS2
      obtain ⟨hp3, a1, a2, a3, a4⟩ := hN2.k.app (bytes := 16) (new := [keyC (bytesR (numR r 1).2 (numR r 1).1).1]) (by simp) (by simp; omega)
      have hN3 := hN2.key (by omega) (by omega) _ a2 a4
      have e1 : hp1 1 = hp 1 := hS1.keep 1 (by omega) (by omega)
      have e2 : hp2 1 = hp1 1 := hS2.keep 1 (by omega) (by omega)
      have e3 : hp3 1 = hp2 1 := a4 1 (by omega) hN2.kb.1
      have e3z : hp3 0 = some [zeroN.cells] := by
        rw [a4 0 (by omega) hN2.kb.2.2, hS2.keep 0 (by omega) (by omega), hS1.keep 0 (by omega) (by omega)]; exact hz
      have e3r : RD hp3 2 (bytesR (numR r 1).2 (numR r 1).1).2 := by
        show hp3 2 = _; rw [a4 2 (by omega) hN2.kb.2.1]; exact hR2
      have eN := hN.at'
      simp [keyC] at a1
      obtain ⟨i1, i2⟩ := hN.i.one
      obtain ⟨d1, d2⟩ := hN.d.one
      simp [t9, t8, t4, t6, t7, a1, e1, e2, e3, eN, spliceL, -Int.natCast_add]
      cases hleaf : n.leaf
      · rw [hleaf] at hN3
        simp [t9, t8, t4, t6, t7, -Int.natCast_add]
        refine c46' (nx := nx1 + 1) _ 4 (by omega) (by omega) (show RD _ 2 (bytesR (numR r 1).2 (numR r 1).1).2 by simp [RD]; exact e3r) ?_
        intro hp4 nx4 hR4 hS4
        have hn4 := hS4.le
        have hN4 := hN3.keep (by omega) (by omega) hS4
        obtain ⟨hp5, b1, b2, b3, b4⟩ := hN4.d.app (bytes := 8) (new := [kidC ((numR (bytesR (numR r 1).2 (numR r 1).1).2 4).1 : Int)]) (by simp) (by simp; omega)
        have hN5 := hN4.kid (by omega) (by omega) _ b2 b4
        have g1 := hS4.keep 1 (by omega) (by omega)
        have g5 : hp5 1 = hp4 1 := b4 1 (by omega) hN4.db.1
        have e5z : hp5 0 = some [zeroN.cells] := by
          rw [b4 0 (by omega) hN4.db.2.2, hS4.keep 0 (by omega) (by omega)]; simpa using e3z
        have e5r : RD hp5 2 (numR (bytesR (numR r 1).2 (numR r 1).1).2 4).2 := by
          show hp5 2 = _; rw [b4 2 (by omega) hN4.db.2.1]; exact hR4
        simp at g1
        simp [kidC] at b1
        simp [t9, t8, t4, t6, t7, b1, g1, g5, spliceL, hw9, -Int.natCast_add, -Prod.exists, -Bool.exists_bool]
        have hst : stepR n r = (⟨n.leaf, n.keys ++ [(bytesR (numR r 1).2 (numR r 1).1).1], n.items, n.kids ++ [((numR (bytesR (numR r 1).2 (numR r 1).1).2 4).1 : Int)]⟩, (numR (bytesR (numR r 1).2 (numR r 1).1).2 4).2) := by
          simp [stepR, hleaf]
        refine ⟨(j + 1, _, _), by simp; omega, by omega, by simp, by simp [t8], by simp [t4], by simp [t6], by simp [t7], by simpa using e5z, ⟨_, _, _, hN5⟩, by simp [RD]; exact e5r, (by show 2 < nx4 + 1; omega), ?_, ?_, by simp; omega, by simp; omega, by simp; omega⟩
        · rw [hst] at hlp'; simpa [hleaf] using hlp'
        · simp [← hlf, hleaf]
      · rw [hleaf] at hN3
        simp [t9, t8, t4, t6, t7, -Int.natCast_add]
        refine c48' (nx := nx1 + 1) _ (by omega) (show RD _ 2 (bytesR (numR r 1).2 (numR r 1).1).2 by simp [RD]; exact e3r) ?_
        intro hp4 nx4 hR4 hS4
        have hn4 := hS4.le
        have hN4 := hN3.keep (by omega) (by omega) hS4
        obtain ⟨hp5, b1, b2, b3, b4⟩ := hN4.i.app (bytes := 32) (new := [(itemR (bytesR (numR r 1).2 (numR r 1).1).2).1.cells]) (by simp) (by simp; omega)
        have hN5 := hN4.item (by omega) (by omega) _ b2 b4
        have g1 := hS4.keep 1 (by omega) (by omega)
        have g5 : hp5 1 = hp4 1 := b4 1 (by omega) hN4.ib.1
        have e5z : hp5 0 = some [zeroN.cells] := by
          rw [b4 0 (by omega) hN4.ib.2.2, hS4.keep 0 (by omega) (by omega)]; simpa using e3z
        have e5r : RD hp5 2 (itemR (bytesR (numR r 1).2 (numR r 1).1).2).2 := by
          show hp5 2 = _; rw [b4 2 (by omega) hN4.ib.2.1]; exact hR4
        have hic : (itemR (bytesR (numR r 1).2 (numR r 1).1).2).1.cells.all AV.one = true := by simp [Itm.cells]
        have hil : (itemR (bytesR (numR r 1).2 (numR r 1).1).2).1.cells.length = 3 := by simp [Itm.cells]
        simp at g1
        simp at b1
        generalize hcs : (itemR (bytesR (numR r 1).2 (numR r 1).1).2).1.cells = cs at *
        simp at hic
        simp [t9, t8, t4, t6, t7, hil, hic, b1, g1, g5, spliceL, hw9, -Int.natCast_add, -Prod.exists, -Bool.exists_bool]
        have hst : stepR n r = (⟨n.leaf, n.keys ++ [(bytesR (numR r 1).2 (numR r 1).1).1], n.items ++ [(itemR (bytesR (numR r 1).2 (numR r 1).1).2).1], n.kids⟩, (itemR (bytesR (numR r 1).2 (numR r 1).1).2).2) := by
          simp [stepR, hleaf]
        refine ⟨hic, (j + 1, _, _), by simp; omega, by omega, by simp, by simp [t8], by simp [t4], by simp [t6], by simp [t7], by simpa using e5z, ⟨_, _, _, hN5⟩, by simp [RD]; exact e5r, (by show 2 < nx4 + 1; omega), ?_, ?_, by simp; omega, by simp; omega, by simp; omega⟩
        · rw [hst] at hlp'; simpa [hleaf] using hlp'
        · simp [← hlf, hleaf]
    · rw [hb] at hR'
      simp [t9, t8, t4, t6, t7, hlt', hR', -Int.ofNat_lt]
      exact stop _ (by simp [t4]) (by simp [t6]) (by simp [t7]) (loopR_bad hb)
  · have hlt' : ¬ (j : Int) < (many : Int) := by omega
    have : many - j = 0 := by omega
    simp [t9, t8, t4, t6, t7, hlt', -Int.ofNat_lt]
    exact stop _ (by simp [t4]) (by simp [t6]) (by simp [t7]) (by rw [this]; rfl)
end Go.Ai

/- Decode, whole; the document's helpers. -/
namespace Go.Ai
set_option linter.unusedVariables false
set_option linter.unusedSimpArgs false

theorem f24 (kind : Int) (s : List UInt8) : ∃ v, decQ kind s v ∧ ∀ hp nx, Ret E 24 [.v (.int .i64 kind), .str s] hp nx v hp nx .p := by
  refine Ret_pureE e24 rfl (by simp) ?_
  have hm : (numR (s, false) 2).1 ≤ 65535 := by have := numR_lt (s, false) 2; omega
  have main : ∀ (st : St), kind = 1 ∨ kind = 2 → decI kind s (numR (s, false) 2).1 (decide (kind = 1)) (0, (startR kind (numR (s, false) 2).2).1, (startR kind (numR (s, false) 2).2).2) st →
      W (Ret E) (match c24.body with | .seq _ (.seq _ (.seq _ (.seq _ (.seq _ (.seq _ (.seq (.seq _ (.block _ l)) _)))))) => l | _ => .skip) (blkK 0 (seqK (Ret E) c24_rrrrrrr (pureEQ [.cell 4 (some 4), .t 5] (decQ kind s)))) st :=
    fun st hk h => f24_loop kind hk s _ hm _ _ st h
  simp only [c24] at main
  by_cases h1 : kind = 1
  · subst h1
    simp [c24, spliceL, -W_block]
    refine c46' (s, false) 2 (by omega) (by omega) (by simp [RD]) ?_
    intro hp1 nx1 hR1 hS1
    have e1 := hS1.keep 1 (by omega) (by omega)
    have e0 := hS1.keep 0 (by omega) (by omega)
    simp at e1 e0
    simp [e1, -W_block]
    simp only [W_block]
    refine main _ (.inl rfl) ?_
    have hle := hS1.le
    refine ⟨by simp, by simp, by simp, by simp, by simp, by simp, by simpa [zeroN] using e0, ⟨_, _, _, ⟨by simpa [startR] using e1, OwnS.nil, OwnS.nil, OwnS.nil, by simp, by simp, by simp, by simp, by simp, by simp⟩⟩, by simpa [startR] using hR1, (by show 2 < nx1; omega), rfl, by simp [startR], by simp [startR], by simp [startR], by simp [startR]⟩
  · by_cases h2 : kind = 2
    · subst h2
      simp [c24, spliceL, -W_block]
      refine c46' (s, false) 2 (by omega) (by omega) (by simp [RD]) ?_
      intro hp1 nx1 hR1 hS1
      have e1 := hS1.keep 1 (by omega) (by omega)
      have e0 := hS1.keep 0 (by omega) (by omega)
      have hle := hS1.le
      simp at e1 e0
      simp [e1, -W_block]
      refine c46' _ 4 (by omega) (by omega) hR1 ?_
      intro hp2 nx2 hR2 hS2
      have g1 := hS2.keep 1 (by omega) (by omega)
      have g0 := hS2.keep 0 (by omega) (by omega)
      have hle2 := hS2.le
      rw [e1] at g1
      rw [e0] at g0
      simp [e1, g1, spliceL, appA, show ¬ 1 = nx2 by omega, -W_block]
      simp only [W_block]
      refine main _ (.inr rfl) ?_
      refine ⟨by simp, by simp, by simp, by simp, by simp, by simp, by simp [zeroN, g0, show ¬ 0 = nx2 by omega], ⟨_, _, _, ⟨by simp [startR], OwnS.nil, OwnS.nil, .inr ⟨nx2, by simp, rfl, ?_⟩, by simp, by simp, by simp; omega, by simp, by simp, by simp⟩⟩, ?_, (by show 2 < nx2 + 1; omega), rfl, by simp [startR], by simp [startR], by simp [startR], by simp [startR]⟩
      · simp [startR, kidC, show ¬ nx2 = 1 by omega]
      · simp [RD, startR, show ¬ 2 = nx2 by omega]; exact hR2
    · simp [c24, spliceL, h1, h2, frz_closed]
      refine ⟨fun n h => ?_, fun _ => rfl⟩
      simp [decS, h1, h2] at h

theorem f50 (s : List UInt8) (hs : s.length ≤ 6) (hp nx) : Ret E 50 [.str s] hp nx (.v (.int .i64 (readS s))) hp nx .p := by
  refine Ret_pureQ e50 rfl rfl ?_ hp nx
  simp [c50]
  refine W_loopI (I := fun (j : Nat) st => j ≤ s.length ∧ st.tm 4 = .int .i64 j ∧ st.tm 0 = .str s ∧ st.tm 3 = .int .i64 (readS (s.take j))) (fun j => s.length - j) 0 (by simp [readS]) ?_
  rintro j tm hp nx ⟨hj, t4, t0, t3⟩
  simp only at t4 t0 t3
  by_cases hlt : j < s.length
  · have hget : s[j]? = some s[j] := List.getElem?_eq_getElem hlt
    have hts : s.take (j + 1) = s.take j ++ [s[j]] := by rw [List.take_add_one, hget]; rfl
    have hx : readS (s.take j) < 281474976710656 := by
      have h1 := readS_lt (s.take j)
      have h2 : 256 ^ (s.take j).length ≤ 256 ^ 6 := Nat.pow_le_pow_right (by omega) (by simp; omega)
      omega
    have hb := s[j].toNat_lt
    have hw : IntKind.wrap .i64 ((j : Int) + 1) = (j + 1 : Nat) := by rw [wrap_id] <;> omega
    have hw1 : IntKind.wrap .i64 (256 * (readS (s.take j) : Int)) = (256 * readS (s.take j) : Nat) := by rw [wrap_id] <;> omega
    have hw2 : IntKind.wrap .i64 (s[j].toNat : Int) = (s[j].toNat : Nat) := by rw [wrap_id] <;> omega
    have hw3 : IntKind.wrap .i64 (((256 * readS (s.take j) : Nat) : Int) + (s[j].toNat : Int)) = (256 * readS (s.take j) + s[j].toNat : Nat) := by rw [wrap_id] <;> omega
    have hlt' : (j : Int) < (s.length : Int) := by omega
    simp [t4, t0, t3, hlt', hget, hw, hw1, hw2, hw3, -Int.natCast_add, -Int.natCast_mul, -Int.ofNat_lt]
    exact ⟨j + 1, by omega, by omega, by simp, by rw [hts, readS_snoc]⟩
  · have : j = s.length := by omega
    subst this
    simp [t4, t0, t3]

def takeS (s : List UInt8) (n : Nat) : List UInt8 × List UInt8 × Bool := if n ≤ s.length then (s.take n, s.drop n, true) else ([], [], false)
def takeA (x : List UInt8 × List UInt8 × Bool) : AV := .tup [.str x.1, .str x.2.1, .v (.bool x.2.2)]
theorem f49 (s : List UInt8) (n : Nat) (hp nx) : Ret E 49 [.str s, .v (.int .i64 n)] hp nx (takeA (takeS s n)) hp nx .p := by
  refine Ret_pureQ e49 rfl rfl ?_ hp nx
  by_cases h : n ≤ s.length
  · have h' : ¬ (s.length : Int) < n := by omega
    simp [c49, h', sliceStr_hi h, sliceStr_lo h, takeS, takeA, h, frz_closed, -Int.ofNat_lt]
  · have h' : (s.length : Int) < n := by omega
    simp [c49, h', takeS, takeA, h, frz_closed, -Int.ofNat_lt]

def itemT (s : List UInt8) : Itm × List UInt8 × Bool :=
  if 1 ≤ s.length then
    if readS (s.take 1) = 255 then (if 8 ≤ (s.drop 1).length then (⟨[], readS ((s.drop 1).take 4), readS (((s.drop 1).take 8).drop 4)⟩, (s.drop 1).drop 8, true) else (⟨[], 0, 0⟩, [], false))
    else (⟨(takeS (s.drop 1) (readS (s.take 1))).1, 0, 0⟩, (takeS (s.drop 1) (readS (s.take 1))).2)
  else (⟨[], 0, 0⟩, [], false)
def itemA (x : Itm × List UInt8 × Bool) : AV := .tup [.agg x.1.cells, .str x.2.1, .v (.bool x.2.2)]

set_option maxRecDepth 8000 in
theorem f51 (s : List UInt8) (hp nx) : Ret E 51 [.str s] hp nx (itemA (itemT s)) hp nx .p := by
  refine Ret_pureQ e51 rfl rfl ?_ hp nx
  simp [c51]
  refine WCall_p (f49 s 1 _ _) ?_
  by_cases h1 : 1 ≤ s.length
  · obtain ⟨b, s', rfl⟩ : ∃ b s', s = b :: s' := by cases s with | nil => simp at h1 | cons b s' => exact ⟨b, s', rfl⟩
    have hb := b.toNat_lt
    have hrd : readS [b] = b.toNat := by simp [readS]
    by_cases h2 : b.toNat = 255
    · have h2' : ¬ (b.toNat : Int) < 255 := by omega
      simp [takeS, takeA, h2', spliceL]
      refine WCall_p (f49 s' 8 _ _) ?_
      by_cases h3 : 8 ≤ s'.length
      · have q1 : sliceStr (.str (s'.take 8)) none (some (.v (.int .i64 4))) = some (.str (s'.take 4)) := by
          rw [show (4 : Int) = ((4 : Nat) : Int) from rfl, sliceStr_hi (by simp; omega), List.take_take]; rfl
        have q2 : sliceStr (.str (s'.take 8)) (some (.v (.int .i64 4))) none = some (.str ((s'.take 8).drop 4)) := by
          rw [show (4 : Int) = ((4 : Nat) : Int) from rfl, sliceStr_lo (by simp; omega)]
        simp [takeS, takeA, h3, q1]
        refine WCall_p (f50 _ (by simp; omega) _ _) ?_
        simp [q2]
        refine WCall_p (f50 _ (by simp; omega) _ _) ?_
        simp [itemT, itemA, hrd, h2, h3, spliceL, Itm.cells, frz_closed]
      · simp [takeS, takeA, h3, spliceL]
        simp [itemT, itemA, hrd, h2, h3, spliceL, Itm.cells, frz_closed]
    · have h2' : (b.toNat : Int) < 255 := by omega
      have hw : IntKind.wrap .i64 (b.toNat : Int) = (b.toNat : Nat) := by rw [wrap_id] <;> omega
      simp [takeS, takeA, h2', hw, spliceL]
      refine WCall_p (f49 s' b.toNat _ _) ?_
      simp [takeA, spliceL]
      simp [itemT, itemA, hrd, h2, spliceL, Itm.cells, frz_closed]
  · have : s = [] := by cases s with | nil => rfl | cons b s' => simp at h1
    subst this
    simp [takeS, takeA, spliceL]
    simp [itemT, itemA, Itm.cells, frz_closed]
end Go.Ai

/- The document's Decode. -/
namespace Go.Ai
set_option linter.unusedVariables false
set_option linter.unusedSimpArgs false

def stepT (n : Nd) (s : List UInt8) : Option (Nd × List UInt8) :=
  if s.length < 1 then none else
  if (s.drop 1).length < readS (s.take 1) then none else
  if n.leaf then
    (if (itemT ((s.drop 1).drop (readS (s.take 1)))).2.2 = true then some (⟨n.leaf, n.keys ++ [(s.drop 1).take (readS (s.take 1))], n.items ++ [(itemT ((s.drop 1).drop (readS (s.take 1)))).1], n.kids⟩, (itemT ((s.drop 1).drop (readS (s.take 1)))).2.1) else none)
  else
    (if ((s.drop 1).drop (readS (s.take 1))).length < 4 then none else some (⟨n.leaf, n.keys ++ [(s.drop 1).take (readS (s.take 1))], n.items, n.kids ++ [(readS (((s.drop 1).drop (readS (s.take 1))).take 4) : Int)]⟩, ((s.drop 1).drop (readS (s.take 1))).drop 4))
def loopT : Nat → Nd → List UInt8 → Option (Nd × List UInt8)
  | 0, n, s => some (n, s)
  | m + 1, n, s => match stepT n s with
    | some (n', s') => loopT m n' s'
    | none => none
def startT (kind : Int) (s : List UInt8) : Option (Nd × List UInt8) :=
  if s.length < 2 ∨ (kind ≠ 1 ∧ kind ≠ 2) then none else
  if kind = 2 then (if (s.drop 2).length < 4 then none else some (⟨false, [], [], [(readS ((s.drop 2).take 4) : Int)]⟩, (s.drop 2).drop 4)) else some (⟨true, [], [], []⟩, s.drop 2)
def endT (kind : Int) (s : List UInt8) : Option (Nd × List UInt8) := match startT kind s with
  | some (n, r) => loopT (readS (s.take 2)) n r
  | none => none
def refS (kind : Int) (s : List UInt8) : Option Nd := match endT kind s with
  | some (n, r) => if r = [] ∧ rightS n = true ∧ contentS n = s then some n else none
  | none => none
def refQ (kind : Int) (s : List UInt8) (v : AV) : Prop :=
  (∀ n, refS kind s = some n → ∃ y, NdA n y ∧ v = .tup [y, .v (.int .i64 0)]) ∧ (refS kind s = none → v = .tup [zeroN, .v (.int .i64 11)])

theorem f25_tail (kind : Int) (s : List UInt8) (tm : Nat → AV) (hp : Heap) (nx : Nat) (n : Nd) (r : List UInt8) (xk xi xd : AV) (t1 : tm 1 = .str s) (t4 : tm 4 = .ptr 0 0 0) (t6 : tm 6 = .ptr 1 0 0) (t8 : tm 8 = .str r)
    (h0 : hp 0 = some [zeroN.cells]) (hN : NH hp nx 1 0 n xk xi xd) (he : endT kind s = some (n, r)) (hl : n.keys.length ≤ 60000 ∧ n.items.length ≤ 70000 ∧ n.kids.length ≤ 70001) :
    W (Ret E) c25_rrrrrrr (pureEQ [.cell 4 (some 4), .t 5] (refQ kind s)) ⟨tm, hp, nx⟩ := by
  obtain ⟨x0, hx0, hc0, hz0⟩ := hN.lend 3
  have h13 := Ret_lend (hp := hp) (nx := nx) (args := [.agg [.v (.bool n.leaf), xk, xi, xd]]) (args0 := [x0]) (by simp [hz0]) rfl (f13 n x0 hx0 (by omega) (by omega) (by omega) hnil 0)
  have h37 := fun hr => Ret_lend (hp := hp) (nx := nx) (args := [.agg [.v (.bool n.leaf), xk, xi, xd]]) (args0 := [x0]) (by simp [hz0]) rfl (f37 n x0 hx0 hr (by omega) hnil 0)
  have hN1 := hN.at'
  have hd : refS kind s = if r = [] ∧ rightS n = true ∧ contentS n = s then some n else none := by unfold refS; rw [he]
  have h0' : hp 0 = some [[.v (.bool false), .rs true 0 [] (some 0), .rs true 0 [] (some 0), .rs true 0 [] (some 0)]] := h0
  by_cases hs : r = []
  · subst hs
    simp [c25_rrrrrrr, t4, t6, t8, t1, hN1]
    refine WCall_k h13 ?_
    cases hr : rightS n
    · simp [t4, t6, t8, t1, h0', spliceL]
      refine ⟨.tup [zeroN, .v (.int .i64 11)], by simp [zeroN, frz_closed], ?_⟩
      refine ⟨fun m h => ?_, fun _ => rfl⟩
      rw [hd] at h; simp [hr] at h
    · simp [t4, t6, t8, t1, hN1]
      refine WCall_k (h37 (RightF.of hr)) ?_
      by_cases hc : contentS n = s
      · obtain ⟨k1, k2⟩ := hN.k.one
        obtain ⟨i1, i2⟩ := hN.i.one
        obtain ⟨d1, d2⟩ := hN.d.one
        simp [t4, t6, t8, t1, hc, h0', hN1, spliceL, k2, i2, d2]
        have hN2 : NH (hupd hp 0 (some [[AV.v (Value.bool n.leaf), xk, xi, xd]])) nx 1 0 n xk xi xd :=
          ⟨by simp [hN1], hN.k.keep (Nat.le_refl _) (fun q hq => by simp [show ¬ q = 0 from fun e => hN.kb.2.2 (e ▸ hq)]), hN.i.keep (Nat.le_refl _) (fun q hq => by simp [show ¬ q = 0 from fun e => hN.ib.2.2 (e ▸ hq)]),
           hN.d.keep (Nat.le_refl _) (fun q hq => by simp [show ¬ q = 0 from fun e => hN.db.2.2 (e ▸ hq)]), hN.kb, hN.ib, hN.db, hN.ki, hN.kd, hN.id'⟩
        obtain ⟨x1, hx1, hc1, hz1⟩ := hN2.lend 2
        refine ⟨.tup [x1, .v (.int .i64 0)], frz_tup (by simp [hz1]), fun m h => ?_, fun h => ?_⟩
        · rw [hd] at h; simp [hc, hr] at h; subst h
          exact ⟨x1, hx1, rfl⟩
        · rw [hd] at h; simp [hc, hr] at h
      · simp [t4, t6, t8, t1, hc, h0', spliceL]
        refine ⟨.tup [zeroN, .v (.int .i64 11)], by simp [zeroN, frz_closed], ?_⟩
        refine ⟨fun m h => ?_, fun _ => rfl⟩
        rw [hd] at h; simp [hc] at h
  · simp [c25_rrrrrrr, t4, t6, t8, t1, hs, h0', spliceL]
    refine ⟨.tup [zeroN, .v (.int .i64 11)], by simp [zeroN, frz_closed], ?_⟩
    refine ⟨fun m h => ?_, fun _ => rfl⟩
    rw [hd] at h; simp [hs] at h

abbrev refI (kind : Int) (s : List UInt8) (many : Nat) (leaf : Bool) (g : Nat × Nd × List UInt8) (st : St) : Prop :=
  g.1 ≤ many ∧ st.tm 11 = .int .i64 g.1 ∧ st.tm 10 = .int .i64 many ∧ st.tm 4 = .ptr 0 0 0 ∧ st.tm 6 = .ptr 1 0 0 ∧ st.tm 8 = .str g.2.2 ∧ st.tm 1 = .str s ∧ st.tm 0 = .int .i64 kind ∧ st.hp 0 = some [zeroN.cells] ∧ (∃ xk xi xd, NH st.hp st.nx 1 0 g.2.1 xk xi xd) ∧ 1 < st.nx ∧
    loopT (many - g.1) g.2.1 g.2.2 = endT kind s ∧ g.2.1.leaf = leaf ∧ g.2.1.keys.length ≤ g.1 ∧ g.2.1.items.length ≤ g.1 ∧ g.2.1.kids.length ≤ g.1 + 1 ∧ g.2.1.keys.length + g.2.2.length ≤ s.length

theorem takeS_len (s : List UInt8) (n : Nat) : (takeS s n).2.1.length ≤ s.length := by unfold takeS; split <;> simp
theorem itemT_len (s : List UInt8) : (itemT s).2.1.length ≤ s.length := by
  unfold itemT; split
  · split
    · split
      · simp
      · simp
    · have := takeS_len (s.drop 1) (readS (s.take 1)); simp at this ⊢; omega
  · simp

theorem f25_loop (kind : Int) (hk : kind = 1 ∨ kind = 2) (s : List UInt8) (hsl : s.length ≤ 50000) (many : Nat) (hm : many ≤ 65535) (g : Nat × Nd × List UInt8) (st : St) (h0 : refI kind s many (decide (kind = 1)) g st) :
    W (Ret E) (match c25.body with | .seq _ (.seq _ (.seq _ (.seq _ (.seq _ (.seq _ (.seq (.seq _ (.block _ l)) _)))))) => l | _ => .skip) (blkK 0 (seqK (Ret E) c25_rrrrrrr (pureEQ [.cell 4 (some 4), .t 5] (refQ kind s)))) st := by
  simp only [c25]
  refine W_loopI (I := refI kind s many (decide (kind = 1))) (fun g => many - g.1) g h0 ?_
  rintro ⟨j, n, r⟩ tm hp nx ⟨hj, t11, t10, t4, t6, t8, t1, t0, hz, ⟨xk, xi, xd, hN⟩, hnx, hlp, hlf, hl1, hl2, hl3, hl4⟩
  simp only at hj t11 t10 t4 t6 t8 t1 t0 hz hN hnx hlp hlf hl1 hl2 hl3 hl4
  have hz' : hp 0 = some [[.v (.bool false), .rs true 0 [] (some 0), .rs true 0 [] (some 0), .rs true 0 [] (some 0)]] := hz
  have fail : refS kind s = none → refQ kind s (.tup [zeroN, .v (.int .i64 11)]) := fun h => ⟨fun m h2 => (by rw [h] at h2; cases h2), fun _ => rfl⟩
  by_cases hlt : j < many
  · have hlt' : (j : Int) < (many : Int) := by omega
    have hw : IntKind.wrap .i64 ((j : Int) + 1) = (j + 1 : Nat) := by rw [wrap_id] <;> omega
    have hlp2 : (match stepT n r with | some (n', s') => loopT (many - (j + 1)) n' s' | none => none) = endT kind s := by
      rw [← hlp, show many - j = many - (j + 1) + 1 by omega]; rfl
    simp [t11, t10, t4, t6, t8, t1, t0, hlt', -Int.ofNat_lt, -Int.natCast_add, -Prod.exists]
    refine WCall_p (f49 r 1 _ _) ?_
    by_cases q1 : r.length < 1
    · have hst : stepT n r = none := by unfold stepT; rw [if_pos q1]
      have hf : refS kind s = none := by rw [hst] at hlp2; unfold refS; rw [← hlp2]
      have q1' : ¬ 1 ≤ r.length := by omega
      simp [takeS, takeA, q1', t11, t10, t4, t6, t8, t1, t0, hz', spliceL, -Prod.exists]
      exact ⟨.tup [zeroN, .v (.int .i64 11)], by simp [zeroN, frz_closed], fail hf⟩
    have q1' : 1 ≤ r.length := by omega
    simp [takeS, takeA, q1', t11, t10, t4, t6, t8, t1, t0, -Prod.exists]
    refine WCall_p (f50 _ (by simp; omega) _ _) ?_
    simp [t11, t10, t4, t6, t8, t1, t0, -Prod.exists]
    refine WCall_p (f49 _ _ _ _) ?_
    by_cases q2 : (r.drop 1).length < readS (r.take 1)
    · have hst : stepT n r = none := by unfold stepT; rw [if_neg q1, if_pos q2]
      have hf : refS kind s = none := by rw [hst] at hlp2; unfold refS; rw [← hlp2]
      have q2' : ¬ readS (r.take 1) ≤ r.length - 1 := by simp at q2; omega
      simp [takeS, takeA, q2', t11, t10, t4, t6, t8, t1, t0, hz', spliceL, -Prod.exists]
      exact ⟨.tup [zeroN, .v (.int .i64 11)], by simp [zeroN, frz_closed], fail hf⟩
    have q2' : readS (r.take 1) ≤ r.length - 1 := by simp at q2; omega
    obtain ⟨hp3, a1, a2, a3, a4⟩ := hN.k.app (bytes := 16) (new := [keyC ((r.drop 1).take (readS (r.take 1)))]) (by simp) (by simp; omega)
    have hN3 := hN.key (by omega) (by omega) _ a2 a4
    have e3 : hp3 1 = hp 1 := a4 1 (by omega) hN.kb.1
    have e3z : hp3 0 = some [zeroN.cells] := by rw [a4 0 (by omega) hN.kb.2.2]; exact hz
    have e3z' : hp3 0 = some [[.v (.bool false), .rs true 0 [] (some 0), .rs true 0 [] (some 0), .rs true 0 [] (some 0)]] := e3z
    have eN := hN.at'
    obtain ⟨i1, i2⟩ := hN.i.one
    obtain ⟨d1, d2⟩ := hN.d.one
    simp [keyC] at a1
    rcases hk with rfl | rfl
    · -- a leaf
      have hlf : n.leaf = true := by simpa using hlf
      simp [takeS, takeA, q2', t11, t10, t4, t6, t8, t1, t0, a1, e3, eN, spliceL, -Prod.exists]
      refine WCall_p (f51 _ _ _) ?_
      have hil : (itemT ((r.drop 1).drop (readS (r.take 1)))).1.cells.length = 3 := by simp [Itm.cells]
      have hic : ∀ x ∈ (itemT ((r.drop 1).drop (readS (r.take 1)))).1.cells, x.one = true := by simp [Itm.cells]
      have hdd : (r.drop 1).drop (readS (r.take 1)) = r.drop (readS (r.take 1) + 1) := by rw [List.drop_drop, Nat.add_comm]
      have hit := itemT_len ((r.drop 1).drop (readS (r.take 1)))
      have hst : stepT n r = if (itemT ((r.drop 1).drop (readS (r.take 1)))).2.2 = true then some (⟨n.leaf, n.keys ++ [(r.drop 1).take (readS (r.take 1))], n.items ++ [(itemT ((r.drop 1).drop (readS (r.take 1)))).1], n.kids⟩, (itemT ((r.drop 1).drop (readS (r.take 1)))).2.1) else none := by
        unfold stepT; rw [if_neg q1, if_neg q2, if_pos hlf]
      have hrl : ((r.drop 1).drop (readS (r.take 1))).length + 1 ≤ r.length := by simp; omega
      rw [hdd] at hil hic hst hit hrl
      generalize hI : itemT (r.drop (readS (r.take 1) + 1)) = I at *
      obtain ⟨it, rest, ok⟩ := I
      simp only at hil hic hst hit
      have hn0 : ¬ nx = 0 := by omega
      have hNA : ∀ H : Heap, (∀ q, q < nx + 1 → H q = hupd hp3 1 (some [[.v (.bool n.leaf), .sl nx 1 0 (n.keys.length + 1) none, xi, xd]]) q) → NH H (nx + 1 + 1) 1 0 ⟨n.leaf, n.keys ++ [(r.drop 1).take (readS (r.take 1))], n.items, n.kids⟩ (.sl nx 1 0 (n.keys.length + 1) none) xi xd :=
        fun H hH => hN3.keep (by omega) (by omega) ⟨by omega, fun q hq _ => hH q hq⟩
      simp [itemA, t11, t10, t4, t6, t8, t1, t0, spliceL, hil, hn0, -Prod.exists]
      refine ⟨hic, hic, ?_⟩
      refine mvE_app (hNA _ (fun q hq => ?_)).i (by simp) (by simp; omega) ?_
      · simp [show ¬ q = nx + 1 by omega]
      intro hp5 b2 b4
      have hN5 := (hNA _ (fun q hq => by simp [show ¬ q = nx + 1 by omega])).item (by omega) (by omega) it b2 b4
      have f1 : hp5 1 = some [[.v (.bool n.leaf), .sl nx 1 0 (n.keys.length + 1) none, xi, xd]] := by
        rw [b4 1 (by omega) hN3.ib.1]; simp [show ¬ 1 = nx + 1 by omega, hn0]
      have f0 : hp5 0 = some [zeroN.cells] := by
        rw [b4 0 (by omega) hN3.ib.2.1]; simp [e3z]
      have f0' : hp5 0 = some [[.v (.bool false), .rs true 0 [] (some 0), .rs true 0 [] (some 0), .rs true 0 [] (some 0)]] := f0
      cases ok
      · simp at hst
        have hf : refS 1 s = none := by rw [hst] at hlp2; unfold refS; rw [← hlp2]
        simp [t11, t10, t4, t6, t8, t1, t0, f1, f0', spliceL, -Prod.exists]
        exact ⟨.tup [zeroN, .v (.int .i64 11)], by simp [zeroN, frz_closed], fail hf⟩
      · try simp at hst
        simp [t11, t10, t4, t6, t8, t1, t0, f1, hw, spliceL, -Prod.exists, -Int.natCast_add]
        rw [hst] at hlp2
        refine ⟨(j + 1, _, _), by simp; omega, by omega, by simp, by simp [t10], by simp [t4], by simp [t6], by simp; rfl, by simp [t1], by simp [t0], by simpa using f0, ⟨_, _, _, hN5⟩, (by show 1 < nx + 1 + 1 + 1; omega), ?_, by simpa using hlf, by simp; omega, by simp; omega, by simp; omega, by simp; omega⟩
        simpa using hlp2
    · have hlf : n.leaf = false := by simpa using hlf
      simp [takeS, takeA, q2', t11, t10, t4, t6, t8, t1, t0, a1, e3, eN, spliceL, -Prod.exists]
      refine WCall_p (f49 _ _ _ _) ?_
      have hdd : (r.drop 1).drop (readS (r.take 1)) = r.drop (readS (r.take 1) + 1) := by rw [List.drop_drop, Nat.add_comm]
      have hst : stepT n r = if (r.drop (readS (r.take 1) + 1)).length < 4 then none else some (⟨n.leaf, n.keys ++ [(r.drop 1).take (readS (r.take 1))], n.items, n.kids ++ [(readS ((r.drop (readS (r.take 1) + 1)).take 4) : Int)]⟩, (r.drop (readS (r.take 1) + 1)).drop 4) := by
        unfold stepT; rw [if_neg q1, if_neg q2, if_neg (by simp [hlf]), hdd]
      have hrl : (r.drop (readS (r.take 1) + 1)).length + 1 ≤ r.length := by simp; omega
      generalize hR : r.drop (readS (r.take 1) + 1) = R at *
      have hr4 : readS (takeS R 4).1 < 281474976710656 := by
        have h1 := readS_lt (takeS R 4).1
        have h3 : (takeS R 4).1.length ≤ 4 := by unfold takeS; split <;> simp; omega
        have h2 : 256 ^ (takeS R 4).1.length ≤ 256 ^ 4 := Nat.pow_le_pow_right (by omega) h3
        omega
      simp [takeA, t11, t10, t4, t6, t8, t1, t0, spliceL, -Prod.exists]
      refine WCall_p (f50 _ (by unfold takeS; split <;> simp; omega) _ _) ?_
      have hNA : NH (hupd hp3 1 (some [[.v (.bool n.leaf), .sl nx 1 0 (n.keys.length + 1) none, xi, xd]])) (nx + 1) 1 0 ⟨n.leaf, n.keys ++ [(r.drop 1).take (readS (r.take 1))], n.items, n.kids⟩ (.sl nx 1 0 (n.keys.length + 1) none) xi xd := hN3
      rw [hlf] at hNA
      simp [t11, t10, t4, t6, t8, t1, t0, hlf, spliceL, -Prod.exists]
      refine mvE_app hNA.d (by simp) (by simp; omega) ?_
      intro hp5 b2 b4
      have hN5 := hNA.kid (by omega) (by omega) ((readS (takeS R 4).1 : Nat) : Int) b2 b4
      have f1 : hp5 1 = some [[.v (.bool false), .sl nx 1 0 (n.keys.length + 1) none, xi, xd]] := by
        rw [b4 1 (by omega) hNA.db.1]; simp
      have f0 : hp5 0 = some [zeroN.cells] := by
        rw [b4 0 (by omega) hNA.db.2.1]; simp [e3z]
      have f0' : hp5 0 = some [[.v (.bool false), .rs true 0 [] (some 0), .rs true 0 [] (some 0), .rs true 0 [] (some 0)]] := f0
      by_cases q3 : R.length < 4
      · rw [if_pos q3] at hst
        have hf : refS 2 s = none := by rw [hst] at hlp2; unfold refS; rw [← hlp2]
        have q3' : ¬ 4 ≤ R.length := by omega
        simp [takeS, q3', t11, t10, t4, t6, t8, t1, t0, f1, f0', spliceL, -Prod.exists]
        exact ⟨.tup [zeroN, .v (.int .i64 11)], by simp [zeroN, frz_closed], fail hf⟩
      · rw [if_neg q3] at hst
        have q3' : 4 ≤ R.length := by omega
        have hts : takeS R 4 = (R.take 4, R.drop 4, true) := by unfold takeS; rw [if_pos q3']
        rw [hts] at hN5
        simp [takeS, q3', t11, t10, t4, t6, t8, t1, t0, f1, hw, spliceL, -Prod.exists, -Int.natCast_add]
        rw [hst] at hlp2
        simp only [hlf] at hlp2
        refine ⟨(j + 1, _, _), by simp; omega, by omega, by simp, by simp [t10], by simp [t4], by simp [t6], by simp; rfl, by simp [t1], by simp [t0], by simpa using f0, ⟨_, _, _, hN5⟩, (by show 1 < nx + 1 + 1; omega), ?_, by simp, by simp; omega, by simp; omega, by simp; omega, by simp; omega⟩
        simpa using hlp2
  · have hlt' : ¬ (j : Int) < (many : Int) := by omega
    have h0 : many - j = 0 := by omega
    rw [h0] at hlp
    simp [t11, t10, t4, t6, t8, t1, t0, hlt', -Int.ofNat_lt]
    exact f25_tail kind s _ hp nx n r xk xi xd (by simp [t1]) (by simp [t4]) (by simp [t6]) (by simp [t8]) hz hN hlp.symm ⟨by omega, by omega, by omega⟩
end Go.Ai

/- Contents and nodes: what is written is read, what is read is written. -/
namespace Go.Ai
set_option linter.unusedVariables false
set_option linter.unusedSimpArgs false

theorem readS_numS : ∀ (n x : Nat), x < 256 ^ n → readS (numS x n) = x
  | 0, x, h => by simp at h; subst h; rfl
  | n + 1, x, h => by
    have h1 : x / 256 < 256 ^ n := by rw [Nat.pow_succ] at h; omega
    have h2 : (UInt8.ofNat (x % 256)).toNat = x % 256 := by simp
    rw [numS, readS_snoc, readS_numS n _ h1, h2]; omega
theorem numS_readS : ∀ (n : Nat) (l : List UInt8), l.length = n → numS (readS l) n = l
  | 0, l, h => by rw [List.length_eq_zero_iff] at h; subst h; rfl
  | n + 1, l, h => by
    have hne : l ≠ [] := by rintro rfl; simp at h
    obtain ⟨l', b, rfl⟩ : ∃ l' b, l = l' ++ [b] := ⟨l.dropLast, l.getLast hne, (List.dropLast_concat_getLast hne).symm⟩
    have hb := b.toNat_lt
    have hl : l'.length = n := by simpa using h
    rw [readS_snoc, numS]
    have e1 : (256 * readS l' + b.toNat) / 256 = readS l' := by omega
    have e2 : (256 * readS l' + b.toNat) % 256 = b.toNat := by omega
    rw [e1, e2, numS_readS n l' hl]
    simp

theorem bytesR_app (l rest : List UInt8) : bytesR (l ++ rest, false) l.length = (l, (rest, false)) := by
  unfold bytesR; simp
theorem numR_num {x n : Nat} (h : x < 256 ^ n) (rest : List UInt8) : numR (numS x n ++ rest, false) n = (x, (rest, false)) := by
  have := bytesR_app (numS x n) rest
  rw [numS_length] at this
  unfold numR; rw [this, readS_numS n x h]
theorem bytesR_ok {r : RS} {m : Nat} (h : (bytesR r m).2.2 = false) : r.2 = false ∧ (bytesR r m).1.length = m ∧ r.1 = (bytesR r m).1 ++ (bytesR r m).2.1 := by
  unfold bytesR at h ⊢
  split
  · rename_i hm; rw [if_pos hm] at h; exact ⟨h, by simp; omega, by simp⟩
  · rename_i hm; rw [if_neg hm] at h; cases h
theorem numR_ok {r : RS} {m : Nat} (h : (numR r m).2.2 = false) : r.2 = false ∧ m ≤ r.1.length ∧ r.1 = numS (numR r m).1 m ++ (numR r m).2.1 := by
  unfold numR at h ⊢
  obtain ⟨h1, h2, h3⟩ := bytesR_ok h
  refine ⟨h1, ?_, ?_⟩
  · have := congrArg List.length h3; rw [List.length_append] at this; omega
  · show r.1 = numS (readS (bytesR r m).1) m ++ (bytesR r m).2.1
    rw [numS_readS m _ h2]; exact h3

theorem itemR_ok {r : RS} (h : (itemR r).2.2 = false) : r.2 = false ∧ r.1 = itemB (itemR r).1 ++ (itemR r).2.1 := by
  unfold itemR at h ⊢
  split
  · rename_i h255
    rw [if_pos h255] at h
    simp only [Bool.or_eq_false_iff, decide_eq_false_iff_not] at h
    obtain ⟨h1, h2⟩ := h
    obtain ⟨a1, _, a2⟩ := numR_ok h1
    obtain ⟨b1, _, b2⟩ := numR_ok a1
    obtain ⟨c1, _, c2⟩ := numR_ok b1
    refine ⟨c1, ?_⟩
    have hp : 0 < ((numR (numR r 1).2 4).1 : Int) := by omega
    simp only [itemB, hp, if_true, Int.toNat_natCast]
    rw [c2, h255, b2, a2]
    simp [numS]
  · rename_i h255
    rw [if_neg h255] at h
    obtain ⟨a1, a2, a3⟩ := bytesR_ok h
    obtain ⟨b1, _, b2⟩ := numR_ok a1
    refine ⟨b1, ?_⟩
    simp only [itemB]
    rw [if_neg (by omega), a2, List.append_assoc, ← a3]
    exact b2

/-- What a node's loop keeps. -/
def WF (n : Nd) : Prop := if n.leaf then n.items.length = n.keys.length else n.kids.length = n.keys.length + 1
def entries (n : Nd) : List UInt8 := (List.range n.keys.length).flatMap (entryB n)

theorem flatMap_congr' {α β : Type} {l : List α} {f g : α → List β} (h : ∀ x ∈ l, f x = g x) : l.flatMap f = l.flatMap g := by
  induction l with
  | nil => rfl
  | cons a l ih => simp only [List.flatMap_cons]; rw [h a (by simp), ih fun x hx => h x (by simp [hx])]

theorem entries_leaf {n : Nd} (hl : n.leaf = true) (hw : WF n) (k : List UInt8) (x : Itm) : entries ⟨n.leaf, n.keys ++ [k], n.items ++ [x], n.kids⟩ = entries n ++ (numS k.length 1 ++ k ++ itemB x) := by
  simp only [WF, hl, if_true] at hw
  unfold entries
  simp only [List.length_append, List.length_singleton, List.range_succ, List.flatMap_append, List.flatMap_cons, List.flatMap_nil, List.append_nil]
  congr 1
  · refine flatMap_congr' fun i hi => ?_
    simp only [List.mem_range] at hi
    have e1 : (n.keys ++ [k]).getD i [] = n.keys.getD i [] := by simp [List.getD, List.getElem?_append_left hi]
    have e2 : (n.items ++ [x]).getD i ⟨[], 0, 0⟩ = n.items.getD i ⟨[], 0, 0⟩ := by simp [List.getD, List.getElem?_append_left (show i < n.items.length by omega)]
    simp only [entryB, e1, e2]
  · have e1 : (n.keys ++ [k]).getD n.keys.length [] = k := by simp
    have e2 : (n.items ++ [x]).getD n.keys.length ⟨[], 0, 0⟩ = x := by rw [← hw]; simp
    simp only [entryB, e1, e2, hl, if_true]
theorem entries_kid {n : Nd} (hl : n.leaf = false) (hw : WF n) (k : List UInt8) (c : Nat) : entries ⟨n.leaf, n.keys ++ [k], n.items, n.kids ++ [(c : Int)]⟩ = entries n ++ (numS k.length 1 ++ k ++ numS c 4) := by
  simp [WF, hl] at hw
  unfold entries
  simp only [List.length_append, List.length_singleton, List.range_succ, List.flatMap_append, List.flatMap_cons, List.flatMap_nil, List.append_nil]
  congr 1
  · refine flatMap_congr' fun i hi => ?_
    simp only [List.mem_range] at hi
    have e1 : (n.keys ++ [k]).getD i [] = n.keys.getD i [] := by simp [List.getD, List.getElem?_append_left hi]
    have e2 : (n.kids ++ [(c : Int)]).getD (i + 1) 0 = n.kids.getD (i + 1) 0 := by simp [List.getD, List.getElem?_append_left (show i + 1 < n.kids.length by omega)]
    simp only [entryB, e1, e2]
  · have e1 : (n.keys ++ [k]).getD n.keys.length [] = k := by simp
    have e2 : (n.kids ++ [(c : Int)]).getD (n.keys.length + 1) 0 = c := by rw [← hw]; simp
    simp only [entryB, e1, e2, hl]
    simp

theorem stepR_ok {n : Nd} {r : RS} (hw : WF n) (h : (stepR n r).2.2 = false) : r.2 = false ∧ WF (stepR n r).1 ∧ entries n ++ r.1 = entries (stepR n r).1 ++ (stepR n r).2.1 ∧
    (stepR n r).1.keys.length = n.keys.length + 1 ∧ (stepR n r).1.kids.getD 0 0 = n.kids.getD 0 0 ∧ stepT n r.1 = some ((stepR n r).1, (stepR n r).2.1) := by
  cases hl : n.leaf
  · have e : stepR n r = (⟨n.leaf, n.keys ++ [(bytesR (numR r 1).2 (numR r 1).1).1], n.items, n.kids ++ [((numR (bytesR (numR r 1).2 (numR r 1).1).2 4).1 : Int)]⟩, (numR (bytesR (numR r 1).2 (numR r 1).1).2 4).2) := by simp [stepR, hl]
    rw [e] at h ⊢
    obtain ⟨a1, a0, a2⟩ := numR_ok h
    obtain ⟨b1, b2, b3⟩ := bytesR_ok a1
    obtain ⟨c1, c0, c2⟩ := numR_ok b1
    simp only
    refine ⟨c1, ?_, ?_, by simp, ?_, ?_⟩
    · simp [WF, hl] at hw ⊢; omega
    · rw [entries_kid hl hw, b2, List.append_assoc, List.append_assoc, List.append_assoc, ← a2, ← b3, ← c2]
    · simp [WF, hl] at hw
      rw [List.getD_eq_getElem?_getD, List.getD_eq_getElem?_getD, List.getElem?_append_left (show 0 < n.kids.length by omega)]
    · obtain ⟨s, bad⟩ := r
      simp only at c1 c0 c2; subst c1
      have f1 : numR (s, false) 1 = (readS (s.take 1), (s.drop 1, false)) := by unfold numR bytesR; simp only; rw [if_pos c0]
      rw [f1] at b2 b3 a0 ⊢
      simp only at b2 b3
      have f2 : readS (s.take 1) ≤ (s.drop 1).length := by rw [b3, List.length_append, b2]; omega
      have f3 : bytesR (s.drop 1, false) (readS (s.take 1)) = ((s.drop 1).take (readS (s.take 1)), ((s.drop 1).drop (readS (s.take 1)), false)) := by unfold bytesR; simp only; rw [if_pos f2]
      simp only at a0 ⊢
      rw [f3] at a0 ⊢
      simp only at a0 ⊢
      have f4 : numR ((s.drop 1).drop (readS (s.take 1)), false) 4 = (readS (((s.drop 1).drop (readS (s.take 1))).take 4), (((s.drop 1).drop (readS (s.take 1))).drop 4, false)) := by unfold numR bytesR; simp only; rw [if_pos a0]
      rw [f4]
      unfold stepT
      rw [if_neg (by omega), if_neg (by omega), if_neg (by simp [hl]), if_neg (by omega)]
  · have e : stepR n r = (⟨n.leaf, n.keys ++ [(bytesR (numR r 1).2 (numR r 1).1).1], n.items ++ [(itemR (bytesR (numR r 1).2 (numR r 1).1).2).1], n.kids⟩, (itemR (bytesR (numR r 1).2 (numR r 1).1).2).2) := by simp [stepR, hl]
    rw [e] at h ⊢
    obtain ⟨a1, a2⟩ := itemR_ok h
    obtain ⟨b1, b2, b3⟩ := bytesR_ok a1
    obtain ⟨c1, c0, c2⟩ := numR_ok b1
    simp only
    refine ⟨c1, ?_, ?_, by simp, trivial, ?_⟩
    · simp [WF, hl] at hw ⊢; omega
    · rw [entries_leaf hl hw, b2, List.append_assoc, List.append_assoc, List.append_assoc, ← a2, ← b3, ← c2]
    · obtain ⟨s, bad⟩ := r
      simp only at c1 c0 c2; subst c1
      have f1 : numR (s, false) 1 = (readS (s.take 1), (s.drop 1, false)) := by unfold numR bytesR; simp only; rw [if_pos c0]
      rw [f1] at b2 b3 h ⊢
      simp only at b2 b3 h ⊢
      have f2 : readS (s.take 1) ≤ (s.drop 1).length := by rw [b3, List.length_append, b2]; omega
      have f3 : bytesR (s.drop 1, false) (readS (s.take 1)) = ((s.drop 1).take (readS (s.take 1)), ((s.drop 1).drop (readS (s.take 1)), false)) := by unfold bytesR; simp only; rw [if_pos f2]
      rw [f3] at h ⊢
      simp only at h ⊢
      have f4 : itemT ((s.drop 1).drop (readS (s.take 1))) = ((itemR ((s.drop 1).drop (readS (s.take 1)), false)).1, (itemR ((s.drop 1).drop (readS (s.take 1)), false)).2.1, true) := by
        generalize (s.drop 1).drop (readS (s.take 1)) = q at h
        unfold itemR at h ⊢
        split at h
        · rename_i h255
          simp only [Bool.or_eq_false_iff, decide_eq_false_iff_not] at h
          obtain ⟨g1, g2⟩ := h
          obtain ⟨a1, a3, a2⟩ := numR_ok g1
          obtain ⟨b1, b3, b2⟩ := numR_ok a1
          obtain ⟨c1, c3, c2⟩ := numR_ok b1
          have k1 : numR (q, false) 1 = (readS (q.take 1), (q.drop 1, false)) := by unfold numR bytesR; simp only; rw [if_pos c3]
          rw [k1] at h255 a3 b3 ⊢
          simp only at b3 h255 ⊢
          have k2 : numR (q.drop 1, false) 4 = (readS ((q.drop 1).take 4), ((q.drop 1).drop 4, false)) := by unfold numR bytesR; simp only; rw [if_pos b3]
          rw [k2] at a3 ⊢
          simp only at a3 ⊢
          have k3 : numR ((q.drop 1).drop 4, false) 4 = (readS (((q.drop 1).drop 4).take 4), (((q.drop 1).drop 4).drop 4, false)) := by unfold numR bytesR; simp only; rw [if_pos a3]
          rw [k3]
          unfold itemT
          rw [if_pos c3, if_pos h255, if_pos (by simp at a3 ⊢; omega), if_pos h255]
          simp [List.drop_take]
        · rename_i h255
          obtain ⟨a1, a2, a3⟩ := bytesR_ok h
          obtain ⟨b1, b0, b2⟩ := numR_ok a1
          have k1 : numR (q, false) 1 = (readS (q.take 1), (q.drop 1, false)) := by unfold numR bytesR; simp only; rw [if_pos b0]
          rw [k1] at h255 a2 a3 ⊢
          simp only at a2 a3 h255 ⊢
          have k2 : readS (q.take 1) ≤ (q.drop 1).length := by rw [a3, List.length_append, a2]; omega
          have k3 : bytesR (q.drop 1, false) (readS (q.take 1)) = ((q.drop 1).take (readS (q.take 1)), ((q.drop 1).drop (readS (q.take 1)), false)) := by unfold bytesR; simp only; rw [if_pos k2]
          rw [k3]
          unfold itemT takeS
          rw [if_pos b0, if_neg h255, if_neg h255, if_pos k2]
      unfold stepT
      rw [if_neg (by omega), if_neg (by omega), if_pos hl, f4]
      simp
end Go.Ai

