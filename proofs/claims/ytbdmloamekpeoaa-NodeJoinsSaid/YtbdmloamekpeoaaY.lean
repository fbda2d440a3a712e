/- The document's Decode. -/
import Derived.Test.YtbdmloamekpeoaaX
namespace Go.Ai
set_option linter.unusedVariables false
set_option linter.unusedSimpArgs false

def stepT (n : Nd) (s : List UInt8) : Option (Nd × List UInt8) :=
  if s.length < 1 then none else
  if (s.drop 1).length < readS (s.take 1) then none else
  if n.leaf then
    (if (itemT ((s.drop 1).drop (readS (s.take 1)))).2.2 = true then some (⟨n.leaf, n.keys ++ [(s.drop 1).take (readS (s.take 1))], n.items ++ [(itemT ((s.drop 1).drop (readS (s.take 1)))).1], n.kids⟩, (itemT ((s.drop 1).drop (readS (s.take 1)))).2.1) else none)
  else
    (if ((s.drop 1).drop (readS (s.take 1))).length < 4 then none else some (⟨n.leaf, n.keys ++ [(s.drop 1).take (readS (s.take 1))], n.items, n.kids ++ [(readS (((s.drop 1).drop (readS (s.take 1))).take 4) : Int)]⟩, ((s.drop 1).drop (readS (s.take 1))).drop 4))
def loopT : Nat → Nd → List UInt8 → Option (Nd × List UInt8)
  | 0, n, s => some (n, s)
  | m + 1, n, s => match stepT n s with
    | some (n', s') => loopT m n' s'
    | none => none
def startT (kind : Int) (s : List UInt8) : Option (Nd × List UInt8) :=
  if s.length < 2 ∨ (kind ≠ 1 ∧ kind ≠ 2) then none else
  if kind = 2 then (if (s.drop 2).length < 4 then none else some (⟨false, [], [], [(readS ((s.drop 2).take 4) : Int)]⟩, (s.drop 2).drop 4)) else some (⟨true, [], [], []⟩, s.drop 2)
def endT (kind : Int) (s : List UInt8) : Option (Nd × List UInt8) := match startT kind s with
  | some (n, r) => loopT (readS (s.take 2)) n r
  | none => none
def refS (kind : Int) (s : List UInt8) : Option Nd := match endT kind s with
  | some (n, r) => if r = [] ∧ rightS n = true ∧ contentS n = s then some n else none
  | none => none
def refQ (kind : Int) (s : List UInt8) (v : AV) : Prop :=
  (∀ n, refS kind s = some n → ∃ y, NdA n y ∧ v = .tup [y, .v (.int .i64 0)]) ∧ (refS kind s = none → v = .tup [zeroN, .v (.int .i64 11)])

theorem f25_tail (kind : Int) (s : List UInt8) (tm : Nat → AV) (hp : Heap) (nx : Nat) (n : Nd) (r : List UInt8) (xk xi xd : AV) (t1 : tm 1 = .str s) (t4 : tm 4 = .ptr 0 0 0) (t6 : tm 6 = .ptr 1 0 0) (t8 : tm 8 = .str r)
    (h0 : hp 0 = some [zeroN.cells]) (hN : NH hp nx 1 0 n xk xi xd) (he : endT kind s = some (n, r)) (hl : n.keys.length ≤ 60000 ∧ n.items.length ≤ 70000 ∧ n.kids.length ≤ 70001) :
    W (Ret E) c25_rrrrrrr (pureEQ [.cell 4 (some 4), .t 5] (refQ kind s)) ⟨tm, hp, nx⟩ := by
  obtain ⟨x0, hx0, hc0, hz0⟩ := hN.lend 3
  have h13 := Ret_lend (hp := hp) (nx := nx) (args := [.agg [.v (.bool n.leaf), xk, xi, xd]]) (args0 := [x0]) (by simp [hz0]) rfl (f13 n x0 hx0 (by omega) (by omega) (by omega) hnil 0)
  have h37 := fun hr => Ret_lend (hp := hp) (nx := nx) (args := [.agg [.v (.bool n.leaf), xk, xi, xd]]) (args0 := [x0]) (by simp [hz0]) rfl (f37 n x0 hx0 hr (by omega) hnil 0)
  have hN1 := hN.at'
  have hd : refS kind s = if r = [] ∧ rightS n = true ∧ contentS n = s then some n else none := by unfold refS; rw [he]
  have h0' : hp 0 = some [[.v (.bool false), .rs true 0 [] (some 0), .rs true 0 [] (some 0), .rs true 0 [] (some 0)]] := h0
  by_cases hs : r = []
  · subst hs
    simp [c25_rrrrrrr, t4, t6, t8, t1, hN1]
    refine WCall_k h13 ?_
    cases hr : rightS n
    · simp [t4, t6, t8, t1, h0', spliceL]
      refine ⟨.tup [zeroN, .v (.int .i64 11)], by simp [zeroN, frz_closed], ?_⟩
      refine ⟨fun m h => ?_, fun _ => rfl⟩
      rw [hd] at h; simp [hr] at h
    · simp [t4, t6, t8, t1, hN1]
      refine WCall_k (h37 (RightF.of hr)) ?_
      by_cases hc : contentS n = s
      · obtain ⟨k1, k2⟩ := hN.k.one
        obtain ⟨i1, i2⟩ := hN.i.one
        obtain ⟨d1, d2⟩ := hN.d.one
        simp [t4, t6, t8, t1, hc, h0', hN1, spliceL, k2, i2, d2]
        have hN2 : NH (hupd hp 0 (some [[AV.v (Value.bool n.leaf), xk, xi, xd]])) nx 1 0 n xk xi xd :=
          ⟨by simp [hN1], hN.k.keep (Nat.le_refl _) (fun q hq => by simp [show ¬ q = 0 from fun e => hN.kb.2.2 (e ▸ hq)]), hN.i.keep (Nat.le_refl _) (fun q hq => by simp [show ¬ q = 0 from fun e => hN.ib.2.2 (e ▸ hq)]),
           hN.d.keep (Nat.le_refl _) (fun q hq => by simp [show ¬ q = 0 from fun e => hN.db.2.2 (e ▸ hq)]), hN.kb, hN.ib, hN.db, hN.ki, hN.kd, hN.id'⟩
        obtain ⟨x1, hx1, hc1, hz1⟩ := hN2.lend 2
        refine ⟨.tup [x1, .v (.int .i64 0)], frz_tup (by simp [hz1]), fun m h => ?_, fun h => ?_⟩
        · rw [hd] at h; simp [hc, hr] at h; subst h
          exact ⟨x1, hx1, rfl⟩
        · rw [hd] at h; simp [hc, hr] at h
      · simp [t4, t6, t8, t1, hc, h0', spliceL]
        refine ⟨.tup [zeroN, .v (.int .i64 11)], by simp [zeroN, frz_closed], ?_⟩
        refine ⟨fun m h => ?_, fun _ => rfl⟩
        rw [hd] at h; simp [hc] at h
  · simp [c25_rrrrrrr, t4, t6, t8, t1, hs, h0', spliceL]
    refine ⟨.tup [zeroN, .v (.int .i64 11)], by simp [zeroN, frz_closed], ?_⟩
    refine ⟨fun m h => ?_, fun _ => rfl⟩
    rw [hd] at h; simp [hs] at h

abbrev refI (kind : Int) (s : List UInt8) (many : Nat) (leaf : Bool) (g : Nat × Nd × List UInt8) (st : St) : Prop :=
  g.1 ≤ many ∧ st.tm 11 = .int .i64 g.1 ∧ st.tm 10 = .int .i64 many ∧ st.tm 4 = .ptr 0 0 0 ∧ st.tm 6 = .ptr 1 0 0 ∧ st.tm 8 = .str g.2.2 ∧ st.tm 1 = .str s ∧ st.tm 0 = .int .i64 kind ∧ st.hp 0 = some [zeroN.cells] ∧ (∃ xk xi xd, NH st.hp st.nx 1 0 g.2.1 xk xi xd) ∧ 1 < st.nx ∧
    loopT (many - g.1) g.2.1 g.2.2 = endT kind s ∧ g.2.1.leaf = leaf ∧ g.2.1.keys.length ≤ g.1 ∧ g.2.1.items.length ≤ g.1 ∧ g.2.1.kids.length ≤ g.1 + 1 ∧ g.2.1.keys.length + g.2.2.length ≤ s.length

theorem takeS_len (s : List UInt8) (n : Nat) : (takeS s n).2.1.length ≤ s.length := by unfold takeS; split <;> simp
theorem itemT_len (s : List UInt8) : (itemT s).2.1.length ≤ s.length := by
  unfold itemT; split
  · split
    · split
      · simp
      · simp
    · have := takeS_len (s.drop 1) (readS (s.take 1)); simp at this ⊢; omega
  · simp

theorem f25_loop (kind : Int) (hk : kind = 1 ∨ kind = 2) (s : List UInt8) (hsl : s.length ≤ 50000) (many : Nat) (hm : many ≤ 65535) (g : Nat × Nd × List UInt8) (st : St) (h0 : refI kind s many (decide (kind = 1)) g st) :
    W (Ret E) (match c25.body with | .seq _ (.seq _ (.seq _ (.seq _ (.seq _ (.seq _ (.seq (.seq _ (.block _ l)) _)))))) => l | _ => .skip) (blkK 0 (seqK (Ret E) c25_rrrrrrr (pureEQ [.cell 4 (some 4), .t 5] (refQ kind s)))) st := by
  simp only [c25]
  refine W_loopI (I := refI kind s many (decide (kind = 1))) (fun g => many - g.1) g h0 ?_
  rintro ⟨j, n, r⟩ tm hp nx ⟨hj, t11, t10, t4, t6, t8, t1, t0, hz, ⟨xk, xi, xd, hN⟩, hnx, hlp, hlf, hl1, hl2, hl3, hl4⟩
  simp only at hj t11 t10 t4 t6 t8 t1 t0 hz hN hnx hlp hlf hl1 hl2 hl3 hl4
  have hz' : hp 0 = some [[.v (.bool false), .rs true 0 [] (some 0), .rs true 0 [] (some 0), .rs true 0 [] (some 0)]] := hz
  have fail : refS kind s = none → refQ kind s (.tup [zeroN, .v (.int .i64 11)]) := fun h => ⟨fun m h2 => (by rw [h] at h2; cases h2), fun _ => rfl⟩
  by_cases hlt : j < many
  · have hlt' : (j : Int) < (many : Int) := by omega
    have hw : IntKind.wrap .i64 ((j : Int) + 1) = (j + 1 : Nat) := by rw [wrap_id] <;> omega
    have hlp2 : (match stepT n r with | some (n', s') => loopT (many - (j + 1)) n' s' | none => none) = endT kind s := by
      rw [← hlp, show many - j = many - (j + 1) + 1 by omega]; rfl
    simp [t11, t10, t4, t6, t8, t1, t0, hlt', -Int.ofNat_lt, -Int.natCast_add, -Prod.exists]
    refine WCall_p (f49 r 1 _ _) ?_
    by_cases q1 : r.length < 1
    · have hst : stepT n r = none := by unfold stepT; rw [if_pos q1]
      have hf : refS kind s = none := by rw [hst] at hlp2; unfold refS; rw [← hlp2]
      have q1' : ¬ 1 ≤ r.length := by omega
      simp [takeS, takeA, q1', t11, t10, t4, t6, t8, t1, t0, hz', spliceL, -Prod.exists]
      exact ⟨.tup [zeroN, .v (.int .i64 11)], by simp [zeroN, frz_closed], fail hf⟩
    have q1' : 1 ≤ r.length := by omega
    simp [takeS, takeA, q1', t11, t10, t4, t6, t8, t1, t0, -Prod.exists]
    refine WCall_p (f50 _ (by simp; omega) _ _) ?_
    simp [t11, t10, t4, t6, t8, t1, t0, -Prod.exists]
    refine WCall_p (f49 _ _ _ _) ?_
    by_cases q2 : (r.drop 1).length < readS (r.take 1)
    · have hst : stepT n r = none := by unfold stepT; rw [if_neg q1, if_pos q2]
      have hf : refS kind s = none := by rw [hst] at hlp2; unfold refS; rw [← hlp2]
      have q2' : ¬ readS (r.take 1) ≤ r.length - 1 := by simp at q2; omega
      simp [takeS, takeA, q2', t11, t10, t4, t6, t8, t1, t0, hz', spliceL, -Prod.exists]
      exact ⟨.tup [zeroN, .v (.int .i64 11)], by simp [zeroN, frz_closed], fail hf⟩
    have q2' : readS (r.take 1) ≤ r.length - 1 := by simp at q2; omega
    obtain ⟨hp3, a1, a2, a3, a4⟩ := hN.k.app (bytes := 16) (new := [keyC ((r.drop 1).take (readS (r.take 1)))]) (by simp) (by simp; omega)
    have hN3 := hN.key (by omega) (by omega) _ a2 a4
    have e3 : hp3 1 = hp 1 := a4 1 (by omega) hN.kb.1
    have e3z : hp3 0 = some [zeroN.cells] := by rw [a4 0 (by omega) hN.kb.2.2]; exact hz
    have e3z' : hp3 0 = some [[.v (.bool false), .rs true 0 [] (some 0), .rs true 0 [] (some 0), .rs true 0 [] (some 0)]] := e3z
    have eN := hN.at'
    obtain ⟨i1, i2⟩ := hN.i.one
    obtain ⟨d1, d2⟩ := hN.d.one
    simp [keyC] at a1
    rcases hk with rfl | rfl
    · -- a leaf
      have hlf : n.leaf = true := by simpa using hlf
      simp [takeS, takeA, q2', t11, t10, t4, t6, t8, t1, t0, a1, e3, eN, spliceL, -Prod.exists]
      refine WCall_p (f51 _ _ _) ?_
      have hil : (itemT ((r.drop 1).drop (readS (r.take 1)))).1.cells.length = 3 := by simp [Itm.cells]
      have hic : ∀ x ∈ (itemT ((r.drop 1).drop (readS (r.take 1)))).1.cells, x.one = true := by simp [Itm.cells]
      have hdd : (r.drop 1).drop (readS (r.take 1)) = r.drop (readS (r.take 1) + 1) := by rw [List.drop_drop, Nat.add_comm]
      have hit := itemT_len ((r.drop 1).drop (readS (r.take 1)))
      have hst : stepT n r = if (itemT ((r.drop 1).drop (readS (r.take 1)))).2.2 = true then some (⟨n.leaf, n.keys ++ [(r.drop 1).take (readS (r.take 1))], n.items ++ [(itemT ((r.drop 1).drop (readS (r.take 1)))).1], n.kids⟩, (itemT ((r.drop 1).drop (readS (r.take 1)))).2.1) else none := by
        unfold stepT; rw [if_neg q1, if_neg q2, if_pos hlf]
      have hrl : ((r.drop 1).drop (readS (r.take 1))).length + 1 ≤ r.length := by simp; omega
      rw [hdd] at hil hic hst hit hrl
      generalize hI : itemT (r.drop (readS (r.take 1) + 1)) = I at *
      obtain ⟨it, rest, ok⟩ := I
      simp only at hil hic hst hit
      have hn0 : ¬ nx = 0 := by omega
      have hNA : ∀ H : Heap, (∀ q, q < nx + 1 → H q = hupd hp3 1 (some [[.v (.bool n.leaf), .sl nx 1 0 (n.keys.length + 1) none, xi, xd]]) q) → NH H (nx + 1 + 1) 1 0 ⟨n.leaf, n.keys ++ [(r.drop 1).take (readS (r.take 1))], n.items, n.kids⟩ (.sl nx 1 0 (n.keys.length + 1) none) xi xd :=
        fun H hH => hN3.keep (by omega) (by omega) ⟨by omega, fun q hq _ => hH q hq⟩
      simp [itemA, t11, t10, t4, t6, t8, t1, t0, spliceL, hil, hn0, -Prod.exists]
      refine ⟨hic, hic, ?_⟩
      refine mvE_app (hNA _ (fun q hq => ?_)).i (by simp) (by simp; omega) ?_
      · simp [show ¬ q = nx + 1 by omega]
      intro hp5 b2 b4
      have hN5 := (hNA _ (fun q hq => by simp [show ¬ q = nx + 1 by omega])).item (by omega) (by omega) it b2 b4
      have f1 : hp5 1 = some [[.v (.bool n.leaf), .sl nx 1 0 (n.keys.length + 1) none, xi, xd]] := by
        rw [b4 1 (by omega) hN3.ib.1]; simp [show ¬ 1 = nx + 1 by omega, hn0]
      have f0 : hp5 0 = some [zeroN.cells] := by
        rw [b4 0 (by omega) hN3.ib.2.1]; simp [e3z]
      have f0' : hp5 0 = some [[.v (.bool false), .rs true 0 [] (some 0), .rs true 0 [] (some 0), .rs true 0 [] (some 0)]] := f0
      cases ok
      · simp at hst
        have hf : refS 1 s = none := by rw [hst] at hlp2; unfold refS; rw [← hlp2]
        simp [t11, t10, t4, t6, t8, t1, t0, f1, f0', spliceL, -Prod.exists]
        exact ⟨.tup [zeroN, .v (.int .i64 11)], by simp [zeroN, frz_closed], fail hf⟩
      · try simp at hst
        simp [t11, t10, t4, t6, t8, t1, t0, f1, hw, spliceL, -Prod.exists, -Int.natCast_add]
        rw [hst] at hlp2
        refine ⟨(j + 1, _, _), by simp; omega, by omega, by simp, by simp [t10], by simp [t4], by simp [t6], by simp; rfl, by simp [t1], by simp [t0], by simpa using f0, ⟨_, _, _, hN5⟩, (by show 1 < nx + 1 + 1 + 1; omega), ?_, by simpa using hlf, by simp; omega, by simp; omega, by simp; omega, by simp; omega⟩
        simpa using hlp2
    · have hlf : n.leaf = false := by simpa using hlf
      simp [takeS, takeA, q2', t11, t10, t4, t6, t8, t1, t0, a1, e3, eN, spliceL, -Prod.exists]
      refine WCall_p (f49 _ _ _ _) ?_
      have hdd : (r.drop 1).drop (readS (r.take 1)) = r.drop (readS (r.take 1) + 1) := by rw [List.drop_drop, Nat.add_comm]
      have hst : stepT n r = if (r.drop (readS (r.take 1) + 1)).length < 4 then none else some (⟨n.leaf, n.keys ++ [(r.drop 1).take (readS (r.take 1))], n.items, n.kids ++ [(readS ((r.drop (readS (r.take 1) + 1)).take 4) : Int)]⟩, (r.drop (readS (r.take 1) + 1)).drop 4) := by
        unfold stepT; rw [if_neg q1, if_neg q2, if_neg (by simp [hlf]), hdd]
      have hrl : (r.drop (readS (r.take 1) + 1)).length + 1 ≤ r.length := by simp; omega
      generalize hR : r.drop (readS (r.take 1) + 1) = R at *
      have hr4 : readS (takeS R 4).1 < 281474976710656 := by
        have h1 := readS_lt (takeS R 4).1
        have h3 : (takeS R 4).1.length ≤ 4 := by unfold takeS; split <;> simp; omega
        have h2 : 256 ^ (takeS R 4).1.length ≤ 256 ^ 4 := Nat.pow_le_pow_right (by omega) h3
        omega
      simp [takeA, t11, t10, t4, t6, t8, t1, t0, spliceL, -Prod.exists]
      refine WCall_p (f50 _ (by unfold takeS; split <;> simp; omega) _ _) ?_
      have hNA : NH (hupd hp3 1 (some [[.v (.bool n.leaf), .sl nx 1 0 (n.keys.length + 1) none, xi, xd]])) (nx + 1) 1 0 ⟨n.leaf, n.keys ++ [(r.drop 1).take (readS (r.take 1))], n.items, n.kids⟩ (.sl nx 1 0 (n.keys.length + 1) none) xi xd := hN3
      rw [hlf] at hNA
      simp [t11, t10, t4, t6, t8, t1, t0, hlf, spliceL, -Prod.exists]
      refine mvE_app hNA.d (by simp) (by simp; omega) ?_
      intro hp5 b2 b4
      have hN5 := hNA.kid (by omega) (by omega) ((readS (takeS R 4).1 : Nat) : Int) b2 b4
      have f1 : hp5 1 = some [[.v (.bool false), .sl nx 1 0 (n.keys.length + 1) none, xi, xd]] := by
        rw [b4 1 (by omega) hNA.db.1]; simp
      have f0 : hp5 0 = some [zeroN.cells] := by
        rw [b4 0 (by omega) hNA.db.2.1]; simp [e3z]
      have f0' : hp5 0 = some [[.v (.bool false), .rs true 0 [] (some 0), .rs true 0 [] (some 0), .rs true 0 [] (some 0)]] := f0
      by_cases q3 : R.length < 4
      · rw [if_pos q3] at hst
        have hf : refS 2 s = none := by rw [hst] at hlp2; unfold refS; rw [← hlp2]
        have q3' : ¬ 4 ≤ R.length := by omega
        simp [takeS, q3', t11, t10, t4, t6, t8, t1, t0, f1, f0', spliceL, -Prod.exists]
        exact ⟨.tup [zeroN, .v (.int .i64 11)], by simp [zeroN, frz_closed], fail hf⟩
      · rw [if_neg q3] at hst
        have q3' : 4 ≤ R.length := by omega
        have hts : takeS R 4 = (R.take 4, R.drop 4, true) := by unfold takeS; rw [if_pos q3']
        rw [hts] at hN5
        simp [takeS, q3', t11, t10, t4, t6, t8, t1, t0, f1, hw, spliceL, -Prod.exists, -Int.natCast_add]
        rw [hst] at hlp2
        simp only [hlf] at hlp2
        refine ⟨(j + 1, _, _), by simp; omega, by omega, by simp, by simp [t10], by simp [t4], by simp [t6], by simp; rfl, by simp [t1], by simp [t0], by simpa using f0, ⟨_, _, _, hN5⟩, (by show 1 < nx + 1 + 1; omega), ?_, by simp, by simp; omega, by simp; omega, by simp; omega, by simp; omega⟩
        simpa using hlp2
  · have hlt' : ¬ (j : Int) < (many : Int) := by omega
    have h0 : many - j = 0 := by omega
    rw [h0] at hlp
    simp [t11, t10, t4, t6, t8, t1, t0, hlt', -Int.ofNat_lt]
    exact f25_tail kind s _ hp nx n r xk xi xd (by simp [t1]) (by simp [t4]) (by simp [t6]) (by simp [t8]) hz hN hlp.symm ⟨by omega, by omega, by omega⟩
end Go.Ai
