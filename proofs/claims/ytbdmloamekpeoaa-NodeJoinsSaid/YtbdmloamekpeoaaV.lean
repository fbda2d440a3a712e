/- Decode, walked. -/
import Derived.Test.YtbdmloamekpeoaaU
namespace Go.Ai
set_option linter.unusedVariables false
set_option linter.unusedSimpArgs false

theorem NH.lend {hp : Heap} {nx b w : Nat} {n : Nd} {xk xi xd : AV} (h : NH hp nx b w n xk xi xd) (k : Nat) : ∃ x0, NdA n x0 ∧ x0.closed = true ∧ frz (k + 3) hp (.agg [.v (.bool n.leaf), xk, xi, xd]) = some x0 := by
  obtain ⟨n1, z1, c1, e1, g1⟩ := frz_own (k := k) h.k closed_keys
  obtain ⟨n2, z2, c2, e2, g2⟩ := frz_own (k := k) h.i closed_items
  obtain ⟨n3, z3, c3, e3, g3⟩ := frz_own (k := k) h.d closed_kids
  refine ⟨.agg [.v (.bool n.leaf), .rs n1 z1 (n.keys.map keyC) c1, .rs n2 z2 (n.items.map Itm.cells) c2, .rs n3 z3 (n.kids.map kidC) c3], ⟨_, _, _, rfl, ⟨_, _, _, rfl, g1⟩, ⟨_, _, _, rfl, g2⟩, ⟨_, _, _, rfl, g3⟩⟩, by simp, ?_⟩
  exact frz_agg (by simp [e1, e2, e3, frz_closed])

theorem stepR_leaf (n : Nd) (r : RS) : (stepR n r).1.leaf = n.leaf := by unfold stepR; split <;> rfl

/-- A node's place, a loop's round: a key's slice grown. -/
theorem OwnS.keep' {hp hp' : Heap} {nx nx' sz : Nat} {es : Blk} {x : AV} (h : OwnS hp nx sz es x) (hn : nx ≤ nx') (hk : ∀ r ∈ slB x, r < nx → hp' r = hp r) : OwnS hp' nx' sz es x :=
  h.keep hn fun r hr => hk r hr (h.lt r hr)

def zeroN : AV := .agg [.v (.bool false), .rs true 0 [] (some 0), .rs true 0 [] (some 0), .rs true 0 [] (some 0)]
def decQ (kind : Int) (s : List UInt8) (v : AV) : Prop :=
  (∀ n, decS kind s = some n → ∃ y, NdA n y ∧ v = .tup [y, .v (.int .i64 0)]) ∧ (decS kind s = none → v = .tup [zeroN, .v (.int .i64 11)])

theorem decS_eq {kind : Int} (hk : kind = 1 ∨ kind = 2) (s : List UInt8) : decS kind s = if (endR kind s).2.2 = true ∨ (endR kind s).2.1 ≠ [] ∨ rightS (endR kind s).1 = false then none else some (endR kind s).1 := by
  unfold decS
  rw [if_neg]
  rcases hk with rfl | rfl <;> simp

theorem f24_tail (kind : Int) (hk : kind = 1 ∨ kind = 2) (s : List UInt8) (tm : Nat → AV) (hp : Heap) (nx : Nat) (n : Nd) (r : RS) (xk xi xd : AV) (t4 : tm 4 = .ptr 0 0 0) (t6 : tm 6 = .ptr 1 0 0) (t7 : tm 7 = .ptr 2 0 0)
    (h0 : hp 0 = some [zeroN.cells]) (hN : NH hp nx 1 2 n xk xi xd) (hR : RD hp 2 r) (he : endR kind s = (n, r)) (hl : n.keys.length ≤ 70000 ∧ n.items.length ≤ 70000 ∧ n.kids.length ≤ 70001) :
    W (Ret E) c24_rrrrrrr (pureEQ [.cell 4 (some 4), .t 5] (decQ kind s)) ⟨tm, hp, nx⟩ := by
  obtain ⟨x0, hx0, hc0, hz0⟩ := hN.lend 3
  have h12 := Ret_lend (hp := hp) (nx := nx) (args := [.agg [.v (.bool n.leaf), xk, xi, xd]]) (args0 := [x0]) (by simp [hz0]) rfl (f12 n x0 hx0 (by omega) (by omega) (by omega) hnil 0)
  have hR' : hp 2 = some [[.str r.1, .v (.bool r.2)]] := hR
  have hN1 := hN.at'
  have hd := decS_eq hk s
  rw [he] at hd
  obtain ⟨s1, bad⟩ := r
  simp only at hR' hd
  have h0' : hp 0 = some [[.v (.bool false), .rs true 0 [] (some 0), .rs true 0 [] (some 0), .rs true 0 [] (some 0)]] := h0
  cases bad
  · by_cases hs : s1 = []
    · simp [c24_rrrrrrr, t4, t6, t7, hR', hs, hN1]
      refine WCall_k h12 ?_
      cases hr : rightS n
      · simp [t4, t6, t7, h0', spliceL]
        refine ⟨.tup [zeroN, .v (.int .i64 11)], by simp [zeroN, frz_closed], ?_⟩
        refine ⟨fun m h => ?_, fun _ => rfl⟩
        rw [hd] at h; simp [hs, hr] at h
      · obtain ⟨k1, k2⟩ := hN.k.one
        obtain ⟨i1, i2⟩ := hN.i.one
        obtain ⟨d1, d2⟩ := hN.d.one
        have hN1' : hp 1 = some [[AV.v (Value.bool n.leaf), xk, xi, xd]] := hN1
        simp [t4, t6, t7, h0', hN1', spliceL, k2, i2, d2]
        have hN2 : NH (hupd hp 0 (some [[AV.v (Value.bool n.leaf), xk, xi, xd]])) nx 1 2 n xk xi xd :=
          ⟨by simp [hN1], hN.k.keep (Nat.le_refl _) (fun q hq => by simp [show ¬ q = 0 from fun e => hN.kb.2.2 (e ▸ hq)]), hN.i.keep (Nat.le_refl _) (fun q hq => by simp [show ¬ q = 0 from fun e => hN.ib.2.2 (e ▸ hq)]),
           hN.d.keep (Nat.le_refl _) (fun q hq => by simp [show ¬ q = 0 from fun e => hN.db.2.2 (e ▸ hq)]), hN.kb, hN.ib, hN.db, hN.ki, hN.kd, hN.id'⟩
        obtain ⟨x1, hx1, hc1, hz1⟩ := hN2.lend 2
        refine ⟨.tup [x1, .v (.int .i64 0)], frz_tup (by simp [hz1]), fun m h => ?_, fun h => ?_⟩
        · rw [hd] at h; simp [hs, hr] at h; subst h
          exact ⟨x1, hx1, rfl⟩
        · rw [hd] at h; simp [hs, hr] at h
    · simp [c24_rrrrrrr, t4, t6, t7, hR', hs, h0', spliceL]
      refine ⟨.tup [zeroN, .v (.int .i64 11)], by simp [zeroN, frz_closed], ?_⟩
      refine ⟨fun m h => ?_, fun _ => rfl⟩
      rw [hd] at h; simp [hs] at h
  · simp [c24_rrrrrrr, t4, t6, t7, hR', h0', spliceL]
    refine ⟨.tup [zeroN, .v (.int .i64 11)], by simp [zeroN, frz_closed], ?_⟩
    refine ⟨fun m h => ?_, fun _ => rfl⟩
    rw [hd] at h; simp at h
end Go.Ai
