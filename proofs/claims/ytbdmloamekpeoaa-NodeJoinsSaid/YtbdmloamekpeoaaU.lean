/- Decode. -/
import Derived.Test.YtbdmloamekpeoaaT
namespace Go.Ai
set_option linter.unusedVariables false
set_option linter.unusedSimpArgs false

theorem f48 (r : RS) (hp : Heap) (nx w : Nat) (hw : w < nx) (h : RD hp w r) :
    ∃ hp' nx', Ret E 48 [.ptr w 0 0] hp nx (.agg (itemR r).1.cells) hp' nx' .e ∧ RD hp' w (itemR r).2 ∧ Stay (· = w) hp nx hp' nx' := by
  have main := Ret_genE (P := fun v hp' nx' => v = .agg (itemR r).1.cells ∧ RD hp' w (itemR r).2 ∧ Stay (· = w) hp nx hp' nx') e48 (args := [.ptr w 0 0]) rfl (hp := hp) (nx := nx) ?_
  · obtain ⟨v, hp', nx', h1, rfl, h2⟩ := main
    exact ⟨hp', nx', h1, h2⟩
  · have hst0 : Stay (· = w) hp nx (hupd hp nx (some [[.str [], .v (.int .i64 0), .v (.int .i64 0)]])) (nx + 1) := ⟨by omega, fun q hq _ => by simp [show ¬ q = nx by omega]⟩
    have hrd0 : RD (hupd hp nx (some [[.str [], .v (.int .i64 0), .v (.int .i64 0)]])) w r := by simp only [RD, hupd_apply, show ¬ w = nx by omega, if_false]; exact h
    obtain ⟨hp1, nx1, r1, r2, r3⟩ := f46 r 1 (by omega) _ (nx + 1) w (by omega) hrd0
    have hb1 : hp1 nx = some [[.str [], .v (.int .i64 0), .v (.int .i64 0)]] := by rw [r3.keep nx (by omega) (by omega)]; simp
    have hn1 := r3.le
    simp [c48]
    refine WCall_k r1 ?_
    simp
    by_cases h255 : (numR r 1).1 = 255
    · have h255' : ((numR r 1).1 : Int) = 255 := by omega
      obtain ⟨hp2, nx2, u1, u2, u3⟩ := f46 _ 4 (by omega) _ nx1 w (by omega) r2
      have hn2 := u3.le
      have hb2 : hp2 nx = some [[.str [], .v (.int .i64 0), .v (.int .i64 0)]] := by rw [u3.keep nx (by omega) (by omega), hb1]
      obtain ⟨hp3, nx3, v1, v2, v3⟩ := f46 _ 4 (by omega) _ nx2 w (by omega) u2
      have hn3 := v3.le
      have hb3 : hp3 nx = some [[.str [], .v (.int .i64 0), .v (.int .i64 0)]] := by rw [v3.keep nx (by omega) (by omega), hb2]
      have hw3 : hp3 w = some [[.str (numR (numR (numR r 1).2 4).2 4).2.1, .v (.bool (numR (numR (numR r 1).2 4).2 4).2.2)]] := v2
      simp [h255']
      refine WCall_k u1 ?_
      simp
      refine WCall_k v1 ?_
      have hwn : ¬ w = nx3 := by omega
      have hnn : ¬ nx = nx3 := by omega
      have hwx : ¬ w = nx := by omega
      have hst : Stay (· = w) hp nx hp3 nx3 := ((hst0.trans r3).trans u3).trans v3
      have hwn' : ¬ nx3 = w := by omega
      have hxw : ¬ nx = w := by omega
      cases hbad : (numR (numR (numR r 1).2 4).2 4).2.2 <;> by_cases hz : (numR (numR r 1).2 4).1 = 0 <;>
        (simp [hwn, hnn, hwx, hxw, hwn', hw3, hb3, spliceL, hbad, hz]
         refine ⟨?_, ?_, ?_⟩
         · simp [itemR, h255, Itm.cells, hz]
         · simp [RD, itemR, h255, hbad, hz, hwx, hwn]
         · refine ⟨by omega, fun q hq hqw => ?_⟩
           have hqw : q ≠ w := hqw
           simp [show ¬ q = nx by omega, show ¬ q = nx3 by omega, hqw]
           exact hst.keep q hq hqw)
    · have h255' : ¬ ((numR r 1).1 : Int) = 255 := by omega
      obtain ⟨hp2, u1, u2, u3⟩ := f47 (numR r 1).2 (numR r 1).1 hp1 nx1 w r2
      have hb2 : hp2 nx = some [[.str [], .v (.int .i64 0), .v (.int .i64 0)]] := by rw [u3.keep nx (by omega) (by omega), hb1]
      simp [h255']
      refine WCall_k u1 ?_
      have hwx : ¬ w = nx := by omega
      simp [hb2, spliceL]
      have hst : Stay (· = w) hp nx hp2 nx1 := ((hst0.trans r3).trans u3)
      refine ⟨by simp [itemR, h255, Itm.cells], by simp [RD, itemR, h255, hwx]; exact u2, ⟨hst.le, fun q hq hqw => ?_⟩⟩
      simp [show ¬ q = nx by omega]
      exact hst.keep q hq hqw

def stepR (n : Nd) (r : RS) : Nd × RS :=
  if n.leaf then (⟨n.leaf, n.keys ++ [(bytesR (numR r 1).2 (numR r 1).1).1], n.items ++ [(itemR (bytesR (numR r 1).2 (numR r 1).1).2).1], n.kids⟩, (itemR (bytesR (numR r 1).2 (numR r 1).1).2).2)
  else (⟨n.leaf, n.keys ++ [(bytesR (numR r 1).2 (numR r 1).1).1], n.items, n.kids ++ [((numR (bytesR (numR r 1).2 (numR r 1).1).2 4).1 : Int)]⟩, (numR (bytesR (numR r 1).2 (numR r 1).1).2 4).2)
def loopR : Nat → Nd → RS → Nd × RS
  | 0, n, r => (n, r)
  | m + 1, n, r => if r.2 then (n, r) else loopR m (stepR n r).1 (stepR n r).2
theorem loopR_bad {m : Nat} {n : Nd} {r : RS} (h : r.2 = true) : loopR m n r = (n, r) := by
  cases m
  · rfl
  · simp [loopR, h]
def startR (kind : Int) (r : RS) : Nd × RS := if kind = 1 then (⟨true, [], [], []⟩, r) else (⟨false, [], [], [((numR r 4).1 : Int)]⟩, (numR r 4).2)
def endR (kind : Int) (s : List UInt8) : Nd × RS := loopR (numR (s, false) 2).1 (startR kind (numR (s, false) 2).2).1 (startR kind (numR (s, false) 2).2).2
def decS (kind : Int) (s : List UInt8) : Option Nd :=
  if kind ≠ 1 ∧ kind ≠ 2 then none
  else if (endR kind s).2.2 = true ∨ (endR kind s).2.1 ≠ [] ∨ rightS (endR kind s).1 = false then none else some (endR kind s).1

/-- A node under way. -/
structure NH (hp : Heap) (nx b w : Nat) (n : Nd) (xk xi xd : AV) : Prop where
  at' : hp b = some [[.v (.bool n.leaf), xk, xi, xd]]
  k : OwnS hp nx 1 (n.keys.map keyC) xk
  i : OwnS hp nx 3 (n.items.map Itm.cells) xi
  d : OwnS hp nx 1 (n.kids.map kidC) xd
  kb : b ∉ slB xk ∧ w ∉ slB xk ∧ 0 ∉ slB xk
  ib : b ∉ slB xi ∧ w ∉ slB xi ∧ 0 ∉ slB xi
  db : b ∉ slB xd ∧ w ∉ slB xd ∧ 0 ∉ slB xd
  ki : ∀ q ∈ slB xk, q ∉ slB xi
  kd : ∀ q ∈ slB xk, q ∉ slB xd
  id' : ∀ q ∈ slB xi, q ∉ slB xd
theorem NH.keep {hp hp' : Heap} {nx nx' b w : Nat} {n : Nd} {xk xi xd : AV} (h : NH hp nx b w n xk xi xd) (hb : b ≠ w) (hb2 : b < nx) (hs : Stay (· = w) hp nx hp' nx') : NH hp' nx' b w n xk xi xd :=
  ⟨by rw [hs.keep b hb2 hb, h.at'], h.k.keep hs.le fun r hr => hs.keep r (h.k.lt r hr) (fun e => h.kb.2.1 (e ▸ hr)), h.i.keep hs.le fun r hr => hs.keep r (h.i.lt r hr) (fun e => h.ib.2.1 (e ▸ hr)),
   h.d.keep hs.le fun r hr => hs.keep r (h.d.lt r hr) (fun e => h.db.2.1 (e ▸ hr)), h.kb, h.ib, h.db, h.ki, h.kd, h.id'⟩
end Go.Ai
