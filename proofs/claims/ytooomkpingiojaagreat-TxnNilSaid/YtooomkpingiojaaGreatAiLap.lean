/- slices.overlaps at two blocks: the model's own entry. -/
import Derived.Test.YtooomkpingiojaaGreatAiCode
import Derived.Lib.Overlaps
namespace Go.Ai
set_option linter.unusedVariables false
set_option linter.unusedSimpArgs false

/-- A literal on plain memory, and a slice of another block: they are apart. -/
def LapRel (fs : Nat → Bool) : CallRel := fun f args hp nx v hp' nx' k =>
  fs f = true ∧ k = .e ∧ hp' = hp ∧ nx' = nx ∧ v = .v (.bool false) ∧ ∃ (q sz m r j l : Nat) (c c' : Option Nat) (t : TypeId) (es er : Blk),
    args = [.sl q sz 0 m c, .sl r sz j l c'] ∧ q ≠ r ∧ hp q = some es ∧ hp (q + 1) = some [[.ty t 0], []] ∧ hp r = some er ∧ 0 < m ∧ 0 < l ∧ 0 < sz
def LapOk (P : Program) (fs : Nat → Bool) : Prop := ∀ f, fs f = true → ∃ (fn : Func) (tS tR e : TypeId) (size : Nat), P.funcs[f]? = some fn ∧ (fn.name == "runtime.NumGoroutine") = false ∧ fn.body.isNone = true ∧ Extern.findNext fn = none ∧
  P.underlying tS = some (.slice e) ∧ (∀ w, (Go.sizeOf e).run P w = .ok size w) ∧ Extern.find fn = some (Extern.SlicesOverlaps.overlaps #[tS, tS] #[tR])

theorem lap_sound {P : Program} {fs : Nat → Bool} (hk : LapOk P fs) : RelSound P (LapRel fs) := by
  refine ⟨fun f args hp nx v hp' nx' k h => .inr h.2.1, (fun f args hp nx v hp' nx' h => nomatch h.2.1), ?_⟩
  rintro f args hp nx v hp' nx' k ⟨hf, rfl, rfl, rfl, rfl, q, sz, m, r, j, l, c1, c2, t, es, er, rfl, hqr, h1, h2, h3, hm, hl, hsz⟩ c cargs hc hrel hargs
  subst hc
  obtain ⟨fn, tS, tR, e, size, g1, g2, g3, g4, g5, g6, g7⟩ := hk f hf
  obtain ⟨u, u2, rfl⟩ : ∃ u u2, cargs = #[u, u2] := by
    obtain ⟨x⟩ := cargs
    match x, hargs.1 with
    | [u, u2], _ => exact ⟨u, u2, rfl⟩
  have e1 := hargs.2 0 _ u rfl rfl
  have e2 := hargs.2 1 _ u2 rfl rfl
  cases e1 with
  | @sl _ _ _ _ n1 _ p1 a1 ι1 s1 ha1 hl1 _ hN1 _ hm1 =>
    cases e2 with
    | @sl _ _ _ _ n2 _ p2 a2 ι2 s2 ha2 hl2 _ hN2 _ hm2 =>
      obtain ⟨p, cs, fz, k1, k2, k3⟩ := hrel.ty.2 q t h2
      rw [ι1] at k1; cases k1
      have k4 := k3 (by rw [h1]; simp)
      subst k4
      obtain ⟨_, cs2, e2, fz2, m1, m2, _, _⟩ := hrel.cells h3 ι2 hm2
      have a1' := ha1 (by omega)
      have a2' := ha2 (by omega)
      subst a1'; subst a2'
      have hB : p1.B ≠ p2.B := fun h => hqr (hrel.inj q r p1 p2 (by rw [h1]; simp) (by rw [h3]; simp) ι1 ι2 h)
      have hk2 : cs2.size ≠ 0 := by
        have := hN2 (by omega)
        have h8 : 1 * 1 ≤ (j + n2) * sz := Nat.mul_le_mul (by omega) hsz
        omega
      have hrun := Lib.run_overlaps_apart (P := P) c.w tS tR e g5 size g6 ⟨p1.B, p1.O + 0 * sz, none⟩ ⟨p2.B, p2.O + j * sz, none⟩ m n1 l n2 hB t e2 cs.size cs2.size
        (by simp [World.shape?, k2]) (by simp [World.shape?, m1]) hk2 (by simp [World.frozen?, k2]) (by simp [World.frozen?, k2])
      refine .inr ⟨.bool false, c.w, ?_, _, c.ι, rfl, (fun h => nomatch h), Ext.refl c, hrel, .v _⟩
      rw [run_callFunc_extern g1 g2 g3 g4 g7, hrun]; rfl
end Go.Ai
