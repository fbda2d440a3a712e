/- The pure operations, continued: cuts, places, parts. -/
import Derived.Test.YtooomkpingiojaaGreatAiOpsP
namespace Go.Ai
set_option linter.unusedVariables false
set_option linter.unusedSimpArgs false

theorem add_addr (b o n : Nat) : (⟨b, o, none⟩ : Addr).add n = ⟨b, o + n, none⟩ := by
  unfold Addr.add; split <;> simp_all

theorem slice_sl_run {P : Program} {c : Cx} {t e : TypeId} {i : TypeInfo} {r sz j len : Nat} {cap : Option Nat} {u : Value} {lo hi mx : Option AV} {clo chi cmx : Option Value} {v : AV}
    (ht : P.underlying t = some (.slice e)) (hi' : P.info? e = some i) (hv : VRel c (.sl r sz j len cap) u)
    (hlo : ORel c lo clo) (hhi : ORel c hi chi) (hmx : ORel c mx cmx) (h : sliceA i.size (.sl r sz j len cap) lo hi mx = some v) :
    ∃ u', (Instr.sliceAt t u clo chi cmx).run P c.w = .ok u' c.w ∧ VRel c v u' := by
  cases hv with
  | sl hι hs ha hl hcap hN hE hpm =>
    rename_i n p a
    unfold sliceA at h
    dsimp only at h
    split at h
    · rename_i hsz
      split at h
      · rename_i l h' m hb
        simp only [Option.some.injEq] at h; subst h
        have htop : cap.getD len ≤ n := by
          cases cap with
          | none => exact hl
          | some k => have := hcap k rfl; simp; omega
        obtain ⟨hrun, hlh, hhm, hmt⟩ := bounds_run (P := P) (isS := true) hlo hhi hmx htop hb
        have hmn : m.getD n ≤ n := by
          cases m with
          | none => exact Nat.le_refl _
          | some k => have := hmt k rfl; simp; omega
        have hhm' : h' ≤ m.getD n := by
          rcases hhm with hh | ⟨hh, hm⟩
          · cases m with
            | none => simp at hh ⊢; omega
            | some k => simpa using hh
          · subst hm; simp; omega
        refine ⟨.slice (if m.getD n = l then some a else (some a).map (·.add (l * i.size))) (h' - l) (m.getD n - l), ?_, ?_⟩
        · simp only [Instr.sliceAt, Instr.slice, Sem.run_bind, run_underlying ht, Result.andThen_ok, hrun]
          simp [sizeOf, typeInfo, hi']
        · have key : VRel c (.sl r sz (j + l) (h' - l) (capCut m l cap)) (.slice (some (if m.getD n = l then a else a.add (l * i.size))) (h' - l) (m.getD n - l)) := by
            refine .sl hι hs ?_ (by omega) ?_ ?_ ?_ hpm
            · intro hne
              have hne' : m.getD n ≠ l := by omega
              rw [if_neg hne', ha (by omega), ← hsz, add_addr]
              simp only [Addr.mk.injEq, true_and, and_true]
              rw [Nat.add_mul, Nat.add_assoc]
            · intro k hk
              unfold capCut at hk
              cases m with
              | some m => simp at hk ⊢; exact hk.symm
              | none =>
                simp only [Option.map_eq_some_iff] at hk
                obtain ⟨k', hk', rfl⟩ := hk
                simp [hcap k' hk']
            · intro hne
              have := hN (by omega)
              refine Nat.le_trans ?_ this
              apply Nat.add_le_add_left
              apply Nat.mul_le_mul_right
              omega
            · intro hne
              unfold capCut at hne
              cases m with
              | some m => simp at hne
              | none =>
                simp only [Option.map_eq_none_iff] at hne
                rw [← hE hne]
                have hln : l ≤ n := by simp at hhm'; omega
                simp only [Option.getD_none]
                congr 2; omega
          have hite : (if m.getD n = l then some a else (some a).map (·.add (l * i.size))) = some (if m.getD n = l then a else a.add (l * i.size)) := by split <;> rfl
          rw [hite]; exact key
      · simp at h
    · simp at h

theorem slice_rs_run {P : Program} {c : Cx} {t e : TypeId} {i : TypeInfo} {nil : Bool} {sz : Nat} {es : List (List AV)} {cap : Option Nat} {u : Value} {lo hi mx : Option AV} {clo chi cmx : Option Value} {v : AV}
    (ht : P.underlying t = some (.slice e)) (hi' : P.info? e = some i) (hv : VRel c (.rs nil sz es cap) u)
    (hlo : ORel c lo clo) (hhi : ORel c hi chi) (hmx : ORel c mx cmx) (h : sliceA i.size (.rs nil sz es cap) lo hi mx = some v) :
    ∃ u', (Instr.sliceAt t u clo chi cmx).run P c.w = .ok u' c.w ∧ VRel c v u' := by
  unfold sliceA at h
  dsimp only at h
  split at h
  · rename_i hsz
    split at h
    · rename_i l h' m hb
      simp only [Option.some.injEq] at h; subst h
      cases hv with
      | nil hcap =>
        obtain ⟨hrun, hlh, hhm, hmt⟩ := bounds_run (P := P) (isS := true) (cap := 0) hlo hhi hmx (Nat.le_refl _) hb
        have hm0 : m.getD 0 = 0 := by
          cases m with
          | none => rfl
          | some k => exact Nat.le_zero.1 (hmt k rfl)
        have hh0 : h' = 0 := by
          rcases hhm with hh | ⟨hh, hm⟩
          · have h2 : h' ≤ m.getD 0 := hh; omega
          · simpa using hh
        have hl0 : l = 0 := by omega
        subst hh0; subst hl0
        refine ⟨.slice none 0 0, ?_, ?_⟩
        · have hrun' : (Instr.sliceBounds true 0 0 clo chi cmx).run P c.w = .ok (0, 0, m.getD 0) c.w := hrun
          simp only [Instr.sliceAt, Instr.slice, Sem.run_bind, run_underlying ht, Result.andThen_ok, hrun']
          simp [sizeOf, typeInfo, hi', hm0]
        · simp only [List.take_nil, List.drop_nil]
          refine .nil ?_
          intro k hk
          unfold capCut at hk
          cases m with
          | some m => simp at hk hm0; omega
          | none =>
            simp only [Option.map_eq_some_iff] at hk
            obtain ⟨k', hk', rfl⟩ := hk
            simp [hcap k' hk']
      | rs g hlen hl hcap hes hro hc hvv =>
        rename_i n len a
        have hsz' : sz = i.size := by simpa using hsz
        have htop : es.length ≤ n := by omega
        obtain ⟨hrun, hlh, hhm, hmt⟩ := bounds_run (P := P) (isS := true) hlo hhi hmx htop hb
        have hmn : m.getD n ≤ n := by
          cases m with
          | none => exact Nat.le_refl _
          | some k => have := hmt k rfl; simp; omega
        have hhe : h' ≤ es.length := by
          rcases hhm with hh | ⟨hh, hm⟩
          · cases m with
            | none => simpa using hh
            | some k => have := hmt k rfl; simp at hh; omega
          · omega
        have hhm' : h' ≤ m.getD n := by
          rcases hhm with hh | ⟨hh, hm⟩
          · cases m with
            | none => simp at hh ⊢; omega
            | some k => simpa using hh
          · subst hm; simp; omega
        refine ⟨.slice (if m.getD n = l then some a else (some a).map (·.add (l * i.size))) (h' - l) (m.getD n - l), ?_, ?_⟩
        · rw [← hlen]
          simp only [Instr.sliceAt, Instr.slice, Sem.run_bind, run_underlying ht, Result.andThen_ok, hrun]
          simp [sizeOf, typeInfo, hi']
        · have hget : ∀ (k : Nat) (x : List AV), ((es.take h').drop l)[k]? = some x → es[l + k]? = some x ∧ l + k < h' := by
            intro k x hk
            rw [List.getElem?_drop, List.getElem?_take] at hk
            split at hk
            · exact ⟨hk, by assumption⟩
            · simp at hk
          have key : VRel c (.rs false sz ((es.take h').drop l) (capCut m l cap)) (.slice (some (if m.getD n = l then a else a.add (l * i.size))) (h' - l) (m.getD n - l)) := by
            refine .rs (fun k j => g (l + k) j) (by simp; omega) (by omega) ?_ ?_ ?_ ?_ ?_
            · intro k hk
              unfold capCut at hk
              cases m with
              | some m => simp at hk ⊢; exact hk.symm
              | none =>
                simp only [Option.map_eq_some_iff] at hk
                obtain ⟨k', hk', rfl⟩ := hk
                simp [hcap k' hk']
            · exact fun k x hk => hes _ _ (hget k x hk).1
            · intro hne
              have : es ≠ [] := by rintro rfl; simp at hne
              obtain ⟨h1, h2⟩ := hro this
              split
              · exact ⟨h1, h2⟩
              · unfold Addr.add; split
                · exact ⟨h1, h2⟩
                · exact ⟨h1, rfl⟩
            · intro k j x av h1 h2
              obtain ⟨h3, h4⟩ := hget k x h1
              have hne : m.getD n ≠ l := by omega
              rw [if_neg hne]
              have h5 := hc (l + k) j x av h3 h2
              have h6 : ((a.add (l * i.size)).block = a.block) ∧ ((a.add (l * i.size)).off = a.off + l * sz) := by
                unfold Addr.add; split
                · rename_i h0; rw [hsz', h0]; simp
                · rw [hsz']; simp
              rw [h6.1, h6.2, show a.off + l * sz + k * sz + j = a.off + (l + k) * sz + j by rw [Nat.add_mul]; omega]
              exact h5
            · exact fun k j x av h1 h2 => hvv (l + k) j x av (hget k x h1).1 h2
          have hite : (if m.getD n = l then some a else (some a).map (·.add (l * i.size))) = some (if m.getD n = l then a else a.add (l * i.size)) := by split <;> rfl
          rw [hite]; exact key
    · simp at h
  · simp at h

theorem slice_str_run {P : Program} {c : Cx} {t : TypeId} {s : List UInt8} {lo hi : Option AV} {clo chi : Option Value} {v : AV}
    (ht : P.underlying t = some .string)
    (hlo : ORel c lo clo) (hhi : ORel c hi chi) (h : sliceStr (.str s) lo hi = some v) :
    ∃ u', (Instr.sliceAt t (.string ⟨s.toArray⟩) clo chi none).run P c.w = .ok u' c.w ∧ VRel c v u' := by
  unfold sliceStr at h
  dsimp only at h
  split at h
  · rename_i l h' m hb
    simp only [Option.some.injEq] at h; subst h
    obtain ⟨hrun, hlh, hhm, hmt⟩ := bounds_run (P := P) (isS := false) hlo hhi .none (Nat.le_refl _) hb
    refine ⟨.string ((⟨s.toArray⟩ : ByteArray).extract l h'), ?_, ?_⟩
    · have hsz : (⟨s.toArray⟩ : ByteArray).size = s.length := by simp [ByteArray.size]
      simp only [Instr.sliceAt, Instr.slice, Sem.run_bind, run_underlying ht, Result.andThen_ok, hsz, hrun]
      simp [hrun]
    · have := rel_str c ((⟨s.toArray⟩ : ByteArray).extract l h')
      rw [Lib.extract_data] at this
      simpa [List.drop_take] using this
  · simp at h

theorem VRel.agg_inv {c : Cx} {cs : List AV} {u : Value} (h : VRel c (.agg cs) u) : ∃ us, u = .agg us ∧ cs.length = us.size ∧ ∀ (k : Nat) (av : AV) (x : Value), cs[k]? = some av → us[k]? = some x → VRel c av x := by
  cases h with
  | agg hl hv => exact ⟨_, rfl, hl, hv⟩

theorem VRel.tup_inv {c : Cx} {cs : List AV} {u : Value} (h : VRel c (.tup cs) u) : ∃ us, u = .tuple us ∧ cs.length = us.size ∧ ∀ (k : Nat) (av : AV) (x : Value), cs[k]? = some av → us[k]? = some x → VRel c av x := by
  cases h with
  | tup hl hv => exact ⟨_, rfl, hl, hv⟩

/-- Lists of cells, one by one. -/
def LRel (c : Cx) (x : List AV) (y : List Value) : Prop := x.length = y.length ∧ ∀ (k : Nat) (av : AV) (u : Value), x[k]? = some av → y[k]? = some u → VRel c av u

theorem cells_rel {c : Cx} {x : AV} {u : Value} (h : VRel c x u) (hx : ∀ y, x ≠ .v (.agg y)) : LRel c x.cells u.cells.toList := by
  have one : ∀ {x : AV} {u : Value}, VRel c x u → LRel c [x] [u] := fun h => ⟨rfl, fun k av w h1 h2 => by
    cases k with
    | zero => simp at h1 h2; subst h1; subst h2; exact h
    | succ k => simp at h1⟩
  cases h with
  | agg hl hv => exact ⟨by simpa [AV.cells, Value.cells] using hl, fun k av w h1 h2 => hv k av w h1 (by simpa [Value.cells] using h2)⟩
  | v =>
    cases u <;> first | exact one (.v _) | exact absurd rfl (hx _)
  | str l => exact one (.str l)
  | ptr h hpm => exact one (.ptr h hpm)
  | mp h hpm => exact one (.mp h hpm)
  | it h h' hr hm hm' hmr e1 e2 e3 e4 => exact one (.it h h' hr hm hm' hmr e1 e2 e3 e4)
  | stm h hr hm hmr e1 hs => exact one (.stm h hr hm hmr e1 hs)
  | rp g a b d => exact one (.rp g a b d)
  | sl a b d e f g h hpm => exact one (.sl a b d e f g h hpm)
  | nil h => exact one (.nil h)
  | rs g a b d e f g h => exact one (.rs _ a b d e f g h)
  | tup a b => exact one (.tup a b)
  | fn a b d e => exact one (.fn a b d e)
  | ifc h => exact one (.ifc h)

end Go.Ai
