/- Functions of the library without a Go body, as the model's own entries do them. -/
import Derived.Test.YtcnaelknemednaaDoorAiCode
import Derived.Lib.Bytealg
import Derived.Lib.MakeNoZero
namespace Go.Ai
set_option linter.unusedVariables false
set_option linter.unusedSimpArgs false

/-- What such a function does. -/
inductive ExtK where
  | same
  | idxb
  | mkb (t : TypeId)

def ExtRel (k : Nat → Option ExtK) : CallRel := fun f args hp nx v hp' nx' kd =>
  match k f with
    | some .same => kd = .p ∧ hp' = hp ∧ nx' = nx ∧ args = [v]
    | some .idxb => kd = .p ∧ hp' = hp ∧ nx' = nx ∧ ∃ l n, args = [.str l, .v (.int .u8 n)] ∧ v = .v (.int .i64 (Lib.indexByte l n.toNat.toUInt8))
    | some (.mkb t) => kd = .e ∧ nx' = nx + 2 ∧ hp' = hupd (hupd hp nx (some [])) (nx + 1) (some [[.ty t 0]]) ∧ ∃ n : Nat, n ≤ 140737488355328 ∧ args = [.v (.int .i64 n)] ∧ v = .sl nx 1 0 n none
    | none => False

structure ExtOk (P : Program) (k : Nat → Option ExtK) : Prop where
  same : ∀ f, k f = some .same → ∃ fn, P.funcs[f]? = some fn ∧ (fn.name == "runtime.NumGoroutine") = false ∧ fn.body.isNone = true ∧ Extern.findNext fn = none ∧ Extern.find fn = some Extern.AbiNoEscape.same
  mkb : ∀ f t, k f = some (.mkb t) → ∃ fn ps s, P.funcs[f]? = some fn ∧ (fn.name == "runtime.NumGoroutine") = false ∧ fn.body.isNone = true ∧ Extern.findNext fn = none ∧ P.underlying s = some (.slice t) ∧ Extern.find fn = some (Extern.BytealgMakeNoZero.makeNoZero ps #[s])
  idxb : ∀ f, k f = some .idxb → ∃ fn, P.funcs[f]? = some fn ∧ (fn.name == "runtime.NumGoroutine") = false ∧ fn.body.isNone = true ∧ Extern.findNext fn = none ∧ Extern.find fn = some Extern.BytealgIndexByte.indexByte

theorem ext_sound {P : Program} {k : Nat → Option ExtK} (hk : ExtOk P k) : RelSound P (ExtRel k) := by
  refine ⟨fun f args hp nx v hp' nx' kd h => ?_, fun f args hp nx v hp' nx' h => ?_, ?_⟩
  · unfold ExtRel at h
    split at h
    · exact .inl h.1
    · exact .inl h.1
    · exact .inr h.1
    · exact h.elim
  · unfold ExtRel at h
    split at h
    · rename_i hk'; exact ⟨h.2.1, h.2.2.1, fun hp2 nx2 => by unfold ExtRel; rw [hk']; exact ⟨rfl, rfl, rfl, h.2.2.2⟩⟩
    · rename_i hk'; exact ⟨h.2.1, h.2.2.1, fun hp2 nx2 => by unfold ExtRel; rw [hk']; exact ⟨rfl, rfl, rfl, h.2.2.2⟩⟩
    · cases h.1
    · exact h.elim
  intro f args hp nx v hp' nx' kd h c cargs hc hrel hargs
  unfold ExtRel at h
  split at h
  · rename_i hkf
    obtain ⟨rfl, rfl, rfl, h⟩ := h
    subst h
    obtain ⟨fn, h1, h2, h3, h4, h5⟩ := hk.same f hkf
    obtain ⟨u, rfl⟩ : ∃ u, cargs = #[u] := by
      obtain ⟨l⟩ := cargs
      match l, hargs.1 with
      | [u], _ => exact ⟨u, rfl⟩
    refine .inr ⟨u, c.w, ?_, u, c.ι, rfl, fun _ => ⟨rfl, hc.symm, rfl⟩, by rw [← hc]; exact Ext.refl c, by rw [← hc]; exact hrel, by rw [← hc]; exact hargs.2 0 _ _ rfl rfl⟩
    rw [run_callFunc_extern h1 h2 h3 h4 h5, Lib.run_noEscape]; rfl
  · rename_i hkf
    obtain ⟨rfl, rfl, rfl, l, n, rfl, rfl⟩ := h
    obtain ⟨fn, h1, h2, h3, h4, h5⟩ := hk.idxb f hkf
    obtain ⟨u, u2, rfl⟩ : ∃ u u2, cargs = #[u, u2] := by
      obtain ⟨q⟩ := cargs
      match q, hargs.1 with
      | [u, u2], _ => exact ⟨u, u2, rfl⟩
    have e1 := (hargs.2 0 _ u rfl rfl).str_inv
    have e2 := (hargs.2 1 _ u2 rfl rfl).v_inv
    subst e1; subst e2
    refine .inr ⟨.int .i64 (Lib.indexByte l n.toNat.toUInt8), c.w, ?_, _, c.ι, rfl, fun _ => ⟨rfl, hc.symm, rfl⟩, by rw [← hc]; exact Ext.refl c, by rw [← hc]; exact hrel, .v _⟩
    rw [run_callFunc_extern h1 h2 h3 h4 h5, Lib.run_indexByteString]; rfl
  · rename_i t hkf
    obtain ⟨rfl, rfl, rfl, n, hn, rfl, rfl⟩ := h
    obtain ⟨fn, ps, st, h1, h2, h3, h4, hst, h5⟩ := hk.mkb f t hkf
    obtain ⟨u, rfl⟩ : ∃ u, cargs = #[u] := by
      obtain ⟨q⟩ := cargs
      match q, hargs.1 with
      | [u], _ => exact ⟨u, rfl⟩
    have e1 := (hargs.2 0 _ u rfl rfl).v_inv
    subst e1
    obtain ⟨cs, hrun, hle, _⟩ := Lib.run_makeNoZero (P := P) c.w ps st t hst n (by omega)
    obtain ⟨k1, k2⟩ := push_rel (nx := nx) hrel (w' := c.w.drew.drew.alloc (.cells cs t)) (cs := cs) (e := t) (fz := (0, 0)) (es := []) (sz := 1) rfl rfl rfl rfl (by intro o h; simp) (by intro i l h; simp at h)
    obtain ⟨k3, k4⟩ := addTy (q := nx) (t := t) (k := 0) (p := ⟨c.w.heap.size, 0, 1, cs.size⟩) (cs := cs) (fz := (0, 0)) k1.up (by omega) k1.fresh (by show iupd _ _ _ nx = _; simp [iupd]) rfl (by show (c.w.heap.push _)[c.w.heap.size]? = _; simp) (Nat.zero_le _)
    refine .inr ⟨.slice (some ⟨c.w.heap.size, 0, none⟩) n cs.size, c.w.drew.drew.alloc (.cells cs t), ?_, _, iupd c.ι nx ⟨c.w.heap.size, 0, 1, cs.size⟩, rfl, (fun h => by cases h), ?_, ?_, ?_⟩
    · rw [run_callFunc_extern h1 h2 h3 h4 h5, hrun]; rfl
    · rw [← hc]; exact k2.trans k4
    · rw [← hc]; exact k3
    · exact .sl (p := ⟨c.w.heap.size, 0, 1, cs.size⟩) (by show iupd _ _ _ nx = _; simp [iupd]) rfl (by simp) hle (by simp) (by simp) (by simp) (Nat.zero_le _)
  · exact h.elim

/-- A call of such a function. -/
theorem Ret_same {E : Env} {k : Nat → Option ExtK} (hE : E.prim = ExtRel k) {f : Nat} (h : k f = some .same) (x : AV) (hp nx) : Ret E f [x] hp nx x hp nx .p :=
  Ret_prim (by rw [hE]; unfold ExtRel; rw [h]; exact ⟨rfl, rfl, rfl, rfl⟩)
theorem Ret_idxb {E : Env} {k : Nat → Option ExtK} (hE : E.prim = ExtRel k) {f : Nat} (h : k f = some .idxb) (l : List UInt8) (n : Int) (hp nx) : Ret E f [.str l, .v (.int .u8 n)] hp nx (.v (.int .i64 (Lib.indexByte l n.toNat.toUInt8))) hp nx .p :=
  Ret_prim (by rw [hE]; unfold ExtRel; rw [h]; exact ⟨rfl, rfl, rfl, l, n, rfl, rfl⟩)
theorem Ret_mkb {E : Env} {k : Nat → Option ExtK} (hE : E.prim = ExtRel k) {f : Nat} {t : TypeId} (h : k f = some (.mkb t)) (n : Nat) (hn : n ≤ 140737488355328) (hp : Heap) (nx : Nat) :
    Ret E f [.v (.int .i64 n)] hp nx (.sl nx 1 0 n none) (hupd (hupd hp nx (some [])) (nx + 1) (some [[.ty t 0]])) (nx + 2) .e :=
  Ret_prim (by rw [hE]; unfold ExtRel; rw [h]; exact ⟨rfl, rfl, rfl, n, hn, rfl, rfl⟩)
end Go.Ai
