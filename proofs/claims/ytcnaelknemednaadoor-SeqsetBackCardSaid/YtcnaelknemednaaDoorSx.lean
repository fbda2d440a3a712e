/- strings.Join and strconv.Itoa do what their relations say. -/
import Derived.Test.YtcnaelknemednaaDoorSw
import Derived.Lib.LaidTab
namespace Go.Ai
open Go.Proofs Go.Shelf Go.RowKit Go.Sort
set_option linter.unusedVariables false
set_option linter.unusedSimpArgs false

theorem body28 : hasBody Tryd.prog 28 = true := by kernel_rfl
theorem body18 : hasBody Tryd.prog 18 = true := by kernel_rfl
theorem pow_named : Tryd.prog.globalNamed "internal/strconv.uint64pow10" = some 1 := by kernel_rfl
theorem tab_of {c : Cx} (h : GlOk c) : Lib.TabIs Tryd.prog c.w "internal/strconv.uint64pow10" .u64 Lib.pow10Tab := by
  obtain ⟨_, e, fz, h2⟩ := h 1 _ rfl
  unfold Lib.TabIs World.var?
  rw [pow_named]
  simp only [Option.bind_some, h2]
  rw [Lib.pow10Tab, List.map_map]
  rfl
theorem grow_of_grow (w : World) (k : Nat) (os : Array Obj) : Grow w (grow (w.drewN k) os) := by
  refine ⟨?_, fun B hB => ?_, rfl, rfl, rfl⟩
  · show _ ≤ (w.heap ++ os).size
    simp
  · show (w.heap ++ os)[B]? = _
    rw [Array.getElem?_append_left hB]
theorem grow_of_below {w w' : World} (h : Below w.heap.size w w') : Grow w w' := ⟨h.size, h.block, h.os, h.tape, h.output⟩

theorem itoa_sound : RelSound Tryd.prog (ItoaRel 28) := by
  refine ⟨fun f args hp nx v hp' nx' k h => .inl h.2.1, fun f args hp nx v hp' nx' h => ⟨h.2.2.1, h.2.2.2.1, fun _ _ => ⟨h.1, rfl, rfl, rfl, h.2.2.2.2⟩⟩, ?_⟩
  rintro f args hp nx v hp' nx' k ⟨rfl, rfl, rfl, rfl, n, h0, h1, rfl, rfl⟩ c cargs hc hrel hargs
  obtain ⟨u, rfl⟩ : ∃ u, cargs = #[u] := by
    obtain ⟨q⟩ := cargs
    match q, hargs.1 with
    | [u], _ => exact ⟨u, rfl⟩
  have e1 := (hargs.2 0 _ u rfl rfl).v_inv
  subst e1
  refine .inl ⟨body28, Calls.mono (Tryd.strconv_Itoa n h0 h1 c.w (tab_of hrel.gl)) ?_⟩
  rintro e w' ⟨rfl, k, os, rfl⟩
  have hg := grow_of_grow c.w k os
  rw [← hc]
  exact ⟨_, c.ι, rfl, fun _ => ⟨rfl, rfl, rfl⟩, Ext.of_grow (nx := nx') hg, hrel.grow hg, .str _⟩

theorem join_sound : RelSound Tryd.prog (JoinRel 18) := by
  refine ⟨fun f args hp nx v hp' nx' k h => .inl h.2.1, fun f args hp nx v hp' nx' h => ⟨h.2.2.1, h.2.2.2.1, fun _ _ => ⟨h.1, rfl, rfl, rfl, h.2.2.2.2⟩⟩, ?_⟩
  rintro f args hp nx v hp' nx' k ⟨rfl, rfl, rfl, rfl, nil, sz, es, cap, sep, rfl, ⟨hz, hnil⟩, h1, h2, rfl⟩ c cargs hc hrel hargs
  obtain ⟨u, u2, rfl⟩ : ∃ u u2, cargs = #[u, u2] := by
    obtain ⟨q⟩ := cargs
    match q, hargs.1 with
    | [u, u2], _ => exact ⟨u, u2, rfl⟩
  have e1 := hargs.2 0 _ u rfl rfl
  have e2 := (hargs.2 1 _ u2 rfl rfl).str_inv
  subst e2
  have none : ∀ a m, es = [] → CallsX Tryd.prog 18 #[.slice a 0 m, .string ⟨sep.toArray⟩] c.w (CallPost c .p (.str (Lib.join es sep)) hp' nx' nx') := by
    rintro a m rfl
    refine .inl ⟨body18, Calls.mono (Tryd.strings_Join_none a m ⟨sep.toArray⟩ c.w) ?_⟩
    rintro e w' ⟨rfl, rfl⟩
    rw [← hc]
    exact ⟨_, c.ι, rfl, fun _ => ⟨rfl, rfl, rfl⟩, Ext.refl c, hrel, .str []⟩
  generalize hes : es.map strC = cells at e1
  cases e1 with
  | nil hcap =>
    exact none _ _ (hnil rfl)
  | @rs _ n _ _ _ a g hlen hl hcap hsz hro hcl hv =>
    subst hes
    have hsz1 : sz = 1 := hz.resolve_left (by simp)
    subst hsz1
    rw [List.length_map] at hlen
    by_cases hne : es = []
    · subst hne
      simp only [List.length_nil] at hlen
      subst hlen
      exact none _ _ rfl
    · obtain ⟨r1, r2⟩ := hro (by simpa using hne)
      obtain ⟨bk, o, sp⟩ := a
      simp only at r1 r2 hcl
      subst r2
      have hget : ∀ (i : Nat) (l : List UInt8), es[i]? = some l → c.w.cell? ⟨bk, o + i, Option.none⟩ = some (.string ⟨l.toArray⟩) := by
        intro i l hi
        have q1 := hcl i 0 (strC l) (.str l) (by simp [hi]) rfl
        have q2 := (hv i 0 (strC l) (.str l) (by simp [hi]) rfl).str_inv
        rw [q2] at q1
        simpa using q1
      have hm : (es.map fun l => (⟨l.toArray⟩ : ByteArray)).map (·.data.toList) = es := by
        rw [List.map_map]; simp [Function.comp_def]
      have key := Tryd.strings_Join bk o n (es.map fun l => (⟨l.toArray⟩ : ByteArray)) ⟨sep.toArray⟩ c.w (fun j x hx => by
        rw [List.getElem?_map, Option.map_eq_some_iff] at hx
        obtain ⟨l, hl, rfl⟩ := hx
        exact hget j l hl) r1.1 (by simpa using h1) (by simp; omega) (by rw [hm]; exact h2)
      rw [hm] at key
      rw [List.length_map, hlen] at key
      refine .inl ⟨body18, Calls.mono key ?_⟩
      rintro e w' ⟨rfl, hB⟩
      have hg := grow_of_below hB
      rw [← hc]
      exact ⟨_, c.ι, rfl, fun _ => ⟨rfl, rfl, rfl⟩, Ext.of_grow (nx := nx') hg, hrel.grow hg, .str _⟩

theorem E_ok : EnvOk Tryd.prog E := ⟨fn_ok, OrRel.sound sort_sound (OrRel.sound itoa_sound join_sound)⟩
end Go.Ai
