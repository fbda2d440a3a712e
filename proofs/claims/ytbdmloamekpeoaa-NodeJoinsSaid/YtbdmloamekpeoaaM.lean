/- The law's guard, and the chapter's examples. -/
import Derived.Test.YtbdmloamekpeoaaL
namespace Go.Ai
set_option linter.unusedVariables false
set_option linter.unusedSimpArgs false

def smallN (n : Nd) : Prop := n.keys.length ≤ 200 ∧ n.items.length ≤ 200 ∧ n.kids.length ≤ 200

def fewP (n : Nd) (v : AV) : Prop := ∃ b, v = .v (.bool b) ∧ (b = true → smallN n)

theorem f10 (n : Nd) (x : AV) (hx : NdA n x) : ∃ b, (b = true → smallN n) ∧ ∀ hp nx, Ret E 10 [x] hp nx (.v (.bool b)) hp nx .p := by
  obtain ⟨leaf, keys, items, kids⟩ := n
  obtain ⟨kA, iA, dA, rfl, hk, hi, hd⟩ := hx
  obtain ⟨kn, ksz, kc, rfl, hkz⟩ := hk
  obtain ⟨in', isz, ic, rfl, hiz⟩ := hi
  obtain ⟨dn, dsz, dc, rfl, hdz⟩ := hd
  simp only at hkz hiz hdz
  let ND := [AV.v (Value.bool leaf), AV.rs kn ksz (keys.map keyC) kc, AV.rs in' isz (items.map Itm.cells) ic, AV.rs dn dsz (kids.map kidC) dc]
  have main : W (Ret E) c10.body (pureEQ [.t 2] (fewP ⟨leaf, keys, items, kids⟩)) (init [.agg ND] hnil 0) := by
    simp [c10, ND]
    refine W_loopI (I := fun (g : Nat × Nat) s => g.1 ≤ 201 ∧ g.2 ≤ 1000 * g.1 ∧ s.tm 4 = .int .i64 g.1 ∧ s.tm 3 = .int .i64 g.2 ∧ s.tm 1 = .ptr 0 0 0 ∧ s.hp = hupd hnil 0 (some [ND]) ∧ s.nx = 1)
      (fun g => 201 - g.1) (0, 0) (by simp [ND]) ?_
    rintro ⟨j, a⟩ tm hp nx ⟨hj, ha, t4, t3, t1, rfl, rfl⟩
    simp only at t4 t3 t1 hj ha
    have second : ∀ tm, tm 3 = .int .i64 a → tm 1 = .ptr 0 0 0 → W (Ret E) c10_rrr (pureEQ [.t 2] (fewP ⟨leaf, keys, items, kids⟩)) ⟨tm, hupd hnil 0 (some [ND]), 1⟩ := by
      intro tm t3 t1
      simp [c10_rrr, ND]
      refine W_loopI (I := fun (g : Nat × Nat) s => g.1 ≤ 201 ∧ g.2 ≤ a + 1000 * g.1 ∧ s.tm 5 = .int .i64 g.1 ∧ s.tm 3 = .int .i64 g.2 ∧ s.tm 1 = .ptr 0 0 0 ∧ s.hp = hupd hnil 0 (some [ND]) ∧ s.nx = 1)
        (fun g => 201 - g.1) (0, a) (by simp [ND, t3, t1]) ?_
      rintro ⟨j, c⟩ tm hp nx ⟨hj, hc, t5, t3, t1, rfl, rfl⟩
      simp only at t5 t3 t1 hj hc
      have third : ∀ tm, tm 3 = .int .i64 c → tm 1 = .ptr 0 0 0 → W (Ret E) c10_rrrr (pureEQ [.t 2] (fewP ⟨leaf, keys, items, kids⟩)) ⟨tm, hupd hnil 0 (some [ND]), 1⟩ := by
        intro tm t3 t1
        by_cases g1 : (keys.length : Int) ≤ 200
        · by_cases g2 : (items.length : Int) ≤ 200
          · by_cases g3 : (kids.length : Int) ≤ 200
            · simp [c10_rrrr, ND, t3, t1, g1, g2, g3]
              exact ⟨_, rfl, fun _ => ⟨by show keys.length ≤ 200; omega, by show items.length ≤ 200; omega, by show kids.length ≤ 200; omega⟩⟩
            · simp [c10_rrrr, ND, t3, t1, g1, g2, g3]
              exact ⟨_, rfl, nofun⟩
          · simp [c10_rrrr, ND, t3, t1, g1, g2]
            exact ⟨_, rfl, nofun⟩
        · simp [c10_rrrr, ND, t3, t1, g1]
          exact ⟨_, rfl, nofun⟩
      by_cases hlt : (j : Int) < (items.length : Int)
      · by_cases hle : (j : Int) ≤ 200
        · have hget : items[j]? = some items[j] := List.getElem?_eq_getElem (by omega)
          have hia : iaddrA 3 (.rs in' isz (items.map Itm.cells) ic) (.v (.int .i64 j)) = some (.rp items[j].cells) := iaddr_in hiz (by simp [hget]) rfl
          have hw5 : IntKind.wrap .i64 ((j : Int) + 1) = (j + 1 : Nat) := by rw [wrap_id] <;> omega
          have hw6 : IntKind.wrap .i64 ((c : Int) + min (items[j].v.length : Int) 1000) = (c + min items[j].v.length 1000 : Nat) := by rw [wrap_id] <;> omega
          simp [ND, t5, t3, t1, hlt, hle, hia, -iaddrA_rs, hw5, hw6, Itm.cells, -Int.natCast_add, -Int.ofNat_lt]
          exact ⟨j + 1, by omega, by omega, c + min items[j].v.length 1000, by omega, rfl, rfl⟩
        · simp [ND, t5, t3, t1, hlt, hle, -Int.ofNat_lt]
          exact third _ (by simp [t3]) (by simp [t1])
      · simp [ND, t5, t3, t1, hlt, -Int.ofNat_lt]
        exact third _ (by simp [t3]) (by simp [t1])
    by_cases hlt : (j : Int) < (keys.length : Int)
    · by_cases hle : (j : Int) ≤ 200
      · have hget : keys[j]? = some keys[j] := List.getElem?_eq_getElem (by omega)
        have hia : iaddrA 1 (.rs kn ksz (keys.map keyC) kc) (.v (.int .i64 j)) = some (.rp (keyC keys[j])) := iaddr_in hkz (by simp [hget]) rfl
        have hw5 : IntKind.wrap .i64 ((j : Int) + 1) = (j + 1 : Nat) := by rw [wrap_id] <;> omega
        have hw6 : IntKind.wrap .i64 ((a : Int) + min (keys[j].length : Int) 1000) = (a + min keys[j].length 1000 : Nat) := by rw [wrap_id] <;> omega
        simp [ND, t4, t3, t1, hlt, hle, hia, -iaddrA_rs, hw5, hw6, keyC, -Int.natCast_add, -Int.ofNat_lt]
        exact ⟨j + 1, by omega, by omega, a + min keys[j].length 1000, by omega, rfl, rfl⟩
      · simp [ND, t4, t3, t1, hlt, hle, -Int.ofNat_lt]
        exact second _ (by simp [t3]) (by simp [t1])
    · simp [ND, t4, t3, t1, hlt, -Int.ofNat_lt]
      exact second _ (by simp [t3]) (by simp [t1])
  obtain ⟨v, ⟨b, rfl, hb⟩, h⟩ := Ret_pureE e10 rfl (by simp [ND]) main
  exact ⟨b, hb, h⟩

theorem f18 (x : Int) (hp nx) : Ret E 18 [.v (.int .i64 x)] hp nx (.v (.int .i64 x)) hp nx .p := by
  refine Ret_pureQ e18 rfl rfl ?_ hp nx
  simp [c18]

def ex1 : Nd := ⟨true, [[97]], [⟨[120], 0, 0⟩], []⟩
def ex2 : Nd := ⟨true, [[97], [98]], [⟨[120], 0, 0⟩, ⟨[121], 0, 0⟩], []⟩
theorem ex1_right : rightS ex1 = true := by decide
theorem ex2_right : rightS ex2 = true := by decide
theorem ex1_enc : encS ex1 = (1, [0, 1, 1, 97, 1, 120], 0) := by decide

theorem f11 (hp nx) : Ret E 11 [] hp nx (.v (.bool true)) hp nx .p := by
  refine Ret_pureQ e11 rfl rfl ?_ hp nx
  have hx1 : NdA ex1 (.agg [.v (.bool true), .rs false 1 [[.str [97]]] (some 1), .rs false 3 [[.str [120], .v (.int .i64 0), .v (.int .i64 0)]] (some 1), .rs true 0 [] (some 0)]) :=
    ⟨_, _, _, rfl, ⟨_, _, _, rfl, .inr rfl, by simp⟩, ⟨_, _, _, rfl, .inr rfl, by simp⟩, ⟨_, _, _, rfl, .inl rfl, fun _ => rfl⟩⟩
  have hx2 : NdA ex2 (.agg [.v (.bool true), .rs false 1 [[.str [97]], [.str [98]]] (some 2), .rs false 3 [[.str [120], .v (.int .i64 0), .v (.int .i64 0)], [.str [121], .v (.int .i64 0), .v (.int .i64 0)]] (some 2), .rs true 0 [] (some 0)]) :=
    ⟨_, _, _, rfl, ⟨_, _, _, rfl, .inr rfl, by simp⟩, ⟨_, _, _, rfl, .inr rfl, by simp⟩, ⟨_, _, _, rfl, .inl rfl, fun _ => rfl⟩⟩
  have e1 := f16 ex1 _ hx1 (by decide) (by decide) (by decide)
  obtain ⟨i, ya, yb, hi, hc, ha, hb, e2⟩ := f21 ex2 _ hx2 (by decide) (by decide) (by decide) ex2_right (by decide)
  have hi1 : i = 1 := by
    have h1 := hc.pos; have h2 := hc.le
    have : upS ex2 = 1 := rfl
    have : ex2.keys.length = 2 := rfl
    omega
  subst hi1
  rw [ex1_enc] at e1
  obtain ⟨ak, ai, ad, rfl, ak', ai', ad'⟩ := ha
  obtain ⟨bk, bi, bd, rfl, bk', bi', bd'⟩ := hb
  obtain ⟨an, az, ac, rfl, hz, hnl⟩ := ak'
  obtain ⟨_, _, _, rfl⟩ := ai'.shape
  obtain ⟨_, _, _, rfl⟩ := ad'.shape
  obtain ⟨_, _, _, rfl⟩ := bk'.shape
  obtain ⟨_, _, _, rfl⟩ := bi'.shape
  obtain ⟨_, _, _, rfl⟩ := bd'.shape
  have hk : ex2.keys[1] = [98] := rfl
  have hka : (partS ex2 0 1).keys.map keyC = [[.str [97]]] := rfl
  have hkb : (partS ex2 (1 + upS ex2 - 1) ex2.keys.length).keys.map keyC = [[.str [98]]] := rfl
  rw [hk] at e2
  rw [hka] at e2 hnl
  rw [hkb] at e2
  have hz1 : az = 1 := hz.resolve_left fun h => by have := hnl h; simp at this
  subst hz1
  simp [c11, spliceL]
  refine WCall_p (e1 _ _) ?_
  simp [encA, spliceL]
  refine WCall_p (e2 _ _) ?_
  simp [spliceL]
  refine WCall_p (f18 _ _ _) ?_
  simp
  refine WCall_p (f18 _ _ _) ?_
  have hw : IntKind.wrap .i64 0 = 0 := by decide
  have hs : sliceStr (.str [0, 1, 1, 97, 120]) none (some (.v (.int .i64 3))) = some (.str [0, 1, 1]) := by rfl
  simp [hw, hs]
end Go.Ai
