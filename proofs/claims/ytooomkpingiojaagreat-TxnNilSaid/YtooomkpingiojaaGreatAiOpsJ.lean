/- Operations that make or change owned memory, all together. -/
import Derived.Test.YtooomkpingiojaaGreatAiOpsI
namespace Go.Ai
set_option linter.unusedVariables false
set_option linter.unusedSimpArgs false

theorem LRel.append {c : Cx} {x y : List AV} {u w : List Value} (h : LRel c x u) (k : LRel c y w) : LRel c (x ++ y) (u ++ w) := by
  refine ⟨by simp [h.1, k.1], fun q av z h1 h2 => ?_⟩
  by_cases hq : q < x.length
  · rw [List.getElem?_append_left hq] at h1
    rw [List.getElem?_append_left (by rw [← h.1]; exact hq)] at h2
    exact h.2 q av z h1 h2
  · rw [List.getElem?_append_right (by omega)] at h1
    rw [List.getElem?_append_right (by rw [← h.1]; omega), ← h.1] at h2
    exact k.2 _ av z h1 h2

theorem rows_append {α : Type} {sz : Nat} {x y : List (List α)} (hx : ∀ (i : Nat) (l : List α), x[i]? = some l → l.length = sz) (hy : ∀ (i : Nat) (l : List α), y[i]? = some l → l.length = sz) :
    ∀ (i : Nat) (l : List α), (x ++ y)[i]? = some l → l.length = sz := by
  intro i l h
  by_cases hi : i < x.length
  · rw [List.getElem?_append_left hi] at h; exact hx i l h
  · rw [List.getElem?_append_right (by omega)] at h; exact hy _ l h

theorem size_zeroCells {z : Array Value} {n sz : Nat} (hz : z.size = sz) : (Builtin.zeroCells z n).size = n * sz := by simp [Builtin.zeroCells, hz]

/-- Behind an append that has made a new block. -/
theorem grown_good {P : Program} {o : Oper} {a : Act} {c : Cx} {nx : Nat} (hh : HRel c nx) {sz need cap : Nat} {es : Blk} {old arr zs : Array Value} {e : TypeId} {w' : World}
    (hn : es.length = need) (hcap : need ≤ cap) (hrows : ∀ (i : Nat) (l : List AV), es[i]? = some l → l.length = sz) (hrel : LRel c es.flatten (old ++ arr).toList) (hzs : zs.size = (cap - need) * sz)
    (hrun : RunsTo P o a c.w (.slice (some ⟨c.w.heap.size, 0, none⟩) need cap) w') (hheap : w'.heap = c.w.heap.push (.cells (old ++ arr ++ zs) e)) (hos : w'.os = c.w.os) (htape : w'.tape = c.w.tape) (hout : w'.output = c.w.output) :
    EGood P o a c (.sl nx sz 0 need none) (hupd c.hp nx (some es)) (nx + 1) := by
  have hsize : (old ++ arr).size = need * sz := by
    have := hrel.1
    rw [flat_length es hrows, hn] at this
    simpa using this.symm
  have htot : (old ++ arr ++ zs).size = cap * sz := by
    have h1 : (old ++ arr ++ zs).size = (old ++ arr).size + zs.size := Array.size_append
    rw [h1, hsize, hzs, ← Nat.add_mul]
    congr 1; omega
  refine EGood.push hh hrun hheap hos htape hout (by intro q _; simp) (sz := sz) ?_ ?_
  · intro k y hy
    obtain ⟨h5, h6⟩ := rows_of hrows hrel k y hy
    refine ⟨h5, fun j av hj => ?_⟩
    obtain ⟨u, h7, h8⟩ := h6 j av hj
    refine ⟨u, ?_, h8⟩
    rw [getElem?_arr] at h7
    have hlt := (Array.getElem?_eq_some_iff.1 h7).1
    rw [Array.getElem?_append_left hlt]; exact h7
  · intro c' hc'
    have hq : 0 + (0 + cap) * sz = (old ++ arr ++ zs).size := by rw [htot]; simp
    exact .sl hc' rfl (fun _ => by simp) hcap (fun m hm => by simp at hm) (fun _ => Nat.le_of_eq hq) (fun _ => hq) (Nat.zero_le _)

theorem eta_cx (c : Cx) : (⟨c.F, c.ι, c.hp, c.w⟩ : Cx) = c := rfl

/-- What an append does, given how the model's own goes. -/
theorem appA_good {P : Program} {o : Oper} {a : Act} {c : Cx} {nx : Nat} (hh : HRel c nx) {ts : Array TypeId} {ty e : TypeId} {sz bytes n : Nat} {s : AV} {su x : Value} {new : Blk} {arr zc : Array Value} {v : AV} {hp' : Heap} {nx' : Nat}
    (hexec : ∀ u w', (Builtin.append_ ts ty #[su, x]).run P c.w = .ok u w' → RunsTo P o a c.w u w') (hs : VRel c s su) (hn : new.length = n) (hsz0 : 0 < sz) (hz : zc.size = sz)
    (hrows : ∀ (i : Nat) (l : List AV), new[i]? = some l → l.length = sz) (hrel : LRel c new.flatten arr.toList) (hone : new.all (fun l => l.all AV.one) = true)
    (fitsR : ∀ (base : Option Addr) (sLen sCap : Nat) (w' : World), sLen + n ≤ sCap → (match base with | some ad => storeCells (ad.add (sLen * sz)) arr.toList | none => pure ()).run P c.w = .ok () w' → (Builtin.append_ ts ty #[.slice base sLen sCap, x]).run P c.w = .ok (.slice base (sLen + n) sCap) w')
    (growR : ∀ (base : Option Addr) (sLen sCap : Nat) (old : Array Value), (∀ w', w'.heap = c.w.heap → (Builtin.firstCells sz sLen (.slice base sLen sCap)).run P w' = .ok old w') → ¬ sLen + n ≤ sCap → (sLen + n) * bytes ≤ 140737488355328 →
      ∃ cap w', sLen + n ≤ cap ∧ (Builtin.append_ ts ty #[.slice base sLen sCap, x]).run P c.w = .ok (.slice (some ⟨c.w.heap.size, 0, none⟩) (sLen + n) cap) w' ∧
      w'.heap = c.w.heap.push (.cells (old ++ arr ++ Builtin.zeroCells zc (cap - (sLen + n))) e) ∧ w'.os = c.w.os ∧ w'.tape = c.w.tape ∧ w'.output = c.w.output)
    (hA : appA sz bytes s new c.hp nx = some (v, hp', nx')) : EGood P o a c v hp' nx' := by
  subst hn
  have harr : arr.size = new.length * sz := by
    have := hrel.1
    rw [flat_length new hrows] at this
    simpa using this.symm
  -- a new block, from what the old slice holds
  have fresh : ∀ (es0 : Blk) (base : Option Addr) (sLen sCap : Nat), su = .slice base sLen sCap → es0.length = sLen → (∀ (i : Nat) (l : List AV), es0[i]? = some l → l.length = sz) →
      (∃ old : Array Value, LRel c es0.flatten old.toList ∧ ∀ w', w'.heap = c.w.heap → (Builtin.firstCells sz sLen (.slice base sLen sCap)).run P w' = .ok old w') → ¬ sLen + new.length ≤ sCap → (sLen + new.length) * bytes ≤ 140737488355328 →
      EGood P o a c (.sl nx sz 0 (sLen + new.length) none) (hupd c.hp nx (some (es0 ++ new))) (nx + 1) := by
    rintro es0 base sLen sCap rfl hl0 hr0 ⟨old, ho1, ho2⟩ hfit hbytes
    obtain ⟨cap, w', g1, g2, g3, g4, g5, g6⟩ := growR base sLen sCap old ho2 hfit hbytes
    refine grown_good hh (by simp [hl0]) g1 (rows_append hr0 hrows) ?_ (size_zeroCells hz) (hexec _ _ g2) g3 g4 g5 g6
    rw [List.flatten_append, Array.toList_append]
    exact ho1.append hrel
  unfold appA at hA
  split at hA
  · -- read-only
    rename_i nl z es cap
    split at hA
    · rename_i hsz
      split at hA
      · rename_i h0
        simp only [Option.some.injEq, Prod.mk.injEq] at hA
        obtain ⟨rfl, rfl, rfl⟩ := hA
        have hn0 : new.length = 0 := by omega
        have harr0 : arr.toList = [] := by
          have : arr.size = 0 := by rw [harr, hn0]; simp
          simpa using this
        have hsame : ∀ base sLen sCap, su = .slice base sLen sCap → sLen ≤ sCap → EGood P o a c (.rs nl z es cap) c.hp nx := by
          rintro base sLen sCap rfl hle
          have := fitsR base sLen sCap c.w (by omega) (by rw [harr0]; cases base <;> rfl)
          simp only [hn0, Nat.add_zero] at this
          exact ⟨_, c.w, c.ι, hexec _ _ this, Ext.refl c, hh, hs⟩
        cases hs with
        | nil hc => exact hsame none 0 0 rfl (Nat.le_refl _)
        | rs g hlen hle hcap hes hro hcell hvv => exact hsame _ _ _ rfl hle
      · rename_i h0
        split at hA
        · rename_i cp
          split at hA
          · rename_i hc
            simp only [Option.some.injEq, Prod.mk.injEq] at hA
            obtain ⟨rfl, rfl, rfl⟩ := hA
            obtain ⟨hlt, hby⟩ := hc
            have hel : elemsA c.hp sz (.rs nl z es (some cp)) = some es := by simp [elemsA, hsz]
            obtain ⟨e1, e2, e3⟩ := elems_run (P := P) hh hs hel
            have hfirst : ∀ base sLen sCap, su = .slice base sLen sCap → es.length = sLen → ∃ old : Array Value, LRel c es.flatten old.toList ∧ ∀ w', w'.heap = c.w.heap → (Builtin.firstCells sz sLen (.slice base sLen sCap)).run P w' = .ok old w' := by
              rintro base sLen sCap rfl hl
              obtain ⟨ys, h1, h2⟩ := e3 es.length (Nat.le_refl _)
              rw [List.take_length] at h2
              exact ⟨ys.toArray, by simpa using h2, fun w' hw' => by rw [← h1 w' hw', hl]⟩
            cases hs with
            | nil hc =>
              have := fresh [] none 0 0 rfl rfl (by simp) (hfirst none 0 0 rfl rfl) (by omega) (by simpa using hby)
              simpa using this
            | rs g hlen hle hcap hes hro hcell hvv =>
              rename_i m len ad
              have h9 := hcap cp rfl
              have := fresh es (some ad) len m rfl hlen e2 (hfirst _ _ _ rfl hlen) (by omega) (by rw [← hlen]; exact hby)
              rw [hlen]; exact this
          · simp at hA
        · simp at hA
    · simp at hA
  · -- owned
    rename_i r z i len cap
    split at hA
    · rename_i hzz
      subst hzz
      split at hA
      · simp at hA
      · rename_i es hes
        split at hA
        · simp at hA
        · rename_i hin
          have hin : i + len ≤ es.length := by omega
          have hel : elemsA c.hp z (.sl r z i len cap) = some ((es.drop i).take len) := by simp [elemsA, hes, hin]
          obtain ⟨e1, e2, e3⟩ := elems_run (P := P) hh hs hel
          have hdl : ((es.drop i).take len).length = len := by simp; omega
          have hs' := hs
          cases hs with
          | sl hι hps ha hl hcap hN hE hpm =>
            rename_i m p ad
            obtain ⟨hF, cs, ee, fz, h3, h4, h5, h6⟩ := hh.cells hes hι hpm
            have hfirst : ∃ old : Array Value, LRel c ((es.drop i).take len).flatten old.toList ∧ ∀ w', w'.heap = c.w.heap → (Builtin.firstCells z len (.slice (some ad) len m)).run P w' = .ok old w' := by
              obtain ⟨ys, h1, h2⟩ := e3 ((es.drop i).take len).length (Nat.le_refl _)
              rw [List.take_length] at h2
              exact ⟨ys.toArray, by simpa using h2, fun w' hw' => by rw [← h1 w' hw', hdl]⟩
            have hfresh := fresh ((es.drop i).take len) (some ad) len m rfl hdl e2 hfirst
            -- a slice whose room is not told leads to its block's end
            have hroom : cap = none → es.length ≤ i + m := by
              intro hc0
              have hE0 := hE hc0
              rcases Nat.eq_zero_or_pos es.length with h0 | h0
              · omega
              · have hlast : es.length - 1 < es.length := by omega
                obtain ⟨h7, h8⟩ := h6 (es.length - 1) _ (List.getElem?_eq_getElem hlast)
                have hj : z - 1 < (es[es.length - 1]).length := by rw [h7, hps]; omega
                obtain ⟨u, h9, _⟩ := h8 (z - 1) _ (List.getElem?_eq_getElem hj)
                have h10 := (Array.getElem?_eq_some_iff.1 h9).1
                rw [h4, ← hE0, hps] at h10
                have h11 : (es.length - 1) * z + z = es.length * z := by rw [← Nat.succ_mul]; congr 1; omega
                have h12 : es.length * z ≤ (i + m) * z := by omega
                exact Nat.le_of_mul_le_mul_right h12 hsz0
            -- within the room
            have inplace : len + new.length ≤ m → ∃ w' cs', (Builtin.append_ ts ty #[.slice (some ad) len m, x]).run P c.w = .ok (.slice (some ad) (len + new.length) m) w' ∧ w'.heap = c.w.heap.setIfInBounds p.B (.cells cs' ee fz) ∧ cs'.toList = spliceL cs.toList (p.O + (i + len) * z) arr.toList ∧ (new.length ≠ 0 → p.O + (i + len) * z + new.length * z ≤ cs.size) ∧ w'.os = c.w.os ∧ w'.tape = c.w.tape ∧ w'.output = c.w.output := by
              intro hfit
              by_cases hn0 : new.length = 0
              · have harr0 : arr.toList = [] := by
                  have : arr.size = 0 := by rw [harr, hn0]; simp
                  simpa using this
                refine ⟨c.w, cs, fitsR _ _ _ _ hfit (by rw [harr0]; rfl), (setIfInBounds_same _ _ _ h3).symm, by rw [harr0, spliceL_nil], fun h => absurd hn0 h, rfl, rfl, rfl⟩
              · have hm0 : m ≠ 0 := by omega
                have had := ha hm0
                have hNN := hN hm0
                have hle : p.O + (i + len) * z + new.length * z ≤ cs.size := by
                  rw [h4]
                  have : (i + len) * z + new.length * z ≤ (i + m) * z := by
                    rw [← Nat.add_mul]
                    exact Nat.mul_le_mul_right _ (by omega)
                  omega
                obtain ⟨w', cs', s1, s2, s3, s4, s5, s6⟩ := storeCells_run (P := P) (B := p.B) (o := p.O + (i + len) * z) arr.toList 0 c.w cs h3 (by simp [harr]; omega) (by intro k hk; rw [h4] at hk; exact h5 k hk) (one_cells hrel (by
                  rw [List.all_eq_true] at hone ⊢
                  intro y hy
                  obtain ⟨l, hl1, hl2⟩ := List.mem_flatten.1 hy
                  exact List.all_eq_true.1 (hone l hl1) y hl2))
                refine ⟨w', cs', fitsR _ _ _ _ hfit ?_, s2, by rw [s3]; simp, fun _ => hle, s4, s5, s6⟩
                subst had
                simp only [add_addr]
                rw [show p.O + i * z + len * z = p.O + (i + len) * z by rw [Nat.add_mul]; omega]
                exact s1
            have hcells : ∀ (w' : World) (cs' : Array Value), cs'.toList = spliceL cs.toList (p.O + (i + len) * z) arr.toList → (new.length ≠ 0 → p.O + (i + len) * z + new.length * z ≤ cs.size) →
                (∀ q, cs'[q]? = if p.O + (i + len) * z ≤ q ∧ q < p.O + (i + len) * z + new.length * z then arr[q - (p.O + (i + len) * z)]? else cs[q]?) := by
              intro w' cs' hcs hle q
              by_cases hn0 : new.length = 0
              · have harr0 : arr.toList = [] := by
                  have : arr.size = 0 := by rw [harr, hn0]; simp
                  simpa using this
                rw [harr0, spliceL_nil] at hcs
                rw [← getElem?_arr, hcs, getElem?_arr, if_neg (by rw [hn0]; omega)]
              · rw [← getElem?_arr, hcs, getElem?_spliceL _ _ _ (by simp [harr]; exact hle hn0)]
                simp only [Array.length_toList, harr, getElem?_arr]
            have hrowrel := rows_of hrows hrel
            have hsize : ∀ (cs' : Array Value), cs'.toList = spliceL cs.toList (p.O + (i + len) * z) arr.toList → (new.length ≠ 0 → p.O + (i + len) * z + new.length * z ≤ cs.size) → cs'.size = cs.size := by
              intro cs' hcs hle
              by_cases hn0 : new.length = 0
              · have harr0 : arr.toList = [] := by
                  have : arr.size = 0 := by rw [harr, hn0]; simp
                  simpa using this
                rw [harr0, spliceL_nil] at hcs
                have := congrArg List.length hcs; simpa using this
              · have := congrArg List.length hcs
                rw [length_spliceL _ _ _ (by simp [harr]; exact hle hn0)] at this
                simpa using this
            -- into the block, as far as it is told
            have inside : len + new.length ≤ m → i + len + new.length ≤ es.length → EGood P o a c (.sl r z i (len + new.length) cap) (hupd c.hp r (some (spliceL es (i + len) new))) nx := by
              intro hfit hle
              obtain ⟨w', cs', g1, g2, g3, g4, g5, g6, g7⟩ := inplace hfit
              have hget := hcells w' cs' g3 g4
              obtain ⟨k1, k2⟩ := write_rel hh hes hι h3 g2 (hsize cs' g3 g4) g5 g6 g7 (es' := spliceL es (i + len) new) (by
                intro k y hk
                rw [getElem?_spliceL _ _ _ (by omega)] at hk
                split at hk
                · rename_i hkr
                  obtain ⟨h7, h8⟩ := hrowrel _ y hk
                  refine ⟨h7.trans hps.symm, fun j av hj => ?_⟩
                  obtain ⟨u, h9, h10⟩ := h8 j av hj
                  refine ⟨u, ?_, h10⟩
                  have hjl := (List.getElem?_eq_some_iff.1 hj).1
                  rw [hps, hget]
                  have hq : p.O + k * z + j = p.O + (i + len) * z + ((k - (i + len)) * z + j) := by
                    have : k * z = (i + len) * z + (k - (i + len)) * z := by rw [← Nat.add_mul]; congr 1; omega
                    omega
                  have hlt2 : (k - (i + len)) * z + j < new.length * z := by
                    have := Nat.mul_le_mul_right z (show (k - (i + len)) + 1 ≤ new.length by omega)
                    rw [Nat.add_mul] at this; omega
                  rw [if_pos (by omega), hq, Nat.add_sub_cancel_left]
                  rw [← getElem?_arr]; exact h9
                · rename_i hkr
                  obtain ⟨h7, h8⟩ := h6 k y hk
                  refine ⟨h7, fun j av hj => ?_⟩
                  have hjl := (List.getElem?_eq_some_iff.1 hj).1
                  rw [hget, if_neg]
                  · exact h8 j av hj
                  · rintro ⟨q1, q2⟩
                    rw [hps] at q1 q2 h7
                    rcases Nat.lt_or_ge k (i + len) with hlt | hge
                    · have := Nat.mul_le_mul_right z (Nat.succ_le_of_lt hlt)
                      rw [Nat.succ_mul] at this; omega
                    · have hk2 : i + len + new.length ≤ k := by omega
                      have := Nat.mul_le_mul_right z hk2
                      rw [Nat.add_mul] at this; omega)
              exact ⟨_, w', c.ι, hexec _ _ g1, k2, k1, .sl hι hps ha (by omega) hcap hN hE hpm⟩
            split at hA
            · -- the room is known
              rename_i cp
              have hcp := hcap cp rfl
              split at hA
              · split at hA
                · simp only [Option.some.injEq, Prod.mk.injEq] at hA
                  obtain ⟨rfl, rfl, rfl⟩ := hA
                  exact inside (by omega) (by omega)
                · simp at hA
              · split at hA
                · simp only [Option.some.injEq, Prod.mk.injEq] at hA
                  obtain ⟨rfl, rfl, rfl⟩ := hA
                  exact hfresh (by omega) (by assumption)
                · simp at hA
            · split at hA
              · rename_i hle
                simp only [Option.some.injEq, Prod.mk.injEq] at hA
                obtain ⟨rfl, rfl, rfl⟩ := hA
                have hroom' := hroom rfl
                exact inside (by omega) (by omega)
              · rename_i hle
                split at hA
                · rename_i hby
                  simp only [Option.some.injEq, Prod.mk.injEq] at hA
                  obtain ⟨rfl, rfl, rfl⟩ := hA
                  by_cases hfit : len + new.length ≤ m
                  · obtain ⟨w', cs', g1, g2, g3, g4, g5, g6, g7⟩ := inplace hfit
                    have hget := hcells w' cs' g3 g4
                    have hm0 : m ≠ 0 := by omega
                    obtain ⟨k1, k2⟩ := move_rel hh hes hι h3 g2 (hsize cs' g3 g4) (p' := ⟨p.B, p.O + i * z, z, p.N, []⟩) rfl rfl (by have h11 := hN hm0; rw [Nat.add_mul] at h11; show p.O + i * z ≤ p.N; omega) g5 g6 g7 (es' := (es.drop i).take len ++ new) (by
                      intro k y hk
                      by_cases hkl : k < len
                      · rw [List.getElem?_append_left (by omega), List.getElem?_take, if_pos hkl, List.getElem?_drop] at hk
                        obtain ⟨h7, h8⟩ := h6 _ y hk
                        refine ⟨h7.trans hps, fun j av hj => ?_⟩
                        have hjl := (List.getElem?_eq_some_iff.1 hj).1
                        obtain ⟨u, h9, h10⟩ := h8 j av hj
                        refine ⟨u, ?_, h10⟩
                        rw [hps] at h9 h7
                        have hpos : p.O + i * z + k * z + j = p.O + (i + k) * z + j := by rw [Nat.add_mul]; omega
                        have hlt : (i + k + 1) * z ≤ (i + len) * z := Nat.mul_le_mul_right _ (by omega)
                        rw [Nat.add_mul (i + k) 1] at hlt
                        rw [hpos, hget, if_neg (by omega)]; exact h9
                      · rw [List.getElem?_append_right (by omega), hdl] at hk
                        obtain ⟨h7, h8⟩ := hrowrel _ y hk
                        refine ⟨h7, fun j av hj => ?_⟩
                        have hjl := (List.getElem?_eq_some_iff.1 hj).1
                        have hkn := (List.getElem?_eq_some_iff.1 hk).1
                        obtain ⟨u, h9, h10⟩ := h8 j av hj
                        refine ⟨u, ?_, h10⟩
                        have hq : p.O + i * z + k * z + j = p.O + (i + len) * z + ((k - len) * z + j) := by
                          have h11 : k * z = len * z + (k - len) * z := by rw [← Nat.add_mul]; congr 1; omega
                          rw [Nat.add_mul]; omega
                        have hlt2 : (k - len) * z + j < new.length * z := by
                          have := Nat.mul_le_mul_right z (show (k - len) + 1 ≤ new.length by omega)
                          rw [Nat.add_mul] at this; omega
                        rw [hq, hget, if_pos (by omega), Nat.add_sub_cancel_left, ← getElem?_arr]; exact h9)
                    refine ⟨_, w', _, hexec _ _ g1, k2, k1, .sl (p := ⟨p.B, p.O + i * z, z, p.N, []⟩) (by simp [iupd]) rfl (fun h => by rw [ha hm0]; simp) hfit (fun m hm => by simp at hm) (fun _ => ?_) (fun _ => ?_) (by have h11 := hN hm0; rw [Nat.add_mul] at h11; show p.O + i * z ≤ p.N; omega)⟩
                    · have := hN hm0
                      show p.O + i * z + (0 + m) * z ≤ p.N
                      rw [Nat.add_mul] at this; simp; omega
                    · have := hE rfl
                      show p.O + i * z + (0 + m) * z = p.N
                      rw [Nat.add_mul] at this; simp; omega
                  · obtain ⟨u, w', ι', q1, q2, q3, q4⟩ := hfresh hfit hby
                    have hrn : r ≠ nx := fun h => by have := hh.lt r p hι; omega
                    obtain ⟨k1, k2⟩ := sub_rel q3 (hp' := hupd (hupd c.hp r none) nx (some ((es.drop i).take len ++ new))) (by
                      intro q
                      by_cases hq : q = nx
                      · left; simp [hupd, hq]
                      · by_cases hq2 : q = r
                        · right; subst hq2; simp [hupd, hq]
                        · left; simp [hupd, hq, hq2])
                    exact ⟨u, w', ι', q1, q2.trans k2, k1, q4.mono k2⟩
                · simp at hA
      
    · simp at hA
  · simp at hA

end Go.Ai
