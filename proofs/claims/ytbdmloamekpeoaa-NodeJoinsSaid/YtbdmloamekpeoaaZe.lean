/- slices.Grow of nil, slices.Concat. (printed by ze.py) -/
import Derived.Test.YtbdmloamekpeoaaZd
namespace Go.Ai
set_option linter.unusedVariables false
set_option linter.unusedSimpArgs false

/-- One behind the other. -/
def catL {α : Type} (es : List (List α)) : List α := es.flatten
theorem cat_take {α : Type} {es : List (List α)} {j : Nat} (h : j < es.length) : catL (es.take (j + 1)) = catL (es.take j) ++ es[j] := by
  have e : es.take (j + 1) = es.take j ++ [es[j]] := by rw [List.take_add_one, List.getElem?_eq_getElem h]; rfl
  rw [e]; simp only [catL, List.flatten_append, List.flatten_cons, List.flatten_nil, List.append_nil]
theorem cat_le {α : Type} (es : List (List α)) (j : Nat) : (catL (es.take j)).length ≤ (catL es).length := by
  have e : catL es = catL (es.take j) ++ catL (es.drop j) := by simp only [catL]; rw [← List.flatten_append, List.take_append_drop]
  rw [e, List.length_append]; omega
/-- Slices, as the elements of a slice. -/
def SlAs {α : Type} (n : Nat) (f : α → List AV) (es : List (List α)) (xs : List AV) : Prop := xs.length = es.length ∧ ∀ (i : Nat) (h : i < es.length) (h' : i < xs.length), SlA n (es[i].map f) xs[i]
theorem SlAs.closed {α : Type} {n : Nat} {f : α → List AV} (hf : ∀ l : List α, closedLL (l.map f) = true) {es : List (List α)} {xs : List AV} (h : SlAs n f es xs) : closedLL (xs.map fun x => [x]) = true := by
  have key : ∀ l : List AV, (∀ x ∈ l, x.closed = true) → closedLL (l.map fun x => [x]) = true := by
    intro l
    induction l with
    | nil => intro _; rfl
    | cons x r ih => intro h; simp [h x (by simp)]; exact ih fun y hy => h y (by simp [hy])
  refine key xs fun x hx => ?_
  obtain ⟨i, hi, rfl⟩ := List.getElem_of_mem hx
  obtain ⟨_, _, _, e⟩ := (h.2 i (by rw [← h.1]; exact hi) hi).shape
  rw [e]
  exact hf _
theorem iaddr_row {xs : List AV} {k : IntKind} {j : Nat} {c : Option Nat} (h : j < xs.length) : iaddrA 1 (.rs false 1 (xs.map fun x => [x]) c) (.v (.int k (j : Int))) = some (.rp [xs[j]]) := by simp [h]
theorem splice_fill {L new Z : Blk} {n m : Nat} (h : L.length = n) (hm : n + new.length ≤ m) : spliceL (L ++ Z.drop n) n new = (L ++ new) ++ Z.drop (n + new.length) := by
  subst h
  simp only [spliceL]
  rw [List.take_left, List.drop_append, List.drop_drop]
  simp only [List.append_assoc]
  have : L.drop (L.length + new.length) = [] := List.drop_eq_nil_of_le (by omega)
  rw [this, List.nil_append]
  congr 3; omega

theorem f63 (n : Nat) (hn : 0 < n) (hl : n ≤ 1000000) (hp : Heap) (nx : Nat) : Ret E 63 [.rs true 0 [] (some 0), .v (.int .i64 n)] hp nx (.sl nx 3 0 0 none) (hupd hp nx (some (List.replicate n [.str [], .v (.int .i64 0), .v (.int .i64 0)]))) (nx + 1) .e := by
  have main := (Ret_genE (P := fun v hp' nx' => v = .sl nx 3 0 0 none ∧ hp' = hupd hp nx (some (List.replicate n [.str [], .v (.int .i64 0), .v (.int .i64 0)])) ∧ nx' = nx + 1) e63 (args := [.rs true 0 [] (some 0), .v (.int .i64 n)]) rfl (hp := hp) (nx := nx) ?_)
  · obtain ⟨v, hp', nx', h1, rfl, rfl, rfl⟩ := main
    exact h1
  have h1 : ¬ (n : Int) < 0 := by omega
  have h2 : (0 : Int) < n := by omega
  have h3 : IntKind.wrap .i64 (n : Int) = n := by rw [wrap_id] <;> omega
  have h4 : IntKind.wrap .i64 0 = 0 := rfl
  have hA : appzA 3 32 [.str [], .v (.int .i64 0), .v (.int .i64 0)] (.rs true 0 [] (some 0)) (.v (.int .i64 (n : Int))) hp nx = some (.sl nx 3 0 n none, hupd hp nx (some (List.replicate n [.str [], .v (.int .i64 0), .v (.int .i64 0)])), nx + 1) := by
    simp only [appzA]
    rw [if_pos ⟨by omega, by omega, by omega, rfl, rfl⟩]
    simp only [appA, List.length_replicate, Int.toNat_natCast]
    rw [if_pos (.inl trivial), if_neg (by omega), if_pos ⟨by simp only [List.length_nil]; omega, by simp only [List.length_nil]; omega⟩]
    simp
  simp [c63, h1, h2, h3, h4, sliceA, boundsA, idxOf, capCut, hA, -Int.ofNat_lt, -Int.natCast_pos]

theorem f44 (es : List (List Itm)) (xs : List AV) (c : Option Nat) (h : SlAs 3 Itm.cells es xs) (hn : es.length ≤ 1000) (hs : (catL es).length ≤ 1000000) :
    ∃ z, SlA 3 ((catL es).map Itm.cells) z ∧ ∀ hp nx, Ret E 44 [.rs false 1 (xs.map fun x => [x]) c] hp nx z hp nx .p := by
  refine ⟨if (catL es).length = 0 then .rs true 0 [] (some 0) else .rs false 3 ((catL es).map Itm.cells) none, ?_, fun hp nx => ?_⟩
  · split
    · rename_i h0
      have : catL es = [] := by simpa using h0
      exact ⟨true, 0, _, by rw [this]; rfl, .inl rfl, fun _ => by rw [this]; rfl⟩
    · exact ⟨false, _, _, rfl, .inr rfl, fun h => by cases h⟩
  have hcl := h.closed (fun l => closed_items)
  have hone : ∀ l : List Itm, (l.map Itm.cells).all (fun l => l.all AV.one) = true := one_items
  obtain ⟨hxl, hx⟩ := h
  refine Ret_pureQ e44 rfl (by simp only [closedL, AV.closed, hcl, Bool.and_self]) ?_ hp nx
  simp [c44]
  refine W_loopI (I := fun (j : Nat) s' => j ≤ es.length ∧ s'.tm 11 = .int .i64 j ∧ s'.tm 10 = .int .i64 xs.length ∧ s'.tm 9 = .rs false 1 (xs.map fun x => [x]) c ∧ s'.tm 0 = .rs false 1 (xs.map fun x => [x]) c ∧ s'.tm 3 = .int .i64 (catL (es.take j)).length ∧ s'.nx = 0 ∧ s'.hp = hnil) (fun j => es.length - j) 0 (by simp [catL]) ?_
  rintro j tm hp nx ⟨hj, t11, t10, t9, t0, t3, hnx, hhp⟩
  simp only at hj t11 t10 t9 t0 t3 hnx hhp
  subst hnx; subst hhp
  by_cases hlt : j < es.length
  · have hlx : j < xs.length := by omega
    have hlt' : (j : Int) < xs.length := by omega
    have hst := congrArg List.length (cat_take hlt)
    rw [List.length_append] at hst
    have hle := cat_le es (j + 1)
    have hia := iaddr_row (k := .i64) (c := c) hlx
    obtain ⟨nil, sz, cap, hxe, hz, hnl⟩ := hx j hlt hlx
    have hlen : lenA xs[j] = some (.v (.int .i64 (es[j].length : Nat))) := by rw [hxe]; simp
    have hw : IntKind.wrap .i64 ((j : Int) + 1) = (j + 1 : Nat) := by rw [wrap_id] <;> omega
    generalize hA : (catL (es.take j)).length = A at *
    generalize hB : (catL (es.take (j + 1))).length = B at *
    have hw2 : IntKind.wrap .i64 ((A : Int) + (es[j].length : Nat)) = (B : Nat) := by rw [wrap_id] <;> omega
    have hneg : ¬ (B : Int) < 0 := by omega
    simp [t11, t10, t9, t0, t3, hlt', hia, hlen, hw, hw2, hneg, -iaddrA_rs, -Int.ofNat_lt, -Int.natCast_add]
    exact ⟨j + 1, by omega, by omega, rfl, by rw [hB]⟩
  have hje : j = es.length := by omega
  subst hje
  have htake : es.take es.length = es := List.take_length
  rw [htake] at t3
  by_cases h0 : (catL es).length = 0
  · have hem : ∀ (j : Nat) (h : j < es.length), es[j] = [] := by
      intro j h
      have := cat_le es (j + 1)
      rw [cat_take h, List.length_append] at this
      exact List.length_eq_zero_iff.1 (by omega)
    have hG : ∀ hp nx, Ret E 63 [.rs true 0 [] (some 0), .v (.int .i64 0)] hp nx (.rs true 0 [] (some 0)) hp nx .p := by
      intro hp nx
      refine Ret_pureQ e63 rfl (by simp) ?_ hp nx
      have h4 : IntKind.wrap .i64 0 = 0 := rfl
      simp [c63, h4, frz_closed]
    rw [h0] at t3
    simp [t11, t10, hxl, t3]
    refine WCall_p (hG _ _) ?_
    simp [t0]
    refine W_loopI (I := fun (j : Nat) s' => j ≤ es.length ∧ s'.tm 27 = .int .i64 j ∧ s'.tm 26 = .int .i64 xs.length ∧ s'.tm 25 = .rs false 1 (xs.map fun x => [x]) c ∧ s'.tm 6 = .rs true 0 [] (some 0)) (fun j => es.length - j) 0 (by simp) ?_
    rintro j tm hp nx ⟨hj, t27, t26, t25, t6⟩
    simp only at hj t27 t26 t25 t6
    by_cases hlt : j < es.length
    · have hlx : j < xs.length := by omega
      have hlt' : (j : Int) < xs.length := by omega
      have hia := iaddr_row (k := .i64) (c := c) hlx
      have hw : IntKind.wrap .i64 ((j : Int) + 1) = (j + 1 : Nat) := by rw [wrap_id] <;> omega
      obtain ⟨nil, sz, cap, hxe, hz, hnl⟩ := hx j hlt hlx
      rw [hem j hlt] at hxe
      have happ : appendA 3 32 (.rs true 0 [] (some 0)) xs[j] hp nx = some (.rs true 0 [] (some 0), hp, nx) := by
        rw [hxe, appendA_rs hz]; simp [appA]
      simp [t27, t26, t25, t6, hlt', hia, hw, happ, -iaddrA_rs, -Int.ofNat_lt, -Int.natCast_add]
      exact ⟨j + 1, by omega, by omega, rfl⟩
    · have : j = es.length := by omega
      subst this
      have : ¬ (es.length : Int) < xs.length := by omega
      simp [t27, t26, t6, this, List.length_eq_zero_iff.1 h0, frz_closed, -Int.ofNat_lt]
  · simp [t11, t10, hxl, t3]
    refine WCall_k (f63 (catL es).length (by omega) hs _ _) ?_
    simp [t0]
    generalize hT : (catL es).length = T at *
    generalize hZ : List.replicate T ([.str [], .v (.int .i64 0), .v (.int .i64 0)] : List AV) = Z
    have hZl : Z.length = T := by rw [← hZ]; simp
    refine W_loopI (I := fun (j : Nat) s' => j ≤ es.length ∧ s'.tm 27 = .int .i64 j ∧ s'.tm 26 = .int .i64 xs.length ∧ s'.tm 25 = .rs false 1 (xs.map fun x => [x]) c ∧ s'.tm 6 = .sl 0 3 0 (catL (es.take j)).length none ∧ s'.hp 0 = some ((catL (es.take j)).map Itm.cells ++ Z.drop (catL (es.take j)).length)) (fun j => es.length - j) 0 (by simp [catL, hZ]) ?_
    rintro j tm hp nx ⟨hj, t27, t26, t25, t6, hh⟩
    simp only at hj t27 t26 t25 t6 hh
    by_cases hlt : j < es.length
    · have hlx : j < xs.length := by omega
      have hlt' : (j : Int) < xs.length := by omega
      have hia := iaddr_row (k := .i64) (c := c) hlx
      have hw : IntKind.wrap .i64 ((j : Int) + 1) = (j + 1 : Nat) := by rw [wrap_id] <;> omega
      obtain ⟨nil, sz, cap, hxe, hz, hnl⟩ := hx j hlt hlx
      have hst := cat_take hlt
      have hle := cat_le es (j + 1)
      rw [hst, List.length_append] at hle
      have happ : appendA 3 32 (.sl 0 3 0 (catL (es.take j)).length none) xs[j] hp nx = some (.sl 0 3 0 (catL (es.take (j + 1))).length none, hupd hp 0 (some ((catL (es.take (j + 1))).map Itm.cells ++ Z.drop (catL (es.take (j + 1))).length)), nx) := by
        rw [hxe, appendA_rs hz, if_pos (hone _)]
        simp only [appA, if_true, hh, Nat.zero_add]
        rw [if_neg (by simp only [List.length_append, List.length_map, List.length_drop]; omega), if_pos (by simp only [List.length_append, List.length_map, List.length_drop]; omega), splice_fill (m := T) (by simp) (by simp only [List.length_map]; omega)]
        rw [hst]
        simp only [List.map_append, List.length_append, List.length_map]
      simp [t27, t26, t25, t6, hlt', hia, hw, happ, -iaddrA_rs, -Int.ofNat_lt, -Int.natCast_add]
      exact ⟨j + 1, by omega, by omega, rfl, rfl, rfl⟩
    · have : j = es.length := by omega
      subst this
      rw [htake, hT] at t6 hh
      have hdz : Z.drop T = [] := List.drop_eq_nil_of_le (by omega)
      rw [hdz, List.append_nil] at hh
      have : ¬ (es.length : Int) < xs.length := by omega
      have hfz := frz_sl (k := 4) (r := 0) (sz := 3) (i := 0) (len := T) (cap := none) hh (by simp [hT]) (by rw [List.drop_zero, List.take_of_length_le (by simp [hT])]; simp)
      have htk : (((catL es).map Itm.cells).drop 0).take T = (catL es).map Itm.cells := by rw [List.drop_zero]; exact List.take_of_length_le (by simp [hT])
      rw [htk] at hfz
      have hne : ¬ catL es = [] := fun e => h0 (by rw [← hT, e]; rfl)
      simp [t27, t26, t6, this, h0, hfz, hne, -Int.ofNat_lt]

theorem f64 (n : Nat) (hn : 0 < n) (hl : n ≤ 1000000) (hp : Heap) (nx : Nat) : Ret E 64 [.rs true 0 [] (some 0), .v (.int .i64 n)] hp nx (.sl nx 1 0 0 none) (hupd hp nx (some (List.replicate n [.v (.int .i64 0)]))) (nx + 1) .e := by
  have main := (Ret_genE (P := fun v hp' nx' => v = .sl nx 1 0 0 none ∧ hp' = hupd hp nx (some (List.replicate n [.v (.int .i64 0)])) ∧ nx' = nx + 1) e64 (args := [.rs true 0 [] (some 0), .v (.int .i64 n)]) rfl (hp := hp) (nx := nx) ?_)
  · obtain ⟨v, hp', nx', h1, rfl, rfl, rfl⟩ := main
    exact h1
  have h1 : ¬ (n : Int) < 0 := by omega
  have h2 : (0 : Int) < n := by omega
  have h3 : IntKind.wrap .i64 (n : Int) = n := by rw [wrap_id] <;> omega
  have h4 : IntKind.wrap .i64 0 = 0 := rfl
  have hA : appzA 1 8 [.v (.int .i64 0)] (.rs true 0 [] (some 0)) (.v (.int .i64 (n : Int))) hp nx = some (.sl nx 1 0 n none, hupd hp nx (some (List.replicate n [.v (.int .i64 0)])), nx + 1) := by
    simp only [appzA]
    rw [if_pos ⟨by omega, by omega, by omega, rfl, rfl⟩]
    simp only [appA, List.length_replicate, Int.toNat_natCast]
    rw [if_pos (.inl trivial), if_neg (by omega), if_pos ⟨by simp only [List.length_nil]; omega, by simp only [List.length_nil]; omega⟩]
    simp
  simp [c64, h1, h2, h3, h4, sliceA, boundsA, idxOf, capCut, hA, -Int.ofNat_lt, -Int.natCast_pos]

theorem f45 (es : List (List Int)) (xs : List AV) (c : Option Nat) (h : SlAs 1 kidC es xs) (hn : es.length ≤ 1000) (hs : (catL es).length ≤ 1000000) :
    ∃ z, SlA 1 ((catL es).map kidC) z ∧ ∀ hp nx, Ret E 45 [.rs false 1 (xs.map fun x => [x]) c] hp nx z hp nx .p := by
  refine ⟨if (catL es).length = 0 then .rs true 0 [] (some 0) else .rs false 1 ((catL es).map kidC) none, ?_, fun hp nx => ?_⟩
  · split
    · rename_i h0
      have : catL es = [] := by simpa using h0
      exact ⟨true, 0, _, by rw [this]; rfl, .inl rfl, fun _ => by rw [this]; rfl⟩
    · exact ⟨false, _, _, rfl, .inr rfl, fun h => by cases h⟩
  have hcl := h.closed (fun l => closed_kids)
  have hone : ∀ l : List Int, (l.map kidC).all (fun l => l.all AV.one) = true := one_kids
  obtain ⟨hxl, hx⟩ := h
  refine Ret_pureQ e45 rfl (by simp only [closedL, AV.closed, hcl, Bool.and_self]) ?_ hp nx
  simp [c45]
  refine W_loopI (I := fun (j : Nat) s' => j ≤ es.length ∧ s'.tm 11 = .int .i64 j ∧ s'.tm 10 = .int .i64 xs.length ∧ s'.tm 9 = .rs false 1 (xs.map fun x => [x]) c ∧ s'.tm 0 = .rs false 1 (xs.map fun x => [x]) c ∧ s'.tm 3 = .int .i64 (catL (es.take j)).length ∧ s'.nx = 0 ∧ s'.hp = hnil) (fun j => es.length - j) 0 (by simp [catL]) ?_
  rintro j tm hp nx ⟨hj, t11, t10, t9, t0, t3, hnx, hhp⟩
  simp only at hj t11 t10 t9 t0 t3 hnx hhp
  subst hnx; subst hhp
  by_cases hlt : j < es.length
  · have hlx : j < xs.length := by omega
    have hlt' : (j : Int) < xs.length := by omega
    have hst := congrArg List.length (cat_take hlt)
    rw [List.length_append] at hst
    have hle := cat_le es (j + 1)
    have hia := iaddr_row (k := .i64) (c := c) hlx
    obtain ⟨nil, sz, cap, hxe, hz, hnl⟩ := hx j hlt hlx
    have hlen : lenA xs[j] = some (.v (.int .i64 (es[j].length : Nat))) := by rw [hxe]; simp
    have hw : IntKind.wrap .i64 ((j : Int) + 1) = (j + 1 : Nat) := by rw [wrap_id] <;> omega
    generalize hA : (catL (es.take j)).length = A at *
    generalize hB : (catL (es.take (j + 1))).length = B at *
    have hw2 : IntKind.wrap .i64 ((A : Int) + (es[j].length : Nat)) = (B : Nat) := by rw [wrap_id] <;> omega
    have hneg : ¬ (B : Int) < 0 := by omega
    simp [t11, t10, t9, t0, t3, hlt', hia, hlen, hw, hw2, hneg, -iaddrA_rs, -Int.ofNat_lt, -Int.natCast_add]
    exact ⟨j + 1, by omega, by omega, rfl, by rw [hB]⟩
  have hje : j = es.length := by omega
  subst hje
  have htake : es.take es.length = es := List.take_length
  rw [htake] at t3
  by_cases h0 : (catL es).length = 0
  · have hem : ∀ (j : Nat) (h : j < es.length), es[j] = [] := by
      intro j h
      have := cat_le es (j + 1)
      rw [cat_take h, List.length_append] at this
      exact List.length_eq_zero_iff.1 (by omega)
    have hG : ∀ hp nx, Ret E 64 [.rs true 0 [] (some 0), .v (.int .i64 0)] hp nx (.rs true 0 [] (some 0)) hp nx .p := by
      intro hp nx
      refine Ret_pureQ e64 rfl (by simp) ?_ hp nx
      have h4 : IntKind.wrap .i64 0 = 0 := rfl
      simp [c64, h4, frz_closed]
    rw [h0] at t3
    simp [t11, t10, hxl, t3]
    refine WCall_p (hG _ _) ?_
    simp [t0]
    refine W_loopI (I := fun (j : Nat) s' => j ≤ es.length ∧ s'.tm 27 = .int .i64 j ∧ s'.tm 26 = .int .i64 xs.length ∧ s'.tm 25 = .rs false 1 (xs.map fun x => [x]) c ∧ s'.tm 6 = .rs true 0 [] (some 0)) (fun j => es.length - j) 0 (by simp) ?_
    rintro j tm hp nx ⟨hj, t27, t26, t25, t6⟩
    simp only at hj t27 t26 t25 t6
    by_cases hlt : j < es.length
    · have hlx : j < xs.length := by omega
      have hlt' : (j : Int) < xs.length := by omega
      have hia := iaddr_row (k := .i64) (c := c) hlx
      have hw : IntKind.wrap .i64 ((j : Int) + 1) = (j + 1 : Nat) := by rw [wrap_id] <;> omega
      obtain ⟨nil, sz, cap, hxe, hz, hnl⟩ := hx j hlt hlx
      rw [hem j hlt] at hxe
      have happ : appendA 1 8 (.rs true 0 [] (some 0)) xs[j] hp nx = some (.rs true 0 [] (some 0), hp, nx) := by
        rw [hxe, appendA_rs hz]; simp [appA]
      simp [t27, t26, t25, t6, hlt', hia, hw, happ, -iaddrA_rs, -Int.ofNat_lt, -Int.natCast_add]
      exact ⟨j + 1, by omega, by omega, rfl⟩
    · have : j = es.length := by omega
      subst this
      have : ¬ (es.length : Int) < xs.length := by omega
      simp [t27, t26, t6, this, List.length_eq_zero_iff.1 h0, frz_closed, -Int.ofNat_lt]
  · simp [t11, t10, hxl, t3]
    refine WCall_k (f64 (catL es).length (by omega) hs _ _) ?_
    simp [t0]
    generalize hT : (catL es).length = T at *
    generalize hZ : List.replicate T ([.v (.int .i64 0)] : List AV) = Z
    have hZl : Z.length = T := by rw [← hZ]; simp
    refine W_loopI (I := fun (j : Nat) s' => j ≤ es.length ∧ s'.tm 27 = .int .i64 j ∧ s'.tm 26 = .int .i64 xs.length ∧ s'.tm 25 = .rs false 1 (xs.map fun x => [x]) c ∧ s'.tm 6 = .sl 0 1 0 (catL (es.take j)).length none ∧ s'.hp 0 = some ((catL (es.take j)).map kidC ++ Z.drop (catL (es.take j)).length)) (fun j => es.length - j) 0 (by simp [catL, hZ]) ?_
    rintro j tm hp nx ⟨hj, t27, t26, t25, t6, hh⟩
    simp only at hj t27 t26 t25 t6 hh
    by_cases hlt : j < es.length
    · have hlx : j < xs.length := by omega
      have hlt' : (j : Int) < xs.length := by omega
      have hia := iaddr_row (k := .i64) (c := c) hlx
      have hw : IntKind.wrap .i64 ((j : Int) + 1) = (j + 1 : Nat) := by rw [wrap_id] <;> omega
      obtain ⟨nil, sz, cap, hxe, hz, hnl⟩ := hx j hlt hlx
      have hst := cat_take hlt
      have hle := cat_le es (j + 1)
      rw [hst, List.length_append] at hle
      have happ : appendA 1 8 (.sl 0 1 0 (catL (es.take j)).length none) xs[j] hp nx = some (.sl 0 1 0 (catL (es.take (j + 1))).length none, hupd hp 0 (some ((catL (es.take (j + 1))).map kidC ++ Z.drop (catL (es.take (j + 1))).length)), nx) := by
        rw [hxe, appendA_rs hz, if_pos (hone _)]
        simp only [appA, if_true, hh, Nat.zero_add]
        rw [if_neg (by simp only [List.length_append, List.length_map, List.length_drop]; omega), if_pos (by simp only [List.length_append, List.length_map, List.length_drop]; omega), splice_fill (m := T) (by simp) (by simp only [List.length_map]; omega)]
        rw [hst]
        simp only [List.map_append, List.length_append, List.length_map]
      simp [t27, t26, t25, t6, hlt', hia, hw, happ, -iaddrA_rs, -Int.ofNat_lt, -Int.natCast_add]
      exact ⟨j + 1, by omega, by omega, rfl, rfl, rfl⟩
    · have : j = es.length := by omega
      subst this
      rw [htake, hT] at t6 hh
      have hdz : Z.drop T = [] := List.drop_eq_nil_of_le (by omega)
      rw [hdz, List.append_nil] at hh
      have : ¬ (es.length : Int) < xs.length := by omega
      have hfz := frz_sl (k := 4) (r := 0) (sz := 1) (i := 0) (len := T) (cap := none) hh (by simp [hT]) (by rw [List.drop_zero, List.take_of_length_le (by simp [hT])]; simp)
      have htk : (((catL es).map kidC).drop 0).take T = (catL es).map kidC := by rw [List.drop_zero]; exact List.take_of_length_le (by simp [hT])
      rw [htk] at hfz
      have hne : ¬ catL es = [] := fun e => h0 (by rw [← hT, e]; rfl)
      simp [t27, t26, t6, this, h0, hfz, hne, -Int.ofNat_lt]
end Go.Ai
