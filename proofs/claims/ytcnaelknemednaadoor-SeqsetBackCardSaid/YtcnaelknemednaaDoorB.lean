/- Spans: ends, what covers, looking through slices. -/
import Derived.Test.YtcnaelknemednaaDoorC
import Derived.Test.YtcnaelknemednaaDoorAiLib
namespace Go.Ai
set_option linter.unusedVariables false
set_option linter.unusedSimpArgs false

/-- A slice that nobody writes. -/
def SlA (n : Nat) (es : List (List AV)) (x : AV) : Prop := ∃ nil sz cap, x = .rs nil sz es cap ∧ (nil = true ∨ sz = n) ∧ (nil = true → es = [])
def kidC (k : Int) : List AV := [.v (.int .i64 k)]
theorem closedLL_map {α : Type} {f : α → List AV} (h : ∀ x, closedL (f x) = true) : ∀ l : List α, closedLL (l.map f) = true
  | [] => by simp
  | x :: r => by simp [h x, closedLL_map h r]
@[simp] theorem closed_kids {l : List Int} : closedLL (l.map kidC) = true := closedLL_map (fun x => by simp [kidC]) l
@[simp] theorem closed_sps {l : List Sp} : closedLL (l.map cellsP) = true := closedLL_map (fun x => by simp [cellsP]) l

/-- Where the first stands that is so; -1: none is. -/
def firstS {α : Type} (p : α → Bool) : List α → Int → Int
  | [], _ => -1
  | x :: r, i => if p x then i else firstS p r (i + 1)
theorem firstS_any {α : Type} (p : α → Bool) : ∀ (l : List α) (i : Int), 0 ≤ i → decide (0 ≤ firstS p l i) = l.any p
  | [], i, _ => by simp [firstS]
  | x :: r, i, h => by
    simp only [firstS, List.any_cons]
    split
    · rename_i hx; simp [hx, h]
    · rename_i hx; simp [hx, firstS_any p r (i + 1) (by omega)]
theorem firstS_skip {α : Type} (p : α → Bool) : ∀ (l : List α) (j : Nat) (i : Int), j ≤ l.length → (∀ x ∈ l.take j, p x = false) → firstS p l i = firstS p (l.drop j) (i + j)
  | _, 0, i, _, _ => by simp
  | [], j + 1, i, h, _ => by simp at h
  | x :: r, j + 1, i, h, h2 => by
    have hx := h2 x (by simp)
    simp only [firstS, hx]
    rw [if_neg (by simp), firstS_skip p r j (i + 1) (by simpa using h) (fun y hy => h2 y (by simp [hy]))]
    simp; congr 1; omega
theorem take_succ_all {α : Type} {p : α → Bool} {l : List α} {j : Nat} {x : α} (hj : l[j]? = some x) (h : ∀ y ∈ l.take j, p y = false) (hx : p x = false) : ∀ y ∈ l.take (j + 1), p y = false := by
  intro y hy
  rw [List.take_add_one, hj] at hy
  simp at hy
  rcases hy with hy | rfl
  · exact h y hy
  · exact hx
/-- An address within a slice that nobody writes. -/
theorem iaddr_in {n : Nat} {nil sz k es cap} {i : Int} {j : Nat} {c : List AV} (hz : (nil = true ∨ sz = n) ∧ (nil = true → es = [])) (hj : es[j]? = some c) (hi : i = (j : Int)) : iaddrA n (.rs nil sz es cap) (.v (.int k i)) = some (.rp c) := by
  have hne : es ≠ [] := by intro e; subst e; simp at hj
  have := hz.1.resolve_left fun h => hne (hz.2 h)
  subst this; subst hi
  simp [hj]

/-- A call that leaves the memory as it was, but for names. -/
abbrev KeptH (E : Env) (f : Nat) (args : List AV) (hp : Heap) (nx : Nat) (v : AV) : Prop := ∃ hp' nx', Ret E f args hp nx v hp' nx' .e ∧ nx ≤ nx' ∧ ∀ r, r < nx → hp' r = hp r
theorem Ret_genS {E : Env} {f : Nat} {cf : CFunc} {args : List AV} {hp : Heap} {nx : Nat} {v : AV} (hf : E.fn f = some cf) (hn : args.length = cf.np)
    (h : W (Ret E) cf.body (genQ cf.res (fun v' hp' nx' => v' = v ∧ nx ≤ nx' ∧ ∀ r, r < nx → hp' r = hp r)) (init args hp nx)) : KeptH E f args hp nx v := by
  obtain ⟨v', hp', nx', h1, rfl, h2⟩ := Ret_genE hf hn h
  exact ⟨hp', nx', h1, h2⟩

theorem f12 (n : Int) (hp nx) : Ret E 12 [.v (.int .i64 n)] hp nx (.v (.int .i64 n)) hp nx .p := by
  refine Ret_pureQ e12 rfl (by simp) ?_ hp nx
  simp [c12]

theorem f26 (x : Sp) (most : Int) (hp nx) : Ret E 26 [.agg (cellsP x), .v (.int .i64 most)] hp nx (.tup [.v (.int .i64 (endsS x most).1), .v (.int .i64 (endsS x most).2.1), .v (.bool (endsS x most).2.2)]) hp nx .p := by
  obtain ⟨a, b⟩ := x
  refine Ret_pureQ e26 rfl (by simp [cellsP]) ?_ hp nx
  simp [c26, cellsP]
  by_cases h1 : a = 0
  · by_cases h2 : most < 1
    · simp [h1, h2, endsS, frz_closed]
    · by_cases h3 : b = 0
      · simp [h1, h2, h3, endsS, spliceL, frz_closed]
      · simp [h1, h2, h3, endsS, spliceL, frz_closed]
  · by_cases h3 : b = 0
    · by_cases h2 : most < 1
      · simp [h1, h2, h3, endsS, spliceL, frz_closed]
      · simp [h1, h2, h3, endsS, spliceL, frz_closed]
    · simp [h1, h3, endsS, frz_closed]

theorem f34 (x : Sp) (n most : Int) (hp : Heap) (nx a b : Nat) (h1 : hp a = some [[.v (.int .i64 most)]]) (h2 : hp b = some [[.v (.int .i64 n)]]) (ha : a < nx) (hb : b < nx) :
    KeptH E 34 [.agg (cellsP x), .ptr a 0 0, .ptr b 0 0] hp nx (.v (.bool (covS most n x))) := by
  refine Ret_genS e34 rfl ?_
  have na : ¬ a = nx := by omega
  have nb : ¬ b = nx := by omega
  obtain ⟨u, w⟩ := x
  simp [c34, cellsP, h1, h2, na, nb]
  refine WCall_p (f26 (u, w) most _ _) ?_
  have fr : ∀ r, r < nx → ¬ r = nx := fun r h => by omega
  cases hs : (endsS (u, w) most).2.2 with
  | false =>
    simp [covS, hs, h1, h2, na, nb]
    exact fun r h => by simp [fr r h]
  | true =>
    by_cases hlo : (endsS (u, w) most).1 ≤ n
    · simp [covS, hs, h1, h2, na, nb, hlo]
      exact fun r h => by simp [fr r h]
    · simp [covS, hs, h1, h2, na, nb, hlo]
      exact fun r h => by simp [fr r h]

/-- Where the first is, in a slice that nobody writes; the question may look at the memory. -/
theorem f32 (p : Sp → Bool) (g : Nat) (cb : List AV) (hp0 : Heap) (nx0 : Nat) (hg : ∀ x hp nx, nx0 ≤ nx → (∀ r, r < nx0 → hp r = hp0 r) → KeptH E g (.agg (cellsP x) :: cb) hp nx (.v (.bool (p x))))
    (es : List Sp) (x : AV) (hx : SlA 2 (es.map cellsP) x) (hlen : es.length ≤ 1000000) : KeptH E 32 [x, .fn (.func g) [] cb] hp0 nx0 (.v (.int .i64 (firstS p es 0))) := by
  obtain ⟨nil, sz, cap, rfl, hz⟩ := hx
  refine Ret_genS e32 rfl ?_
  simp [c32]
  refine W_loopI (I := fun (j : Nat) s => j ≤ es.length ∧ s.tm 8 = .v (.int .i64 j) ∧ s.tm 7 = .v (.int .i64 es.length) ∧ s.tm 0 = .rs nil sz (es.map cellsP) cap ∧ s.tm 1 = .fn (.func g) [] cb ∧ nx0 ≤ s.nx ∧ (∀ r, r < nx0 → s.hp r = hp0 r) ∧ ∀ y ∈ es.take j, p y = false)
    (fun j => es.length - j) 0 (by simp) ?_
  rintro j tm hp nx ⟨hj, h8, h7, h0, h1, hnx, hhp, hno⟩
  simp only at h8 h7 h0 h1 hnx hhp
  by_cases hlt : j < es.length
  · have hget : es[j]? = some es[j] := List.getElem?_eq_getElem hlt
    have hia : iaddrA 2 (.rs nil sz (es.map cellsP) cap) (.v (.int .i64 j)) = some (.rp (cellsP es[j])) := iaddr_in hz (by simp [hget]) rfl
    have hw : IntKind.wrap .i64 ((j : Int) + 1) = (j + 1 : Nat) := by rw [wrap_id] <;> omega
    simp [h8, h7, h0, h1, hlt, -iaddrA_rs, hia]
    refine ⟨by simp [cellsP], ?_⟩
    simp [cellsP]
    obtain ⟨hp', nx', c1, c2, c3⟩ := hg es[j] hp nx hnx hhp
    refine WCall_k c1 ?_
    cases hp : p es[j]
    · simp [h8, h7, h0, h1, hw]
      exact ⟨j + 1, by omega, by omega, by simp, by omega, fun r hr => by rw [c3 r (by omega), hhp r hr], fun a b h => take_succ_all hget hno hp (a, b) h⟩
    · simp
      rw [firstS_skip p es j 0 (by omega) hno, List.drop_eq_getElem_cons hlt]
      exact ⟨by simp [firstS, hp], by omega, fun r hr => by rw [c3 r (by omega), hhp r hr]⟩
  · have : j = es.length := by omega
    subst this
    simp [h8, h7]
    rw [firstS_skip p es _ 0 hj hno]
    exact ⟨by simp [firstS], hnx, hhp⟩

theorem f20 (p : Sp → Bool) (g : Nat) (cb : List AV) (hp0 : Heap) (nx0 : Nat) (hg : ∀ x hp nx, nx0 ≤ nx → (∀ r, r < nx0 → hp r = hp0 r) → KeptH E g (.agg (cellsP x) :: cb) hp nx (.v (.bool (p x))))
    (es : List Sp) (x : AV) (hx : SlA 2 (es.map cellsP) x) (hlen : es.length ≤ 1000000) : KeptH E 20 [x, .fn (.func g) [] cb] hp0 nx0 (.v (.bool (es.any p))) := by
  refine Ret_genS e20 rfl ?_
  obtain ⟨hp', nx', c1, c2, c3⟩ := f32 p g cb hp0 nx0 hg es x hx hlen
  simp [c20]
  refine WCall_k c1 ?_
  simp [firstS_any]
  exact ⟨c2, c3⟩

theorem f25 (l : List Sp) (x : AV) (hx : SlA 2 (l.map cellsP) x) (hlen : l.length ≤ 1000000) (n most : Int) (hp nx) : Ret E 25 [x, .v (.int .i64 n), .v (.int .i64 most)] hp nx (.v (.bool (hasS l n most))) hp nx .p := by
  obtain ⟨nil, sz, cap, rfl, hz⟩ := id hx
  refine Ret_pureQ e25 rfl (by simp) ?_ hp nx
  simp [c25]
  by_cases h1 : 1 ≤ n
  · simp [h1, hasS]
    obtain ⟨hp', nx', c1, c2, c3⟩ := f20 (covS most n) (g := 34) [.ptr 1 0 0, .ptr 0 0 0] (hupd (hupd hnil 0 (some [[.v (.int .i64 n)]])) 1 (some [[.v (.int .i64 most)]])) 2
      (fun x hp nx h1 h2 => f34 x n most hp nx 1 0 (by rw [h2 1 (by omega)]; simp) (by rw [h2 0 (by omega)]; simp) (by omega) (by omega)) l _ hx hlen
    refine WCall_k c1 ?_
    simp
  · simp [h1, hasS]

end Go.Ai
