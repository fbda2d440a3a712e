/- Those that meet are joined; the one way of a set, by the program. -/
import Derived.Test.YtcnaelknemednaaDoorD
namespace Go.Ai
set_option linter.unusedVariables false
set_option linter.unusedSimpArgs false

/-- A slice of one's own, made by append. -/
def OwnN (hp : Heap) (nx sz : Nat) (es : Blk) (x : AV) : Prop := (es = [] ∧ x = .rs true 0 [] (some 0)) ∨ ∃ r, r < nx ∧ x = .sl r sz 0 es.length none ∧ hp r = some es ∧ es ≠ []
theorem OwnN.own {hp nx sz es x} (h : OwnN hp nx sz es x) : OwnS hp nx sz es x := by
  rcases h with ⟨rfl, rfl⟩ | h
  · exact OwnS.nil
  · obtain ⟨r, h1, h2, h3, _⟩ := h
    exact .inr ⟨r, h1, h2, h3⟩
theorem OwnN.nil {hp nx sz} : OwnN hp nx sz [] (.rs true 0 [] (some 0)) := .inl ⟨rfl, rfl⟩
theorem OwnN.keep {hp hp' : Heap} {nx nx' sz : Nat} {es : Blk} {x : AV} (h : OwnN hp nx sz es x) (hn : nx ≤ nx') (hk : ∀ r, r < nx → r ∈ slB x → hp' r = hp r) : OwnN hp' nx' sz es x := by
  rcases h with ⟨rfl, rfl⟩ | ⟨r, h1, rfl, h2, h3⟩
  · exact .nil
  · exact .inr ⟨r, by omega, rfl, by rw [hk r h1 (by simp), h2], h3⟩

theorem wr0 (k : IntKind) : k.wrap 0 = 0 := by cases k <;> decide
theorem wrm1 : IntKind.i64.wrap (-1) = -1 := by decide
theorem wr1 : IntKind.i64.wrap 1 = 1 := by decide
set_option maxRecDepth 100000 in
theorem f54 (hp nx) : Ret E 54 [.v (.int .u64 0)] hp nx (.v (.int .i64 0)) hp nx .p := by
  refine Ret_pureQ e54 rfl (by simp) ?_ hp nx
  simp [c54, wr0]
theorem f41 (hp nx) : Ret E 41 [.v (.int .u64 0)] hp nx (.v (.int .i64 0)) hp nx .p := by
  refine Ret_pureQ e41 rfl (by simp) ?_ hp nx
  simp [c41, wr0]
  exact WCall_p (f54 _ _) (by simp)
theorem f45 (y : AV) (hy : y.closed = true) (hp nx) : Ret E 45 [.rs true 0 [] (some 0), .v (.int .i64 0), .v (.int .i64 0), y] hp nx (.tup []) hp nx .p := by
  refine Ret_pureQ e45 rfl (by simp [hy]) ?_ hp nx
  simp [c45]
  refine W_loopI (I := fun (j : Nat) s => s.tm 8 = .v (.int .i64 1) ∧ s.tm 2 = .v (.int .i64 0) ∧ s.hp = hnil ∧ s.nx = 0) (fun j => j) 0 (by simp [wr1]) ?_
  rintro j tm hp nx ⟨h8, h2, rfl, rfl⟩
  simp only at h8 h2
  simp [h8, h2, frz_closed]
theorem f40 (y : AV) (hy : y.closed = true) (hp nx) : Ret E 40 [.rs true 0 [] (some 0), .v (.int .i64 0), .v (.int .i64 0), .v (.int .i64 0), y] hp nx (.tup []) hp nx .p := by
  refine Ret_pureQ e40 rfl (by simp [hy]) ?_ hp nx
  simp [c40]
  refine W_loopI (I := fun (j : Nat) s => s.tm 0 = .rs true 0 [] (some 0) ∧ s.tm 1 = .v (.int .i64 0) ∧ s.tm 2 = .v (.int .i64 0) ∧ s.tm 4 = y ∧ s.hp = hnil ∧ s.nx = 0) (fun j => j) 0 (by simp) ?_
  rintro j tm hp nx ⟨h0, h1, h2, h4, rfl, rfl⟩
  simp only at h0 h1 h2 h4
  simp [h0, h1, h2, h4, wr0]
  exact WCall_p (f45 y hy _ _) (by simp [frz_closed])
theorem f35 (hp nx) : Ret E 35 [.rs true 0 [] (some 0), .fn (.func 36) [] []] hp nx (.tup []) hp nx .p := by
  refine Ret_pureQ e35 rfl (by simp) ?_ hp nx
  simp [c35, wr0]
  refine WCall_p (f41 _ _) ?_
  simp
  exact WCall_p (f40 _ (by simp) _ _) (by simp [frz_closed])

theorem f35s (r : Nat) (d : List Sp) (hne : 0 < d.length) (hd : d.length < 4611686018427387904) (cap : Option Nat) (hp : Heap) (nx : Nat) (h : hp r = some (d.map cellsP)) :
    Ret E 35 [.sl r 2 0 d.length cap, .fn (.func 36) [] []] hp nx (.tup []) (hupd hp r (some ((srtS d).map cellsP))) nx .e :=
  Ret_prim (.inl ⟨rfl, rfl, rfl, rfl, r, cap, d, rfl, h, hne, hd, rfl⟩)

/-- One more is joined. -/
def joinB (out : List Sp) (x : Sp) : List Sp := match out.getLast? with
  | some c => if x.1 - 1 ≤ c.2 then out.dropLast ++ [(c.1, max c.2 x.2)] else out ++ [x]
  | none => [x]
theorem joinB_snoc (pre : List Sp) (c x : Sp) : joinB (pre ++ [c]) x = if x.1 - 1 ≤ c.2 then pre ++ [(c.1, max c.2 x.2)] else pre ++ [c] ++ [x] := by simp [joinB]
theorem foldl_joinB : ∀ (r pre : List Sp) (cur : Sp), r.foldl joinB (pre ++ [cur]) = pre ++ joinA cur r
  | [], pre, cur => rfl
  | x :: r, pre, cur => by
    simp only [List.foldl_cons, joinB_snoc, joinA]
    split
    · exact foldl_joinB r pre _
    · rw [foldl_joinB r (pre ++ [cur]) x]; simp
theorem joinL_eq (l : List Sp) : joinL l = l.foldl joinB [] := by
  cases l with
  | nil => rfl
  | cons x r => exact (foldl_joinB r [] x).symm
theorem srt_len (l : List Sp) : (srtS l).length = l.length := List.length_mergeSort _
theorem srt_mem {l : List Sp} {x : Sp} : x ∈ srtS l ↔ x ∈ l := List.mem_mergeSort
theorem joinB_len (out : List Sp) (x : Sp) : (joinB out x).length ≤ out.length + 1 := by
  rcases List.eq_nil_or_concat out with rfl | ⟨pre, c, rfl⟩
  · simp [joinB]
  · rw [List.concat_eq_append, joinB_snoc]; split <;> simp
theorem foldlB_len : ∀ (r out : List Sp), (r.foldl joinB out).length ≤ out.length + r.length
  | [], out => by simp
  | x :: r, out => by
    have h1 := foldlB_len r (joinB out x)
    have h2 := joinB_len out x
    simp only [List.foldl_cons, List.length_cons]; omega

set_option maxHeartbeats 400000 in
theorem f27t (d : List Sp) (hl : d.length ≤ 1000000) (hb : ∀ y ∈ d, 1 ≤ y.1 ∧ y.1 ≤ mxN) (tm : Nat → AV) (hp0 : Heap) (nx0 : Nat) (x : AV) (h0 : tm 0 = x) (hx : OwnN hp0 nx0 2 (d.map cellsP) x) :
    W (Ret E) c27_rr (genQ [.t 2] (fun v hp' nx' => OwnN hp' nx' 2 ((d.foldl joinB []).map cellsP) v)) ⟨tm, hp0, nx0⟩ := by
  have hsl : ∀ q ∈ slB x, q < nx0 := hx.own.lt
  have hlen : lenA x = some (.v (.int .i64 d.length)) := by simpa using hx.own.len
  simp [c27_rr, h0, hlen]
  refine W_loopI (I := fun (j : Nat) s => j ≤ d.length ∧ s.tm 9 = x ∧ s.tm 10 = .v (.int .i64 d.length) ∧ s.tm 11 = .v (.int .i64 j) ∧ nx0 ≤ s.nx ∧ OwnN s.hp s.nx 2 (d.map cellsP) x ∧
      OwnN s.hp s.nx 2 (((d.take j).foldl joinB []).map cellsP) (s.tm 3) ∧ ∀ q ∈ slB (s.tm 3), nx0 ≤ q) (fun j => d.length - j) 0 (by simp; exact ⟨hx, OwnN.nil⟩) ?_
  rintro j tm hp nx ⟨hj, h9, h10, h11, hnx, hX, hO, hq⟩
  simp only at h9 h10 h11 hnx hX hO hq
  by_cases hlt : j < d.length
  · rcases hX with ⟨e, _⟩ | ⟨r, hr, rfl, hh, hne⟩
    · simp at e; subst e; simp at hlt
    have hw : IntKind.wrap .i64 ((j : Int) + 1) = (j + 1 : Nat) := by rw [wrap_id] <;> omega
    have hr0 : r < nx0 := hsl r (by simp)
    have hrn : ¬ r = nx := by omega
    have hgj : d[j]? = some d[j] := List.getElem?_eq_getElem hlt
    obtain ⟨b1, b2⟩ := hb d[j] (List.getElem_mem hlt)
    simp only [mxN] at b2
    have hw2 : IntKind.wrap .i64 (d[j].1 - 1) = d[j].1 - 1 := by rw [wrap_id] <;> omega
    have hstep : (d.take (j + 1)).foldl joinB [] = joinB ((d.take j).foldl joinB []) d[j] := by rw [List.take_add_one, hgj, List.foldl_append]; rfl
    have hol := foldlB_len (d.take j) []
    simp only [List.length_take, List.length_nil] at hol
    generalize (d.take j).foldl joinB [] = out at *
    obtain ⟨z1, z2, hz⟩ : ∃ a b, d[j] = (a, b) := ⟨_, _, rfl⟩
    rw [hz] at hstep hw2 b1 b2
    simp only at b1 b2 hw2
    have hkeep : ∀ hp', (∀ r, r < nx → hp' r = hp r) → OwnN hp' (nx + 1) 2 (out.map cellsP) (tm 3) := fun hp' h => hO.keep (by omega) (fun r h1 _ => h r h1)
    have hlen3 := hO.own.len
    rcases List.eq_nil_or_concat out with rfl | ⟨pre, c, rfl⟩
    · simp at hlen3
      simp [h9, h10, h11, hlen3, hlt, hh, hz, cellsP, spliceL, wrm1]
      refine mvE_app (hkeep _ (fun r h => by simp [show ¬ r = nx by omega])).own (by simp) (by simp) ?_
      intro hp2 hn hk
      simp [hw, h9, h10, h11]
      refine ⟨j + 1, by omega, by omega, by simp, by omega, .inr ⟨r, by omega, by simp, ?_, hne⟩, ?_, by omega⟩
      · rw [hk r (by omega) (fun h => by have := hq r h; omega)]; simp [hrn, hh]
      · rw [hstep]
        exact .inr ⟨nx + 1, by omega, by simp [joinB], by rw [hn]; simp [joinB, cellsP], by simp [joinB]⟩
    · rw [List.concat_eq_append] at *
      rcases hO with ⟨e, _⟩ | ⟨q, g1, h3, g2, _⟩
      · simp at e
      have hqn : nx0 ≤ q := hq q (by rw [h3]; simp)
      have hw3 : IntKind.wrap .i64 ((pre.length : Int) + 1 - 1) = pre.length := by simp at hol; rw [wrap_id] <;> omega
      have hq1 : ¬ q = nx := by omega
      have hq2 : ¬ q = r := by omega
      obtain ⟨c1, c2⟩ := c
      simp [-Int.add_sub_cancel] at h3 g2
      by_cases hc : z1 - 1 ≤ c2
      · simp [h9, h10, h11, h3, hlt, hh, hz, cellsP, spliceL, hw2, hw3, hq1, g2, hc, -Int.add_sub_cancel]
        refine ⟨by omega, j + 1, by omega, by omega, by rw [hw], by omega, .inr ⟨r, by omega, by simp, by simp [hrn, show ¬ r = q by omega, hh], hne⟩, ?_, hqn⟩
        rw [hstep, joinB_snoc, if_pos hc]
        exact .inr ⟨q, by omega, by simp, by simp [cellsP], by simp⟩
      · simp [h9, h10, h11, h3, hlt, hh, hz, cellsP, spliceL, hw2, hw3, hq1, g2, hc, -Int.add_sub_cancel]
        refine ⟨by omega, ?_⟩
        rw [← h3]
        refine mvE_app (hkeep _ (fun r h => by simp [show ¬ r = nx by omega])).own (by simp) (by simp at hol ⊢; omega) ?_
        intro hp2 hn hk
        simp [hw, h9, h10, h11]
        refine ⟨j + 1, by omega, by omega, by simp, by omega, .inr ⟨r, by omega, by simp, ?_, hne⟩, ?_, by omega⟩
        · rw [hk r (by omega) (by rw [h3]; simp; omega)]; simp [hrn, hh]
        · rw [hstep, joinB_snoc, if_neg hc]
          exact .inr ⟨nx + 1, by omega, by simp, by rw [hn]; simp [cellsP], by simp⟩
  · have : j = d.length := by omega
    subst this
    simp [h10, h11]
    simpa using hO

theorem f27 (l : List Sp) (x : AV) (hp0 : Heap) (nx0 : Nat) (hx : OwnN hp0 nx0 2 (l.map cellsP) x) (hl : l.length ≤ 1000000) (hb : ∀ y ∈ l, 1 ≤ y.1 ∧ y.1 ≤ mxN) :
    ∃ v hp' nx', Ret E 27 [x] hp0 nx0 v hp' nx' .e ∧ OwnN hp' nx' 2 ((joinL (srtS l)).map cellsP) v := by
  refine Ret_genE e27 rfl ?_
  rw [joinL_eq]
  have hlen := srt_len l
  have hbs : ∀ y ∈ srtS l, 1 ≤ y.1 ∧ y.1 ≤ mxN := fun y hy => hb y (srt_mem.1 hy)
  rcases hx with ⟨h1, rfl⟩ | ⟨r, hr, rfl, hh, hne⟩
  · have : l = [] := by simpa using h1
    subst this
    rw [show srtS [] = [] by simp [srtS]]
    simp [c27]
    refine WCall_p (f35 _ _) ?_
    simp
    exact f27t [] (by simp) (by simp) _ _ _ (.rs true 0 [] (some 0)) (by simp) .nil
  · have hne2 : l ≠ [] := fun e => hne (by simp [e])
    have hr2 := f35s r l (List.length_pos_iff.2 hne2) (by omega) none hp0 nx0 hh
    simp [c27]
    refine WCall_k hr2 ?_
    generalize srtS l = d at *
    simp
    exact f27t d (by omega) hbs _ _ _ (.sl r 2 0 l.length none) (by simp) (.inr ⟨r, hr, by simp [hlen], by simp, by intro e; simp at e; subst e; simp at hlen; exact hne2 (by simpa using hlen.symm)⟩)
end Go.Ai
