/- slices.Insert and slices.Delete with the room told. -/
import Derived.Test.YtooomkpingiojaaGreatC0
import Derived.Test.YtooomkpingiojaaGreatAiLib
import Derived.Test.YtooomkpingiojaaGreatAiStr
import Derived.Test.YtooomkpingiojaaGreatAiLift
namespace Go.Ai
set_option linter.unusedVariables false
set_option linter.unusedSimpArgs false

theorem slice_lo {sz r i len n l : Nat} {k : IntKind} (h : l ≤ len) (hn : len ≤ n) : sliceA sz (.sl r sz i len (some n)) (some (.v (.int k (l : Int)))) none none = some (.sl r sz (i + l) (len - l) (some (n - l))) := by
  have : (l : Int) ≤ len := by omega
  simp [sliceA, boundsA, idxOf, capCut, this, h]
theorem slice_hi {sz r i len n l : Nat} {k : IntKind} (h : l ≤ n) : sliceA sz (.sl r sz i len (some n)) none (some (.v (.int k (l : Int)))) none = some (.sl r sz i l (some n)) := by
  have : (l : Int) ≤ n := by omega
  simp [sliceA, boundsA, idxOf, capCut, this]
theorem slice_lhm {sz r i len n l h m : Nat} {k k' k2 : IntKind} (h1 : l ≤ h) (h2 : h ≤ m) (h3 : m ≤ n) : sliceA sz (.sl r sz i len (some n)) (some (.v (.int k (l : Int)))) (some (.v (.int k' (h : Int)))) (some (.v (.int k2 (m : Int)))) = some (.sl r sz (i + l) (h - l) (some (m - l))) := by
  have a1 : (l : Int) ≤ h := by omega
  have a2 : (h : Int) ≤ m := by omega
  have a3 : (m : Int) ≤ n := by omega
  simp [sliceA, boundsA, idxOf, capCut, a1, a2, a3, h1]
theorem slice_lh {sz r i len n l h : Nat} {k k' : IntKind} (h1 : l ≤ h) (h2 : h ≤ n) : sliceA sz (.sl r sz i len (some n)) (some (.v (.int k (l : Int)))) (some (.v (.int k' (h : Int)))) none = some (.sl r sz (i + l) (h - l) (some (n - l))) := by
  have a1 : (l : Int) ≤ h := by omega
  have a2 : (h : Int) ≤ n := by omega
  simp [sliceA, boundsA, idxOf, capCut, a1, a2, h1]

/-- What comes of a row that is put in. -/
def insB (es : Blk) (i : Nat) (row : List AV) : Blk := es.take i ++ row :: es.drop i
theorem insB_len (es : Blk) (i : Nat) (row : List AV) (h : i ≤ es.length) : (insB es i row).length = es.length + 1 := by simp [insB]; omega
/-- What a lifted call comes to. -/
def LifP (sz n : Nat) (es' : Blk) (r nx : Nat) (hp : Heap) (v : AV) (hp2 : Heap) (nx2 : Nat) : Prop :=
  ∃ q2 c2, v = .sl q2 sz 0 es'.length c2 ∧ (∃ sp, hp2 q2 = some (es' ++ sp)) ∧ ((q2 = r ∧ nx2 = nx ∧ c2 = some n) ∨ (q2 = nx ∧ nx2 = nx + 1 ∧ c2 = none)) ∧ ∀ x, x < nx → x ≠ r → hp2 x = hp x
theorem slice_lo_none {sz r i len l : Nat} {k : IntKind} (h : l ≤ len) : sliceA sz (.sl r sz i len none) (some (.v (.int k (l : Int)))) none none = some (.sl r sz (i + l) (len - l) none) := by
  have : (l : Int) ≤ len := by omega
  simp [sliceA, boundsA, idxOf, capCut, this, h]
theorem app_room {sz bytes r len c nx : Nat} {hp : Heap} {B : Blk} {row : List AV} (h : hp r = some B) (h1 : len + 1 ≤ c) (h2 : len + 1 ≤ B.length) : appA sz bytes (.sl r sz 0 len (some c)) [row] hp nx = some (.sl r sz 0 (len + 1) (some c), hupd hp r (some (spliceL B len [row])), nx) := by
  simp only [appA, if_true, h, List.length_cons, List.length_nil, Nat.zero_add]
  rw [if_neg (by omega), if_pos h1, if_pos (by omega)]
theorem app_grow {sz bytes r len c nx : Nat} {hp : Heap} {B new : Blk} (h : hp r = some B) (h0 : len ≤ B.length) (h1 : c < len + new.length) (h2 : (len + new.length) * bytes ≤ 140737488355328) : appA sz bytes (.sl r sz 0 len (some c)) new hp nx = some (.sl nx sz 0 (len + new.length) none, hupd hp nx (some (B.take len ++ new)), nx + 1) := by
  simp only [appA, if_true, h, List.drop_zero]
  rw [if_neg (by omega), if_neg (by omega), if_pos h2]
theorem copy_fact {sz r i len nx : Nat} {c : Option Nat} {hp : Heap} {s : AV} {src B : Blk} (hs : elemsA hp sz s = some src) (h : hp r = some B) (hl : i + len ≤ B.length) (h1 : (src.take len).all (fun l => l.all AV.one) = true) :
    copyA sz (.sl r sz i len c) s hp nx = some (.int .i64 (Nat.min src.length len), hupd hp r (some (spliceL B i (src.take len))), nx) := by
  simp only [copyA, hs, if_true, h]
  rw [if_pos ⟨hl, h1⟩]
theorem elems_fact {sz r i len : Nat} {c : Option Nat} {hp : Heap} {B : Blk} (h : hp r = some B) (hl : i + len ≤ B.length) : elemsA hp sz (.sl r sz i len c) = some ((B.drop i).take len) := by
  simp only [elemsA, if_true, h]
  rw [if_pos hl]
theorem spl_end {es spare : Blk} {s0 row : List AV} : spliceL (es ++ s0 :: spare) es.length [row] = insB es es.length row ++ spare := by
  simp [spliceL, insB]
theorem spl_mid {a b c b' : Blk} {n : Nat} (hn : n = a.length) (h : b'.length = b.length) : spliceL (a ++ b ++ c) n b' = a ++ b' ++ c := by
  subst hn
  have e1 : (a ++ b ++ c).take a.length = a := by rw [List.append_assoc]; exact List.take_left
  have e2 : (a ++ b ++ c).drop (a.length + b.length) = c := by rw [← List.length_append]; exact List.drop_left
  simp only [spliceL, h]
  rw [e1, e2]
theorem spl_grow {es : Blk} {i : Nat} {row z : List AV} {k : Nat} (hi : i < es.length) (hk : k = es.length + 1 - i) : spliceL (spliceL (es.take i ++ List.replicate k z) i [row]) (i + 1) (es.drop i) = insB es i row := by
  have h1 : i = (es.take i).length := by rw [List.length_take]; omega
  have e0 : es.take i ++ List.replicate k z = es.take i ++ [z] ++ List.replicate (es.length - i) z := by
    rw [hk, show es.length + 1 - i = (es.length - i) + 1 by omega, List.replicate_succ]; simp
  have e1 := spl_mid (a := es.take i) (b := [z]) (c := List.replicate (es.length - i) z) (b' := [row]) h1 rfl
  rw [e0, e1]
  have e2 := spl_mid (a := es.take i ++ [row]) (b := List.replicate (es.length - i) z) (c := []) (b' := es.drop i) (n := i + 1) (by rw [List.length_append, ← h1]; rfl) (by simp)
  rw [List.append_nil, List.append_nil] at e2
  rw [e2, insB]; simp
theorem spl_room {es rest : Blk} {i : Nat} {row s0 : List AV} (hi : i < es.length) : spliceL (spliceL (es ++ s0 :: rest) (i + 1) (es.drop i)) i [row] = insB es i row ++ rest := by
  have h1 : i = (es.take i).length := by rw [List.length_take]; omega
  have h2 : i + 1 = (es.take (i + 1)).length := by rw [List.length_take]; omega
  have e0 : es ++ s0 :: rest = es.take (i + 1) ++ (es.drop (i + 1) ++ [s0]) ++ rest := by
    have := List.take_append_drop (i + 1) es
    rw [List.append_assoc, List.append_assoc, ← List.append_assoc, this]; rfl
  have e1 := spl_mid (a := es.take (i + 1)) (b := es.drop (i + 1) ++ [s0]) (c := rest) (b' := es.drop i) h2 (by simp; omega)
  have e2 : es.take (i + 1) ++ es.drop i ++ rest = es.take i ++ [es[i]] ++ (es.drop i ++ rest) := by
    rw [List.take_add_one, List.getElem?_eq_getElem hi]; simp
  have e3 := spl_mid (a := es.take i) (b := [es[i]]) (c := es.drop i ++ rest) (b' := [row]) h1 rfl
  rw [e0, e1, e2, e3, insB]; simp
theorem drop_take_one {es rest : Blk} {i : Nat} {s0 : List AV} (hi : i < es.length) : (((es ++ s0 :: rest).drop i).take (es.length + 1 - i)).take (es.length - i) = es.drop i := by
  rw [List.take_take, Nat.min_eq_left (by omega), List.drop_append_of_le_length (by omega), List.take_append_of_le_length (by simp), List.take_of_length_le (by simp)]
theorem all_drop {es : Blk} {i : Nat} (h : es.all (fun l => l.all AV.one) = true) : (es.drop i).all (fun l => l.all AV.one) = true := by
  rw [List.all_eq_true] at h ⊢
  exact fun x hx => h x (List.mem_of_mem_drop hx)

theorem ins170 (r q i nx : Nat) (t : TypeId) (es spare : Blk) (row : List AV) (hp : Heap) (hi : i ≤ es.length) (hl : es.length ≤ 1000000) (hone : es.all (fun l => l.all AV.one) = true) (hrow : row.all AV.one = true)
    (hr : r < nx) (hq : q + 1 < nx) (hqr : q ≠ r) (hqr1 : q + 1 ≠ r) (h1 : hp q = some [row]) (h2 : hp (q + 1) = some [[.ty t 0], []]) (hsp : Plain 1 spare) :
    ∃ v hp2 nx2, Ret E0 170 [.sl r 1 0 es.length (some (es.length + spare.length)), .v (.int .i64 i), .sl q 1 0 1 (some 1)] (hupd hp r (some (es ++ spare))) nx v hp2 nx2 .e ∧ LifP 1 (es.length + spare.length) (insB es i row) r nx hp v hp2 nx2 := by
  refine Ret_genE e0_170 rfl ?_
  have hrq : ¬ r = q := fun h => hqr h.symm
  have hrn : ¬ r = nx := by omega
  have hnr : ¬ nx = r := by omega
  have hqn : ¬ q = nx := by omega
  have hi2 : (i : Int) ≤ es.length := by omega
  have w1 : IntKind.wrap .i64 ((es.length : Int) + 1) = (es.length + 1 : Nat) := by rw [wrap_id] <;> omega
  have s1 := slice_lo (sz := 1) (r := r) (i := 0) (n := es.length + spare.length) (k := .i64) hi (by omega)
  have hk : elemsA (hupd hp r (some (es ++ spare))) 1 (.sl q 1 0 1 (some 1)) = some [row] := by simp [elemsA, hqr, h1]
  have hB : (hupd hp r (some (es ++ spare))) r = some (es ++ spare) := by simp
  have hil := insB_len es i row hi
  simp only [c170]
  simp [s1]
  by_cases hin : i = es.length
  · subst hin
    cases spare with
    | nil =>
      have a1 := app_grow (sz := 1) (bytes := 16) (nx := nx) (len := es.length) (c := es.length + ([] : Blk).length) (new := [row]) hB (by simp) (by simp) (by simp; omega)
      simp only [List.length_cons, List.length_nil, Nat.add_zero, List.append_nil, List.take_length, Nat.zero_add] at a1 hk ⊢
      simp [appendA, hk, hrow, a1]
      exact ⟨nx, none, by rw [hil], ⟨[], by simp [insB]⟩, .inr ⟨rfl, rfl, rfl⟩, fun x g1 g2 => by simp [show ¬ x = nx by omega, g2]⟩
    | cons s0 rest =>
      have a1 := app_room (sz := 1) (bytes := 16) (nx := nx) (len := es.length) (c := es.length + (s0 :: rest).length) (row := row) hB (by simp) (by simp)
      rw [spl_end] at a1
      simp [appendA, hk, hrow]
      simp only [List.length_cons] at a1
      rw [a1]
      simp
      exact ⟨r, some (es.length + (rest.length + 1)), by rw [hil], ⟨rest, by simp⟩, .inl ⟨rfl, rfl, by simp⟩, fun x g1 g2 => by simp [g2]⟩
  · have hin2 : ¬ (i : Int) = es.length := by omega
    have hlt : i < es.length := by omega
    simp [hin, hin2, w1]
    cases spare with
    | nil =>
      simp only [List.length_nil, Nat.add_zero, List.append_nil] at hB hk s1 ⊢
      have w2 : IntKind.wrap .i64 (((es.length + 1 : Nat) : Int) - i) = (es.length + 1 - i : Nat) := by rw [wrap_id] <;> omega
      have s2 := slice_hi (sz := 1) (r := r) (i := 0) (len := es.length) (n := es.length) (l := i) (k := .i64) hi
      have a1 := app_grow (sz := 1) (bytes := 16) (nx := nx) (len := i) (c := es.length) (new := List.replicate (es.length + 1 - i) [AV.str []]) hB (by omega) (by simp; omega) (by simp; omega)
      have hsum : i + (es.length + 1 - i) = es.length + 1 := by omega
      rw [List.length_replicate, hsum] at a1
      have hB2 : (hupd (hupd hp r (some es)) nx (some (es.take i ++ List.replicate (es.length + 1 - i) [AV.str []]))) nx = some (es.take i ++ List.replicate (es.length + 1 - i) [AV.str []]) := by simp
      have s3 := slice_lo_none (sz := 1) (r := nx) (i := 0) (len := es.length + 1) (l := i) (k := .i64) (by omega)
      have hk2 : elemsA (hupd (hupd hp r (some es)) nx (some (es.take i ++ List.replicate (es.length + 1 - i) [AV.str []]))) 1 (.sl q 1 0 1 (some 1)) = some [row] := by simp [elemsA, hqr, hqn, h1]
      have c1 := copy_fact (nx := nx + 1) (i := 0 + i) (len := es.length + 1 - i) (c := none) hk2 hB2 (by simp; omega) (by rw [List.take_of_length_le (by simp; omega)]; simpa using hrow)
      rw [List.take_of_length_le (show [row].length ≤ es.length + 1 - i by simp; omega), Nat.zero_add] at c1
      have w3 : IntKind.wrap .i64 ((i : Int) + 1) = (i + 1 : Nat) := by rw [wrap_id] <;> omega
      have s4 := slice_lo_none (sz := 1) (r := nx) (i := 0) (len := es.length + 1) (l := i + 1) (k := .i64) (by omega)
      simp only [Nat.zero_add] at s1 s3 s4
      have w4 : ((es.length + 1 - i : Nat) : Int).toNat = es.length + 1 - i := by omega
      have w5 : 0 ≤ ((es.length + 1 - i : Nat) : Int) ∧ ((es.length + 1 - i : Nat) : Int) * 16 ≤ 140737488355328 ∧ ((es.length + 1 - i : Nat) : Int) ≤ 140737488355328 := by omega
      simp [s2, w1, w2, appzA, w4, w5, -Int.natCast_add]
      rw [a1]
      simp [s3, w1, w2, -Int.natCast_add]
      rw [c1]
      have c2 := copy_fact (nx := nx + 1) (r := nx) (sz := 1) (i := i + 1) (len := es.length - i) (c := none) (s := .sl r 1 i (es.length - i) (some (es.length - i)))
        (hp := hupd (hupd (hupd hp r (some es)) nx (some (es.take i ++ List.replicate (es.length + 1 - i) [AV.str []]))) nx (some (spliceL (es.take i ++ List.replicate (es.length + 1 - i) [AV.str []]) i [row])))
        (src := es.drop i) (B := spliceL (es.take i ++ List.replicate (es.length + 1 - i) [AV.str []]) i [row])
        (by rw [elems_fact (B := es) (by simp [hrn]) (by omega), List.take_of_length_le (by simp)]) (by simp) (by simp [spliceL]; omega) (by rw [List.take_of_length_le (by simp)]; exact all_drop hone)
      rw [List.take_of_length_le (show (es.drop i).length ≤ es.length - i by simp), spl_grow hlt rfl] at c2
      simp [s1, s4, w3, -Int.natCast_add]
      rw [c2]
      simp
      exact ⟨nx, none, by rw [hil], ⟨[], by simp⟩, .inr ⟨rfl, rfl, rfl⟩, fun x g1 g2 => by simp [show ¬ x = nx by omega, g2]⟩
    | cons s0 rest =>
      have hg : ¬ (((rest.length + 1 : Nat) : Int) < 1) := by omega
      have w3 : IntKind.wrap .i64 ((i : Int) + 1) = (i + 1 : Nat) := by rw [wrap_id] <;> omega
      have s2 := slice_hi (sz := 1) (r := r) (i := 0) (len := es.length) (n := es.length + (rest.length + 1)) (l := es.length + 1) (k := .i64) (by omega)
      have s3 := slice_lo (sz := 1) (r := r) (i := 0) (len := es.length + 1) (n := es.length + (rest.length + 1)) (l := i + 1) (k := .i64) (by omega) (by omega)
      have s4 := slice_lo (sz := 1) (r := r) (i := 0) (len := es.length + 1) (n := es.length + (rest.length + 1)) (l := i) (k := .i64) (by omega) (by omega)
      simp only [Nat.zero_add, show es.length + 1 - (i + 1) = es.length - i by omega] at s3 s4
      have ov : ∀ c, Ret E0 197 [.sl q 1 0 1 (some 1), .sl r 1 (i + 1) (es.length - i) c] (hupd hp r (some (es ++ s0 :: rest))) nx (.v (.bool false)) (hupd hp r (some (es ++ s0 :: rest))) nx .e := fun c =>
        Ret_prim ⟨rfl, rfl, rfl, rfl, rfl, q, 1, 1, r, i + 1, es.length - i, _, _, t, [row], es ++ s0 :: rest, rfl, hqr, by simp [hqr, h1], by simp [hqr1, h2], by simp, by omega, by omega, by omega⟩
      have c1 : ∀ c c', copyA 1 (.sl r 1 (i + 1) (es.length - i) c) (.sl r 1 i (es.length + 1 - i) c') (hupd hp r (some (es ++ s0 :: rest))) nx = some (.int .i64 (Nat.min (((es ++ s0 :: rest).drop i).take (es.length + 1 - i)).length (es.length - i)), hupd (hupd hp r (some (es ++ s0 :: rest))) r (some (spliceL (es ++ s0 :: rest) (i + 1) (es.drop i))), nx) := fun c c' => by
        have := copy_fact (nx := nx) (r := r) (sz := 1) (i := i + 1) (len := es.length - i) (c := c) (s := .sl r 1 i (es.length + 1 - i) c')
          (hp := hupd hp r (some (es ++ s0 :: rest))) (src := ((es ++ s0 :: rest).drop i).take (es.length + 1 - i)) (B := es ++ s0 :: rest)
          (elems_fact (by simp) (by simp; omega)) (by simp) (by simp; omega) (by rw [drop_take_one hlt]; exact all_drop hone)
        rw [drop_take_one hlt] at this; exact this
      have c2 : ∀ c, copyA 1 (.sl r 1 i (es.length + 1 - i) c) (.sl q 1 0 1 (some 1)) (hupd (hupd hp r (some (es ++ s0 :: rest))) r (some (spliceL (es ++ s0 :: rest) (i + 1) (es.drop i)))) nx = some (.int .i64 (Nat.min [row].length (es.length + 1 - i)), hupd (hupd (hupd hp r (some (es ++ s0 :: rest))) r (some (spliceL (es ++ s0 :: rest) (i + 1) (es.drop i)))) r (some (insB es i row ++ rest)), nx) := fun c => by
        have := copy_fact (nx := nx) (r := r) (sz := 1) (i := i) (len := es.length + 1 - i) (c := c) (s := .sl q 1 0 1 (some 1))
          (hp := hupd (hupd hp r (some (es ++ s0 :: rest))) r (some (spliceL (es ++ s0 :: rest) (i + 1) (es.drop i)))) (src := [row]) (B := spliceL (es ++ s0 :: rest) (i + 1) (es.drop i))
          (by simp [elemsA, hqr, h1]) (by simp) (by simp [spliceL]; omega) (by rw [List.take_of_length_le (by simp; omega)]; simpa using hrow)
        rw [List.take_of_length_le (show [row].length ≤ es.length + 1 - i by simp; omega), spl_room hlt] at this; exact this
      simp [hg, w1, s2, s3, w3, -Int.natCast_add]
      refine WCall_k (ov _) ?_
      simp [w1, s2, s3, s4, w3, -Int.natCast_add]
      rw [c1]
      simp [s4, -Int.natCast_add]
      rw [c2]
      simp
      exact ⟨r, some (es.length + (rest.length + 1)), by rw [hil], ⟨rest, by simp⟩, .inl ⟨rfl, rfl, rfl⟩, fun x g1 g2 => by simp [g2]⟩

theorem ins171 (r q i nx : Nat) (t : TypeId) (es spare : Blk) (row : List AV) (hp : Heap) (hi : i ≤ es.length) (hl : es.length ≤ 1000000) (hone : es.all (fun l => l.all AV.one) = true) (hrow : row.all AV.one = true)
    (hr : r < nx) (hq : q + 1 < nx) (hqr : q ≠ r) (hqr1 : q + 1 ≠ r) (h1 : hp q = some [row]) (h2 : hp (q + 1) = some [[.ty t 0], []]) (hsp : Plain 3 spare) :
    ∃ v hp2 nx2, Ret E0 171 [.sl r 3 0 es.length (some (es.length + spare.length)), .v (.int .i64 i), .sl q 3 0 1 (some 1)] (hupd hp r (some (es ++ spare))) nx v hp2 nx2 .e ∧ LifP 3 (es.length + spare.length) (insB es i row) r nx hp v hp2 nx2 := by
  refine Ret_genE e0_171 rfl ?_
  have hrq : ¬ r = q := fun h => hqr h.symm
  have hrn : ¬ r = nx := by omega
  have hnr : ¬ nx = r := by omega
  have hqn : ¬ q = nx := by omega
  have hi2 : (i : Int) ≤ es.length := by omega
  have w1 : IntKind.wrap .i64 ((es.length : Int) + 1) = (es.length + 1 : Nat) := by rw [wrap_id] <;> omega
  have s1 := slice_lo (sz := 3) (r := r) (i := 0) (n := es.length + spare.length) (k := .i64) hi (by omega)
  have hk : elemsA (hupd hp r (some (es ++ spare))) 3 (.sl q 3 0 1 (some 1)) = some [row] := by simp [elemsA, hqr, h1]
  have hB : (hupd hp r (some (es ++ spare))) r = some (es ++ spare) := by simp
  have hil := insB_len es i row hi
  simp only [c171]
  simp [s1]
  by_cases hin : i = es.length
  · subst hin
    cases spare with
    | nil =>
      have a1 := app_grow (sz := 3) (bytes := 32) (nx := nx) (len := es.length) (c := es.length + ([] : Blk).length) (new := [row]) hB (by simp) (by simp) (by simp; omega)
      simp only [List.length_cons, List.length_nil, Nat.add_zero, List.append_nil, List.take_length, Nat.zero_add] at a1 hk ⊢
      simp [appendA, hk, hrow, a1]
      exact ⟨nx, none, by rw [hil], ⟨[], by simp [insB]⟩, .inr ⟨rfl, rfl, rfl⟩, fun x g1 g2 => by simp [show ¬ x = nx by omega, g2]⟩
    | cons s0 rest =>
      have a1 := app_room (sz := 3) (bytes := 32) (nx := nx) (len := es.length) (c := es.length + (s0 :: rest).length) (row := row) hB (by simp) (by simp)
      rw [spl_end] at a1
      simp [appendA, hk, hrow]
      simp only [List.length_cons] at a1
      rw [a1]
      simp
      exact ⟨r, some (es.length + (rest.length + 1)), by rw [hil], ⟨rest, by simp⟩, .inl ⟨rfl, rfl, by simp⟩, fun x g1 g2 => by simp [g2]⟩
  · have hin2 : ¬ (i : Int) = es.length := by omega
    have hlt : i < es.length := by omega
    simp [hin, hin2, w1]
    cases spare with
    | nil =>
      simp only [List.length_nil, Nat.add_zero, List.append_nil] at hB hk s1 ⊢
      have w2 : IntKind.wrap .i64 (((es.length + 1 : Nat) : Int) - i) = (es.length + 1 - i : Nat) := by rw [wrap_id] <;> omega
      have s2 := slice_hi (sz := 3) (r := r) (i := 0) (len := es.length) (n := es.length) (l := i) (k := .i64) hi
      have a1 := app_grow (sz := 3) (bytes := 32) (nx := nx) (len := i) (c := es.length) (new := List.replicate (es.length + 1 - i) [AV.str [], AV.v (.int .i64 0), AV.v (.int .i64 0)]) hB (by omega) (by simp; omega) (by simp; omega)
      have hsum : i + (es.length + 1 - i) = es.length + 1 := by omega
      rw [List.length_replicate, hsum] at a1
      have hB2 : (hupd (hupd hp r (some es)) nx (some (es.take i ++ List.replicate (es.length + 1 - i) [AV.str [], AV.v (.int .i64 0), AV.v (.int .i64 0)]))) nx = some (es.take i ++ List.replicate (es.length + 1 - i) [AV.str [], AV.v (.int .i64 0), AV.v (.int .i64 0)]) := by simp
      have s3 := slice_lo_none (sz := 3) (r := nx) (i := 0) (len := es.length + 1) (l := i) (k := .i64) (by omega)
      have hk2 : elemsA (hupd (hupd hp r (some es)) nx (some (es.take i ++ List.replicate (es.length + 1 - i) [AV.str [], AV.v (.int .i64 0), AV.v (.int .i64 0)]))) 3 (.sl q 3 0 1 (some 1)) = some [row] := by simp [elemsA, hqr, hqn, h1]
      have c1 := copy_fact (nx := nx + 1) (i := 0 + i) (len := es.length + 1 - i) (c := none) hk2 hB2 (by simp; omega) (by rw [List.take_of_length_le (by simp; omega)]; simpa using hrow)
      rw [List.take_of_length_le (show [row].length ≤ es.length + 1 - i by simp; omega), Nat.zero_add] at c1
      have w3 : IntKind.wrap .i64 ((i : Int) + 1) = (i + 1 : Nat) := by rw [wrap_id] <;> omega
      have s4 := slice_lo_none (sz := 3) (r := nx) (i := 0) (len := es.length + 1) (l := i + 1) (k := .i64) (by omega)
      simp only [Nat.zero_add] at s1 s3 s4
      have w4 : ((es.length + 1 - i : Nat) : Int).toNat = es.length + 1 - i := by omega
      have w5 : 0 ≤ ((es.length + 1 - i : Nat) : Int) ∧ ((es.length + 1 - i : Nat) : Int) * 32 ≤ 140737488355328 ∧ ((es.length + 1 - i : Nat) : Int) ≤ 140737488355328 := by omega
      simp [s2, w1, w2, appzA, w4, w5, -Int.natCast_add]
      rw [a1]
      simp [s3, w1, w2, -Int.natCast_add]
      rw [c1]
      have c2 := copy_fact (nx := nx + 1) (r := nx) (sz := 3) (i := i + 1) (len := es.length - i) (c := none) (s := .sl r 3 i (es.length - i) (some (es.length - i)))
        (hp := hupd (hupd (hupd hp r (some es)) nx (some (es.take i ++ List.replicate (es.length + 1 - i) [AV.str [], AV.v (.int .i64 0), AV.v (.int .i64 0)]))) nx (some (spliceL (es.take i ++ List.replicate (es.length + 1 - i) [AV.str [], AV.v (.int .i64 0), AV.v (.int .i64 0)]) i [row])))
        (src := es.drop i) (B := spliceL (es.take i ++ List.replicate (es.length + 1 - i) [AV.str [], AV.v (.int .i64 0), AV.v (.int .i64 0)]) i [row])
        (by rw [elems_fact (B := es) (by simp [hrn]) (by omega), List.take_of_length_le (by simp)]) (by simp) (by simp [spliceL]; omega) (by rw [List.take_of_length_le (by simp)]; exact all_drop hone)
      rw [List.take_of_length_le (show (es.drop i).length ≤ es.length - i by simp), spl_grow hlt rfl] at c2
      simp [s1, s4, w3, -Int.natCast_add]
      rw [c2]
      simp
      exact ⟨nx, none, by rw [hil], ⟨[], by simp⟩, .inr ⟨rfl, rfl, rfl⟩, fun x g1 g2 => by simp [show ¬ x = nx by omega, g2]⟩
    | cons s0 rest =>
      have hg : ¬ (((rest.length + 1 : Nat) : Int) < 1) := by omega
      have w3 : IntKind.wrap .i64 ((i : Int) + 1) = (i + 1 : Nat) := by rw [wrap_id] <;> omega
      have s2 := slice_hi (sz := 3) (r := r) (i := 0) (len := es.length) (n := es.length + (rest.length + 1)) (l := es.length + 1) (k := .i64) (by omega)
      have s3 := slice_lo (sz := 3) (r := r) (i := 0) (len := es.length + 1) (n := es.length + (rest.length + 1)) (l := i + 1) (k := .i64) (by omega) (by omega)
      have s4 := slice_lo (sz := 3) (r := r) (i := 0) (len := es.length + 1) (n := es.length + (rest.length + 1)) (l := i) (k := .i64) (by omega) (by omega)
      simp only [Nat.zero_add, show es.length + 1 - (i + 1) = es.length - i by omega] at s3 s4
      have ov : ∀ c, Ret E0 199 [.sl q 3 0 1 (some 1), .sl r 3 (i + 1) (es.length - i) c] (hupd hp r (some (es ++ s0 :: rest))) nx (.v (.bool false)) (hupd hp r (some (es ++ s0 :: rest))) nx .e := fun c =>
        Ret_prim ⟨rfl, rfl, rfl, rfl, rfl, q, 3, 1, r, i + 1, es.length - i, _, _, t, [row], es ++ s0 :: rest, rfl, hqr, by simp [hqr, h1], by simp [hqr1, h2], by simp, by omega, by omega, by omega⟩
      have c1 : ∀ c c', copyA 3 (.sl r 3 (i + 1) (es.length - i) c) (.sl r 3 i (es.length + 1 - i) c') (hupd hp r (some (es ++ s0 :: rest))) nx = some (.int .i64 (Nat.min (((es ++ s0 :: rest).drop i).take (es.length + 1 - i)).length (es.length - i)), hupd (hupd hp r (some (es ++ s0 :: rest))) r (some (spliceL (es ++ s0 :: rest) (i + 1) (es.drop i))), nx) := fun c c' => by
        have := copy_fact (nx := nx) (r := r) (sz := 3) (i := i + 1) (len := es.length - i) (c := c) (s := .sl r 3 i (es.length + 1 - i) c')
          (hp := hupd hp r (some (es ++ s0 :: rest))) (src := ((es ++ s0 :: rest).drop i).take (es.length + 1 - i)) (B := es ++ s0 :: rest)
          (elems_fact (by simp) (by simp; omega)) (by simp) (by simp; omega) (by rw [drop_take_one hlt]; exact all_drop hone)
        rw [drop_take_one hlt] at this; exact this
      have c2 : ∀ c, copyA 3 (.sl r 3 i (es.length + 1 - i) c) (.sl q 3 0 1 (some 1)) (hupd (hupd hp r (some (es ++ s0 :: rest))) r (some (spliceL (es ++ s0 :: rest) (i + 1) (es.drop i)))) nx = some (.int .i64 (Nat.min [row].length (es.length + 1 - i)), hupd (hupd (hupd hp r (some (es ++ s0 :: rest))) r (some (spliceL (es ++ s0 :: rest) (i + 1) (es.drop i)))) r (some (insB es i row ++ rest)), nx) := fun c => by
        have := copy_fact (nx := nx) (r := r) (sz := 3) (i := i) (len := es.length + 1 - i) (c := c) (s := .sl q 3 0 1 (some 1))
          (hp := hupd (hupd hp r (some (es ++ s0 :: rest))) r (some (spliceL (es ++ s0 :: rest) (i + 1) (es.drop i)))) (src := [row]) (B := spliceL (es ++ s0 :: rest) (i + 1) (es.drop i))
          (by simp [elemsA, hqr, h1]) (by simp) (by simp [spliceL]; omega) (by rw [List.take_of_length_le (by simp; omega)]; simpa using hrow)
        rw [List.take_of_length_le (show [row].length ≤ es.length + 1 - i by simp; omega), spl_room hlt] at this; exact this
      simp [hg, w1, s2, s3, w3, -Int.natCast_add]
      refine WCall_k (ov _) ?_
      simp [w1, s2, s3, s4, w3, -Int.natCast_add]
      rw [c1]
      simp [s4, -Int.natCast_add]
      rw [c2]
      simp
      exact ⟨r, some (es.length + (rest.length + 1)), by rw [hil], ⟨rest, by simp⟩, .inl ⟨rfl, rfl, rfl⟩, fun x g1 g2 => by simp [g2]⟩
end Go.Ai
