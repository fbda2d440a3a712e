/- slices.Delete with the room told. -/
import Derived.Test.YtooomkpingiojaaGreatZ0
namespace Go.Ai
set_option linter.unusedVariables false
set_option linter.unusedSimpArgs false

/-- What is left when a row is taken out. -/
def delB (es : Blk) (i : Nat) : Blk := es.take i ++ es.drop (i + 1)
theorem delB_len (es : Blk) (i : Nat) (h : i < es.length) : (delB es i).length = es.length - 1 := by simp [delB]; omega
theorem app_in {sz bytes r i c nx : Nat} {hp : Heap} {B new : Blk} (h : hp r = some B) (h1 : i + new.length ≤ c) (h2 : i + new.length ≤ B.length) : appA sz bytes (.sl r sz 0 i (some c)) new hp nx = some (.sl r sz 0 (i + new.length) (some c), hupd hp r (some (spliceL B i new)), nx) := by
  simp only [appA, if_true, h, Nat.zero_add]
  rw [if_neg (by omega), if_pos h1, if_pos h2]
theorem clear_fact {sz r i len nx : Nat} {c : Option Nat} {zero : List AV} {hp : Heap} {B : Blk} (h : hp r = some B) (hl : i + len ≤ B.length) (h1 : zero.length = sz) (h2 : 0 < sz) (h3 : zero.all AV.one = true) :
    clearA sz zero (.sl r sz i len c) hp nx = some (.v (.tuple #[]), hupd hp r (some (spliceL B i (List.replicate len zero))), nx) := by
  simp only [clearA, if_true, h, clearB]
  rw [if_pos ⟨hl, h1, h2, h3⟩]
theorem spl_del {es spare : Blk} {i : Nat} {z : List AV} (hi : i < es.length) : spliceL (spliceL (es ++ spare) i (es.drop (i + 1))) (es.length - 1) [z] = delB es i ++ z :: spare := by
  have h1 : i = (es.take i).length := by rw [List.length_take]; omega
  have hd : es.drop i = es[i] :: es.drop (i + 1) := List.drop_eq_getElem_cons hi
  obtain ⟨b, y, hb, hl⟩ : ∃ (b : Blk) (y : List AV), es.drop i = b ++ [y] ∧ b.length = (es.drop (i + 1)).length := by
    have hne : es.drop i ≠ [] := by rw [hd]; exact List.cons_ne_nil _ _
    exact ⟨(es.drop i).dropLast, (es.drop i).getLast hne, (List.dropLast_concat_getLast hne).symm, by rw [List.length_dropLast, List.length_drop, List.length_drop]; omega⟩
  have e0 : es ++ spare = es.take i ++ b ++ (y :: spare) := by
    have := List.take_append_drop i es
    rw [hb] at this
    conv => lhs; rw [← this]
    simp
  have e1 := spl_mid (a := es.take i) (b := b) (c := y :: spare) (b' := es.drop (i + 1)) h1 hl.symm
  have e2 := spl_mid (a := es.take i ++ es.drop (i + 1)) (b := [y]) (c := spare) (b' := [z]) (n := es.length - 1) (by simp; omega) rfl
  have e3 : es.take i ++ es.drop (i + 1) ++ y :: spare = es.take i ++ es.drop (i + 1) ++ [y] ++ spare := by simp
  rw [e0, e1, e3, e2, delB]; simp

theorem del172 (r i nx : Nat) (es spare : Blk) (hp : Heap) (hi : i < es.length) (hl : es.length ≤ 1000000) (hone : es.all (fun l => l.all AV.one) = true) (hr : r < nx) :
    ∃ v hp2 nx2, Ret E0 172 [.sl r 1 0 es.length (some (es.length + spare.length)), .v (.int .i64 i), .v (.int .i64 ((i + 1 : Nat) : Int))] (hupd hp r (some (es ++ spare))) nx v hp2 nx2 .e ∧ LifP 1 (es.length + spare.length) (delB es i) r nx hp v hp2 nx2 := by
  refine Ret_genE e0_172 rfl ?_
  have hne : ¬ (i : Int) = ((i + 1 : Nat) : Int) := by omega
  have hil := delB_len es i hi
  have s1 := slice_lhm (sz := 1) (r := r) (i := 0) (len := es.length) (n := es.length + spare.length) (l := i) (h := i + 1) (m := es.length) (k := .i64) (k' := .i64) (k2 := .i64) (by omega) (by omega) (by omega)
  have s2 := slice_hi (sz := 1) (r := r) (i := 0) (len := es.length) (n := es.length + spare.length) (l := i) (k := .i64) (by omega)
  have s3 := slice_lo (sz := 1) (r := r) (i := 0) (len := es.length) (n := es.length + spare.length) (l := i + 1) (k := .i64) (by omega) (by omega)
  simp only [Nat.zero_add] at s1 s3
  have hsum : i + (es.drop (i + 1)).length = es.length - 1 := by simp; omega
  have he : ∀ c, elemsA (hupd hp r (some (es ++ spare))) 1 (.sl r 1 (i + 1) (es.length - (i + 1)) c) = some (es.drop (i + 1)) := fun c => by
    rw [elems_fact (B := es ++ spare) (by simp) (by simp; omega), List.drop_append_of_le_length (by omega), List.take_append_of_le_length (by simp), List.take_of_length_le (by simp)]
  have a1 := app_in (sz := 1) (bytes := 16) (r := r) (i := i) (c := es.length + spare.length) (nx := nx) (hp := hupd hp r (some (es ++ spare))) (B := es ++ spare) (new := es.drop (i + 1)) (by simp) (by omega) (by simp; omega)
  rw [hsum] at a1
  have a2 : appendA 1 16 (.sl r 1 0 i (some (es.length + spare.length))) (.sl r 1 (i + 1) (es.length - (i + 1)) (some (es.length + spare.length - (i + 1)))) (hupd hp r (some (es ++ spare))) nx = some (.sl r 1 0 (es.length - 1) (some (es.length + spare.length)), hupd (hupd hp r (some (es ++ spare))) r (some (spliceL (es ++ spare) i (es.drop (i + 1)))), nx) := by
    simp only [appendA, he]
    rw [if_pos (all_drop hone)]; exact a1
  have s4 := slice_lh (sz := 1) (r := r) (i := 0) (len := es.length - 1) (n := es.length + spare.length) (l := es.length - 1) (h := es.length) (k := .i64) (k' := .i64) (by omega) (by omega)
  simp only [Nat.zero_add, show es.length - (es.length - 1) = 1 by omega] at s4
  have c1 : ∀ c, clearA 1 [AV.str []] (.sl r 1 (es.length - 1) 1 c) (hupd (hupd hp r (some (es ++ spare))) r (some (spliceL (es ++ spare) i (es.drop (i + 1))))) nx = some (.v (.tuple #[]), hupd (hupd (hupd hp r (some (es ++ spare))) r (some (spliceL (es ++ spare) i (es.drop (i + 1))))) r (some (delB es i ++ [AV.str []] :: spare)), nx) := fun c => by
    rw [← spl_del hi]
    exact clear_fact (B := spliceL (es ++ spare) i (es.drop (i + 1))) (by simp) (by simp [spliceL]; omega) rfl (by omega) rfl
  simp only [c172]
  simp [s1, s2, s3, hne, -Int.natCast_add]
  rw [a2]
  simp [s4, -Int.natCast_add]
  rw [c1]
  simp
  exact ⟨r, some (es.length + spare.length), by rw [hil], ⟨[AV.str []] :: spare, by simp⟩, .inl ⟨rfl, rfl, rfl⟩, fun x g1 g2 => by simp [g2]⟩

theorem del173 (r i nx : Nat) (es spare : Blk) (hp : Heap) (hi : i < es.length) (hl : es.length ≤ 1000000) (hone : es.all (fun l => l.all AV.one) = true) (hr : r < nx) :
    ∃ v hp2 nx2, Ret E0 173 [.sl r 3 0 es.length (some (es.length + spare.length)), .v (.int .i64 i), .v (.int .i64 ((i + 1 : Nat) : Int))] (hupd hp r (some (es ++ spare))) nx v hp2 nx2 .e ∧ LifP 3 (es.length + spare.length) (delB es i) r nx hp v hp2 nx2 := by
  refine Ret_genE e0_173 rfl ?_
  have hne : ¬ (i : Int) = ((i + 1 : Nat) : Int) := by omega
  have hil := delB_len es i hi
  have s1 := slice_lhm (sz := 3) (r := r) (i := 0) (len := es.length) (n := es.length + spare.length) (l := i) (h := i + 1) (m := es.length) (k := .i64) (k' := .i64) (k2 := .i64) (by omega) (by omega) (by omega)
  have s2 := slice_hi (sz := 3) (r := r) (i := 0) (len := es.length) (n := es.length + spare.length) (l := i) (k := .i64) (by omega)
  have s3 := slice_lo (sz := 3) (r := r) (i := 0) (len := es.length) (n := es.length + spare.length) (l := i + 1) (k := .i64) (by omega) (by omega)
  simp only [Nat.zero_add] at s1 s3
  have hsum : i + (es.drop (i + 1)).length = es.length - 1 := by simp; omega
  have he : ∀ c, elemsA (hupd hp r (some (es ++ spare))) 3 (.sl r 3 (i + 1) (es.length - (i + 1)) c) = some (es.drop (i + 1)) := fun c => by
    rw [elems_fact (B := es ++ spare) (by simp) (by simp; omega), List.drop_append_of_le_length (by omega), List.take_append_of_le_length (by simp), List.take_of_length_le (by simp)]
  have a1 := app_in (sz := 3) (bytes := 32) (r := r) (i := i) (c := es.length + spare.length) (nx := nx) (hp := hupd hp r (some (es ++ spare))) (B := es ++ spare) (new := es.drop (i + 1)) (by simp) (by omega) (by simp; omega)
  rw [hsum] at a1
  have a2 : appendA 3 32 (.sl r 3 0 i (some (es.length + spare.length))) (.sl r 3 (i + 1) (es.length - (i + 1)) (some (es.length + spare.length - (i + 1)))) (hupd hp r (some (es ++ spare))) nx = some (.sl r 3 0 (es.length - 1) (some (es.length + spare.length)), hupd (hupd hp r (some (es ++ spare))) r (some (spliceL (es ++ spare) i (es.drop (i + 1)))), nx) := by
    simp only [appendA, he]
    rw [if_pos (all_drop hone)]; exact a1
  have s4 := slice_lh (sz := 3) (r := r) (i := 0) (len := es.length - 1) (n := es.length + spare.length) (l := es.length - 1) (h := es.length) (k := .i64) (k' := .i64) (by omega) (by omega)
  simp only [Nat.zero_add, show es.length - (es.length - 1) = 1 by omega] at s4
  have c1 : ∀ c, clearA 3 [AV.str [], AV.v (.int .i64 0), AV.v (.int .i64 0)] (.sl r 3 (es.length - 1) 1 c) (hupd (hupd hp r (some (es ++ spare))) r (some (spliceL (es ++ spare) i (es.drop (i + 1))))) nx = some (.v (.tuple #[]), hupd (hupd (hupd hp r (some (es ++ spare))) r (some (spliceL (es ++ spare) i (es.drop (i + 1))))) r (some (delB es i ++ [AV.str [], AV.v (.int .i64 0), AV.v (.int .i64 0)] :: spare)), nx) := fun c => by
    rw [← spl_del hi]
    exact clear_fact (B := spliceL (es ++ spare) i (es.drop (i + 1))) (by simp) (by simp [spliceL]; omega) rfl (by omega) rfl
  simp only [c173]
  simp [s1, s2, s3, hne, -Int.natCast_add]
  rw [a2]
  simp [s4, -Int.natCast_add]
  rw [c1]
  simp
  exact ⟨r, some (es.length + spare.length), by rw [hil], ⟨[AV.str [], AV.v (.int .i64 0), AV.v (.int .i64 0)] :: spare, by simp⟩, .inl ⟨rfl, rfl, rfl⟩, fun x g1 g2 => by simp [g2]⟩
end Go.Ai
