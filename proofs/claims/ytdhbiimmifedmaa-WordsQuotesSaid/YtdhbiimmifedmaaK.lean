/- strings.Builder. -/
import Derived.Test.YtdhbiimmifedmaaJ
namespace Go.Ai
set_option linter.unusedVariables false
set_option linter.unusedSimpArgs false

/-- Bytes that a builder holds: none, or the first of a block of bytes. -/
def TBy (hp : Heap) (nx : Nat) (l : List UInt8) (y : AV) : Prop :=
  (y = .rs true 0 [] (some 0) ∧ l = []) ∨ ∃ q es k, q + 1 < nx ∧ y = .sl q 1 0 l.length none ∧ hp (q + 1) = some [[.ty 5 k]] ∧ hp q = some es ∧ l.length ≤ es.length ∧ es.take l.length = bytesOf l

theorem TBy.app {hp : Heap} {nx : Nat} {l m : List UInt8} {y : AV} (h : TBy hp nx l y) (hl : l.length + m.length ≤ 1000000000) :
    ∃ y' hp' nx', tappA 5 y (bytesOf m) hp nx = some (y', hp', nx') ∧ TBy hp' nx' (l ++ m) y' ∧ nx ≤ nx' ∧ (∀ p, p < nx → p ∉ slB y → hp' p = hp p) ∧ ∀ p ∈ slB y', p ∈ slB y ∨ nx ≤ p := by
  rcases h with ⟨rfl, rfl⟩ | ⟨q, es, k, h1, rfl, h2, h3, h4, h5⟩
  · by_cases hm : m = []
    · subst hm
      exact ⟨.rs true 0 [] (some 0), hp, nx, rfl, .inl ⟨rfl, rfl⟩, Nat.le_refl _, fun _ _ _ => rfl, by simp⟩
    · have hm' : m.length ≠ 0 := by simpa using hm
      refine ⟨.sl nx 1 0 m.length none, hupd (hupd hp nx (some (bytesOf m))) (nx + 1) (some [[.ty 5 0]]), nx + 2, ?_, ?_, by omega, ?_, ?_⟩
      · simp only [tappA, bytesOf_len]
        rw [if_neg hm', if_pos (by simp only [List.length_nil] at hl; omega)]
      · refine .inr ⟨nx, bytesOf m, 0, by omega, rfl, by simp, by simp, by simp [bytesOf_len], ?_⟩
        simp only [List.nil_append]
        rw [← bytesOf_len (l := m)]; exact List.take_length
      · intro p hp1 _; simp [show ¬ p = nx by omega, show ¬ p = nx + 1 by omega]
      · intro p hp1; simp at hp1; right; omega
  · by_cases hc : l.length + m.length ≤ es.length
    · refine ⟨.sl q 1 0 (l.length + m.length) none, hupd hp q (some (spliceL es l.length (bytesOf m))), nx, ?_, ?_, Nat.le_refl _, ?_, ?_⟩
      · simp only [tappA, h2, h3, bytesOf_len, and_self, if_true]
        rw [if_pos ⟨trivial, h4⟩, if_pos hc]
      · have hsl : (spliceL es l.length (bytesOf m)).take (l ++ m).length = bytesOf (l ++ m) := by
          have e1 : (bytesOf m).length = m.length := bytesOf_len
          simp only [spliceL, h5]
          rw [List.append_assoc, List.length_append, List.take_append, bytesOf_len]
          have : (bytesOf l).take (l.length + m.length) = bytesOf l := List.take_of_length_le (by rw [bytesOf_len]; omega)
          rw [this, Nat.add_sub_cancel_left, List.take_append_of_le_length (by rw [e1]; omega), List.take_of_length_le (by rw [e1]; omega)]
          simp [bytesOf]
        refine .inr ⟨q, spliceL es l.length (bytesOf m), k, h1, by simp, by simp [h2], by simp, ?_, hsl⟩
        simp only [spliceL, List.length_append, h5, bytesOf_len, List.length_drop]; omega
      · intro p hp1 hp2; simp at hp2; simp [hp2]
      · intro p hp1; left; simpa using hp1
    · refine ⟨.sl nx 1 0 (l.length + m.length) none, hupd (hupd (hupd hp q none) nx (some (es.take l.length ++ bytesOf m))) (nx + 1) (some [[.ty 5 0]]), nx + 2, ?_, ?_, by omega, ?_, ?_⟩
      · simp only [tappA, h2, h3, bytesOf_len, and_self, if_true]
        rw [if_pos ⟨trivial, h4⟩, if_neg hc, if_pos (by omega)]
      · refine .inr ⟨nx, es.take l.length ++ bytesOf m, 0, by omega, by simp, by simp, by simp, ?_, ?_⟩
        · rw [h5]; simp [bytesOf_len]
        · rw [h5]
          have : bytesOf l ++ bytesOf m = bytesOf (l ++ m) := by simp [bytesOf]
          rw [this, ← bytesOf_len (l := l ++ m)]; exact List.take_length
      · intro p hp1 hp2; simp at hp2; simp [hp2, show ¬ p = nx by omega, show ¬ p = nx + 1 by omega]
      · intro p hp1; simp at hp1; right; omega

/-- A builder. -/
def BLD (hp : Heap) (nx r : Nat) (l : List UInt8) : Prop :=
  r + 1 < nx ∧ hp (r + 1) = some [[.ty 48 2]] ∧ ∃ a y, hp r = some [[a, y]] ∧ (a = .v (.pointer none) ∨ a = .ptr r 0 0) ∧ TBy hp nx l y ∧ r ∉ slB y ∧ r + 1 ∉ slB y
theorem TBy.other {hp hp' : Heap} {nx nx' : Nat} {l : List UInt8} {y : AV} (h : TBy hp nx l y) (hn : nx ≤ nx') (hk : ∀ p, p < nx → (∀ q ∈ slB y, p = q ∨ p = q + 1) → slB y ≠ [] → hp' p = hp p) : TBy hp' nx' l y := by
  rcases h with ⟨rfl, rfl⟩ | ⟨q, es, k, h1, rfl, h2, h3, h4, h5⟩
  · exact .inl ⟨rfl, rfl⟩
  · exact .inr ⟨q, es, k, by omega, rfl, by rw [hk (q + 1) h1 (by simp) (by simp), h2], by rw [hk q (by omega) (by simp) (by simp), h3], h4, h5⟩

theorem f40 (hp : Heap) (nx r : Nat) (a y : AV) (ha : a = .v (.pointer none) ∨ a = .ptr r 0 0) (h : hp r = some [[a, y]]) (ht : hp (r + 1) = some [[.ty 48 2]]) :
    ∃ hp', Ret E 40 [.ptr r 0 0] hp nx (.tup []) hp' nx .e ∧ hp' r = some [[.ptr r 0 0, y]] ∧ ∀ p, p ≠ r → hp' p = hp p := by
  have main := Ret_genE (P := fun v hp' nx' => v = .tup [] ∧ nx' = nx ∧ hp' r = some [[.ptr r 0 0, y]] ∧ ∀ p, p ≠ r → hp' p = hp p) e40 (args := [.ptr r 0 0]) rfl (hp := hp) (nx := nx) ?_
  · obtain ⟨v, hp', nx', h1, rfl, rfl, h2⟩ := main
    exact ⟨hp', h1, h2⟩
  · rcases ha with rfl | rfl
    · simp [c40, h, ht]
      refine WCall_p (Ret_same rfl ext51 _ _ _) ?_
      simp [h, ht, spliceL]
      exact fun p h1 h2 => absurd h2 h1
    · simp [c40, h, ht]

/-- A letter with a number below 256, in UTF-8. -/
def latC (c : UInt8) : List UInt8 := if c.toNat < 128 then [c] else [UInt8.ofNat (192 + c.toNat / 64), UInt8.ofNat (128 + c.toNat % 64)]
theorem latC_length (c : UInt8) : (latC c).length ≤ 2 := by simp only [latC]; split <;> simp

theorem mvE_t {K : AV → Heap → Nat → Kd → Prop} {hp : Heap} {nx : Nat} {l m : List UInt8} {y : AV} {b : Blk} (hb : b = bytesOf m) (h : TBy hp nx l y) (hl : l.length + m.length ≤ 1000000000)
    (k : ∀ y' hp' nx', TBy hp' nx' (l ++ m) y' → nx ≤ nx' → (∀ p, p < nx → p ∉ slB y → hp' p = hp p) → (∀ p ∈ slB y', p ∈ slB y ∨ nx ≤ p) → K y' hp' nx' .e) : mvE (tappA 5 y b hp nx) K := by
  obtain ⟨y', hp', nx', h1, h2, h3, h4, h5⟩ := h.app hl
  rw [hb, h1]
  exact k y' hp' nx' h2 h3 h4 h5

theorem f52_or (c : UInt8) (h : ¬ c.toNat < 128) : IntKind.wrap .u8 ((BitVec.ofInt IntKind.u8.bits 192 ||| BitVec.ofInt IntKind.u8.bits (IntKind.wrap .u8 ((c.toNat / 64 : Nat) : Int))).toNat : Int) = ((UInt8.ofNat (192 + c.toNat / 64)).toNat : Int)
    ∧ IntKind.wrap .u8 ((BitVec.ofInt IntKind.u8.bits 128 ||| BitVec.ofInt IntKind.u8.bits (IntKind.wrap .u8 ((BitVec.ofInt IntKind.u8.bits (IntKind.wrap .u8 (c.toNat : Int)) &&& BitVec.ofInt IntKind.u8.bits 63).toNat : Int))).toNat : Int) = ((UInt8.ofNat (128 + c.toNat % 64)).toNat : Int) := by
  have key : ((List.range 256).all fun n => decide (IntKind.wrap .u8 ((BitVec.ofInt IntKind.u8.bits 192 ||| BitVec.ofInt IntKind.u8.bits (IntKind.wrap .u8 ((n / 64 : Nat) : Int))).toNat : Int) = ((UInt8.ofNat (192 + n / 64)).toNat : Int)
    ∧ IntKind.wrap .u8 ((BitVec.ofInt IntKind.u8.bits 128 ||| BitVec.ofInt IntKind.u8.bits (IntKind.wrap .u8 ((BitVec.ofInt IntKind.u8.bits (IntKind.wrap .u8 (n : Int)) &&& BitVec.ofInt IntKind.u8.bits 63).toNat : Int))).toNat : Int) = ((UInt8.ofNat (128 + n % 64)).toNat : Int))) = true := by kernel_rfl
  exact of_decide_eq_true (List.all_eq_true.1 key c.toNat (List.mem_range.2 c.toNat_lt))

theorem wrap_u32 (c : UInt8) : IntKind.wrap .u32 (c.toNat : Int) = c.toNat := by
  have key : ((List.range 256).all fun n => decide (IntKind.wrap .u32 (n : Int) = n)) = true := by kernel_rfl
  exact of_decide_eq_true (List.all_eq_true.1 key c.toNat (List.mem_range.2 c.toNat_lt))
theorem f52 (c : UInt8) (hc : ¬ c.toNat < 128) (hp : Heap) (nx : Nat) (l : List UInt8) (y : AV) (hl : l.length ≤ 100000000) (h : TBy hp nx l y) :
    ∃ y' hp' nx', Ret E 52 [y, .v (.int .i32 c.toNat)] hp nx y' hp' nx' .e ∧ TBy hp' nx' (l ++ latC c) y' ∧ nx ≤ nx' ∧ (∀ p, p < nx → p ∉ slB y → hp' p = hp p) ∧ ∀ p ∈ slB y', p ∈ slB y ∨ nx ≤ p := by
  refine (Ret_genE (P := fun y' hp' nx' => TBy hp' nx' (l ++ latC c) y' ∧ nx ≤ nx' ∧ (∀ p, p < nx → p ∉ slB y → hp' p = hp p) ∧ ∀ p ∈ slB y', p ∈ slB y ∨ nx ≤ p) e52 (args := [y, .v (.int .i32 c.toNat)]) rfl (hp := hp) (nx := nx) ?_)
  have hlt := c.toNat_lt
  have hw : IntKind.wrap .u32 (c.toNat : Int) = c.toNat := wrap_u32 c
  have hle : (c.toNat : Int) ≤ 2047 := by omega
  have hsh : shA .shr .i32 (c.toNat : Int) 6 = some (.v (.int .i32 (c.toNat / 64 : Nat))) := by
    have h1 : Nat.min (6 : Int).toNat IntKind.i32.bits = 6 := rfl
    simp only [shA, h1]
    rw [if_neg (by omega), show ((2 : Int) ^ 6) = ((64 : Nat) : Int) by rfl, Int.fdiv_eq_ediv_of_nonneg _ (Int.natCast_nonneg _)]
    rfl
  obtain ⟨h1, h2⟩ := f52_or c hc
  have hlat : latC c = [UInt8.ofNat (192 + c.toNat / 64), UInt8.ofNat (128 + c.toNat % 64)] := if_neg hc
  rw [hlat]
  have hbo : ∀ p q : UInt8, [[AV.v (.int .u8 (p.toNat : Int))], [AV.v (.int .u8 (q.toNat : Int))]] = bytesOf [p, q] := fun _ _ => rfl
  generalize UInt8.ofNat (192 + c.toNat / 64) = p at *
  generalize UInt8.ofNat (128 + c.toNat % 64) = q at *
  generalize c.toNat / 64 = z at *
  generalize c.toNat = n at *
  have hor1 : binA .or (.v (.int .u8 192)) (.v (.int .u8 (IntKind.wrap .u8 (z : Int)))) = some (.v (.int .u8 (p.toNat : Int))) := by rw [binA_or, h1]
  have hand : binA .and (.v (.int .u8 (IntKind.wrap .u8 (n : Int)))) (.v (.int .u8 63)) = some (.v (.int .u8 (IntKind.wrap .u8 ((BitVec.ofInt IntKind.u8.bits (IntKind.wrap .u8 (n : Int)) &&& BitVec.ofInt IntKind.u8.bits 63).toNat : Int)))) := binA_and
  generalize IntKind.wrap .u8 ((BitVec.ofInt IntKind.u8.bits (IntKind.wrap .u8 (n : Int)) &&& BitVec.ofInt IntKind.u8.bits 63).toNat : Int) = m at h2 hand
  have hor2 : binA .or (.v (.int .u8 128)) (.v (.int .u8 m)) = some (.v (.int .u8 (q.toNat : Int))) := by rw [binA_or, h2]
  simp [c52, hw, hle, hsh, hor1, hand, hor2, -binA_or, -binA_and]
  refine mvE_t (hbo p q) h (by simp; omega) fun y' hp' nx' g1 g2 g3 g4 => ?_
  simp
  exact ⟨g1, g2, g3, g4⟩

theorem f41 (c : UInt8) (hp : Heap) (nx : Nat) (l : List UInt8) (y : AV) (hl : l.length ≤ 100000000) (h : TBy hp nx l y) :
    ∃ y' hp' nx', Ret E 41 [y, .v (.int .i32 c.toNat)] hp nx y' hp' nx' .e ∧ TBy hp' nx' (l ++ latC c) y' ∧ nx ≤ nx' ∧ (∀ p, p < nx → p ∉ slB y → hp' p = hp p) ∧ ∀ p ∈ slB y', p ∈ slB y ∨ nx ≤ p := by
  refine (Ret_genE (P := fun y' hp' nx' => TBy hp' nx' (l ++ latC c) y' ∧ nx ≤ nx' ∧ (∀ p, p < nx → p ∉ slB y → hp' p = hp p) ∧ ∀ p ∈ slB y', p ∈ slB y ∨ nx ≤ p) e41 (args := [y, .v (.int .i32 c.toNat)]) rfl (hp := hp) (nx := nx) ?_)
  have hlt := c.toNat_lt
  have hw : IntKind.wrap .u32 (c.toNat : Int) = c.toNat := wrap_u32 c
  by_cases hc : c.toNat < 128
  · have hle : (c.toNat : Int) ≤ 127 := by omega
    have hlat : latC c = [c] := if_pos hc
    rw [hlat]
    have hw8 : IntKind.wrap .u8 (c.toNat : Int) = c.toNat := wrap_u8_id (by omega) (by omega)
    have hbo : [[AV.v (.int .u8 (c.toNat : Int))]] = bytesOf [c] := rfl
    generalize c.toNat = n at *
    simp [c41, hw, hle, hw8]
    refine mvE_t hbo h (by simp; omega) fun y' hp' nx' g1 g2 g3 g4 => ?_
    simp
    exact ⟨g1, g2, g3, g4⟩
  · have hle : ¬ (c.toNat : Int) ≤ 127 := by omega
    obtain ⟨y', hp', nx', r1, r2⟩ := f52 c hc hp nx l y hl h
    generalize c.toNat = n at *
    simp [c41, hw, hle]
    refine WCall_k r1 ?_
    simp
    exact r2

theorem BLD.mk' {hp : Heap} {nx r : Nat} {l : List UInt8} {y : AV} (h1 : r + 1 < nx) (h2 : hp (r + 1) = some [[.ty 48 2]]) (h3 : hp r = some [[.ptr r 0 0, y]]) (h4 : TBy hp nx l y) (h5 : r ∉ slB y) (h6 : r + 1 ∉ slB y) : BLD hp nx r l :=
  ⟨h1, h2, _, y, h3, .inr rfl, h4, h5, h6⟩

/-- Writing a builder's own cell doesn't touch its bytes. -/
theorem TBy.set {hp hp' : Heap} {nx r : Nat} {l : List UInt8} {y : AV} {b : Blk} (h : TBy hp nx l y) (hr : hp r = some b) (hb : b.length = 1 ∧ (∀ x ∈ b, x.length = 2)) (h5 : r ∉ slB y) (hk : ∀ p, p ≠ r → hp' p = hp p) : TBy hp' nx l y := by
  refine h.other (Nat.le_refl _) fun p h1 h2 h3 => hk p ?_
  rintro rfl
  rcases h with ⟨rfl, rfl⟩ | ⟨q, es, k, h1, rfl, h6, h7, _⟩
  · exact h3 rfl
  · rcases h2 q (by simp) with e | e
    · exact h5 (by simp [e])
    · subst e; rw [hr] at h6; simp only [Option.some.injEq] at h6; subst h6
      have := hb.2 [AV.ty 5 k] (by simp)
      simp at this

theorem f30 (c : UInt8) (hp : Heap) (nx r : Nat) (l : List UInt8) (hl : l.length ≤ 100000000) (h : BLD hp nx r l) :
    ∃ v hp' nx', Ret E 30 [.ptr r 0 0, .v (.int .i32 c.toNat)] hp nx v hp' nx' .e ∧ BLD hp' nx' r (l ++ latC c) := by
  refine (Ret_genE (P := fun v hp' nx' => BLD hp' nx' r (l ++ latC c)) e30 (args := [.ptr r 0 0, .v (.int .i32 c.toNat)]) rfl (hp := hp) (nx := nx) ?_)
  obtain ⟨h1, h2, a, y, h3, h4, h5, h6, h7⟩ := h
  obtain ⟨hp1, r1, r2, r3⟩ := f40 hp nx r a y h4 h3 h2
  have t1 : TBy hp1 nx l y := h5.set h3 (by simp) h6 r3
  have w1 : hp1 (r + 1) = some [[.ty 48 2]] := by rw [r3 _ (by omega), h2]
  obtain ⟨y', hp2, nx2, u1, u2, u3, u4, u5⟩ := f41 c hp1 nx l y hl t1
  have v2 : hp2 r = some [[.ptr r 0 0, y]] := by rw [u4 r (by omega) h6, r2]
  have w2 : hp2 (r + 1) = some [[.ty 48 2]] := by rw [u4 (r + 1) (by omega) h7, w1]
  have n6 : r ∉ slB y' := fun hh => by rcases u5 r hh with e | e; exact h6 e; omega
  have n7 : r + 1 ∉ slB y' := fun hh => by rcases u5 _ hh with e | e; exact h7 e; omega
  have hlen : ∃ n : Int, lenA y = some (.v (.int .i64 n)) := by
    rcases t1 with ⟨rfl, rfl⟩ | ⟨q, es, k, _, rfl, _⟩
    · exact ⟨_, rfl⟩
    · exact ⟨_, rfl⟩
  have hlen' : ∃ n : Int, lenA y' = some (.v (.int .i64 n)) := by
    rcases u2 with ⟨rfl, _⟩ | ⟨q, es, k, _, rfl, _⟩
    · exact ⟨_, rfl⟩
    · exact ⟨_, rfl⟩
  have hone : y'.cells = [y'] ∧ y'.one = true := by
    rcases u2 with ⟨rfl, _⟩ | ⟨q, es, k, _, rfl, _⟩ <;> exact ⟨rfl, rfl⟩
  obtain ⟨n1, hn1⟩ := hlen
  obtain ⟨n2, hn2⟩ := hlen'
  simp [c30]
  refine WCall_k r1 ?_
  simp [r2, hn1]
  refine WCall_k u1 ?_
  simp [v2, hone, hn2, spliceL]
  refine BLD.mk' (y := y') (by omega) (by simp [w2]) (by simp) (u2.set v2 (by simp) n6 (fun p hp => by simp [hp])) n6 n7

theorem toB8_bytesOf : ∀ l : List UInt8, toB8 (bytesOf l) = some l
  | [] => rfl
  | b :: l => by
    have ih := toB8_bytesOf l
    simp only [bytesOf, List.map_cons, toB8, byteCell] at ih ⊢
    rw [ih]; simp
theorem f31 (hp : Heap) (nx r : Nat) (l : List UInt8) (hl : l.length ≤ 100000000) (h : BLD hp nx r l) (hne : l = [] → ∃ a, hp r = some [[a, .rs true 0 [] (some 0)]]) :
    ∃ hp' nx', Ret E 31 [.ptr r 0 0] hp nx (.str l) hp' nx' .e := by
  have main := (Ret_genE (P := fun v hp' nx' => v = .str l) e31 (args := [.ptr r 0 0]) rfl (hp := hp) (nx := nx) ?_)
  · obtain ⟨v, hp', nx', h1, rfl⟩ := main
    exact ⟨hp', nx', h1⟩
  obtain ⟨h1, h2, a, y, h3, h4, h5, h6, h7⟩ := h
  by_cases he : l = []
  · obtain ⟨a', h8⟩ := hne he
    subst he
    simp [c31, h8]
  · rcases h5 with ⟨rfl, rfl⟩ | ⟨q, es, k, g1, rfl, g2, g3, g4, g5⟩
    · exact absurd rfl he
    · have hpos : 0 < l.length := List.length_pos_iff.2 he
      simp [c31, h3, hpos, g2, g3, g5, toB8_bytesOf]
      omega
end Go.Ai
