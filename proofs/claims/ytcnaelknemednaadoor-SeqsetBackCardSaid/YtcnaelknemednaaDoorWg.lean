/- The laws of the print and of the text read again. -/
import Derived.Test.YtcnaelknemednaaDoorWe
namespace Go.Ai
set_option linter.unusedVariables false
set_option linter.unusedSimpArgs false

/-- A slice of one's own is lent to a call that knows slices that nobody writes. -/
theorem Ret_lendP {f : Nat} {hp : Heap} {nx sz : Nat} {es : Blk} {x v : AV} (h : OwnS hp nx sz es x) (hc : closedLL es = true) {rest : List AV} (hr : closedL rest = true) (hv : v.flat = true)
    (hf : ∀ y, SlA sz es y → ∀ hp nx, Ret E f (y :: rest) hp nx v hp nx .p) : Ret E f (x :: rest) hp nx v hp nx .e := by
  obtain ⟨nil, z, cap, h1, h2⟩ := frz_own (k := 4) h hc
  refine Ret_lend (args0 := .rs nil z es cap :: rest) ?_ hv (hf _ ⟨nil, z, cap, rfl, h2⟩ hnil 0)
  rw [mapO_cons, h1, mapO_frz_closed hr]; rfl
/-- Any elements more, or none. -/
theorem mvE_appAny {K : AV → Heap → Nat → Kd → Prop} {hp : Heap} {nx sz bytes : Nat} {es : Blk} {x : AV} {new : Blk} (h : OwnS hp nx sz es x) (hx : ∃ b z c, x = .rs b z es (some c)) (hl : (es.length + new.length) * bytes ≤ 140737488355328)
    (k : ∀ x' hp' nx', OwnS hp' nx' sz (es ++ new) x' → K x' hp' nx' .e) : mvE (appA sz bytes x new hp nx) K := by
  cases new with
  | nil =>
    rcases h with ⟨b, z, c, rfl, g1, g2, g3⟩ | ⟨r, h1, rfl, h2⟩
    · simp only [appA]
      rw [if_pos g1, if_pos (by simp)]
      exact k _ _ _ (.inl ⟨b, z, c, by simp, g1, by simpa using g2, by simpa using g3⟩)
    · obtain ⟨b, z, c, hx⟩ := hx; cases hx
  | cons y r =>
    refine mvE_app h (by simp) hl fun hp' h1 h2 => k _ _ _ (.inr ⟨nx, by omega, by simp, by rw [h1]⟩)

theorem f3 (l : List Sp) (x : AV) (hx : SlA 2 (l.map cellsP) x) (hp nx) : Ret E 3 [x] hp nx (.v (.bool true)) hp nx .p := by
  obtain ⟨nil, sz, cap, rfl, hz⟩ := id hx
  refine Ret_pureQ e3 rfl (by simp) ?_ hp nx
  by_cases k1 : 1200 < l.length
  · have k1' : (1200 : Int) < l.length := by omega
    simp [c3, k1']
    exact WCall_p (f5 _ _) (by simp)
  · have k1' : ¬ (1200 : Int) < l.length := by omega
    have hone : (l.map cellsP).all (fun c => c.all AV.one) = true := by
      rw [List.all_map, List.all_eq_true]; intro x _; rfl
    simp only [c3]
    simp [k1', hz.1, hone, -List.all_map]
    refine mvE_appAny (es := []) OwnS.lit ⟨_, _, _, rfl⟩ (by simp; omega) ?_
    rintro x' hp2 nx2 hO
    simp only [List.nil_append] at hO
    have d6 := Ret_lendP hO closed_sps (rest := []) rfl rfl (fun y hy => f6 l y hy (by omega))
    have d8 := Ret_lendP hO closed_sps (rest := []) rfl rfl (fun y hy => f8 l y hy (by omega))
    have d10 := Ret_lendP hO closed_sps (rest := [.rs nil sz (l.map cellsP) cap]) (by simp) rfl (fun y hy => f10 l l y _ hy hx (by omega) (by omega))
    simp
    refine WCall_k d6 ?_
    simp
    refine WCall_p (f7 l _ hx (by omega) _ _) ?_
    simp
    refine WCall_k d8 ?_
    simp
    refine WCall_p (f9 l _ hx (by omega) _ _) ?_
    simp
    refine WCall_k d10 ?_
    simp
    exact WCall_p (f5 _ _) (by simp)
end Go.Ai

namespace Go.Ai
set_option linter.unusedVariables false
set_option linter.unusedSimpArgs false

theorem twB_app : ∀ {t s : List UInt8}, (∀ c ∈ t, isDig c = true) → (t ++ s).takeWhile isDig = t ++ s.takeWhile isDig ∧ (t ++ s).dropWhile isDig = s.dropWhile isDig
  | [], s, _ => ⟨rfl, rfl⟩
  | c :: r, s, h => by
    have hc := h c (by simp)
    have ih := twB_app (t := r) (s := s) fun x hx => h x (by simp [hx])
    simp [List.takeWhile_cons, List.dropWhile_cons, hc, ih]
abbrev stepB (n : Int) (c : UInt8) : Int := min (10 * n + ((c.toNat : Int) - 48)) 4294967296
theorem val_fold (l : List UInt8) : valP l = l.foldl stepB 0 := rfl
theorem dig_of (d : Nat) (h : d < 10) : (UInt8.ofNat (48 + d)).toNat = 48 + d := by
  rw [UInt8.toNat_ofNat']; omega
theorem dd_ok : ∀ (u : Nat), (∀ c ∈ Lib.decDigits u, isDig c = true) ∧ (u ≤ 4294967295 → valP (Lib.decDigits u) = u) ∧ (0 < u → ∃ c r, Lib.decDigits u = c :: r ∧ c ≠ 48) := by
  intro u
  induction u using Nat.strongRecOn with
  | _ u ih =>
    have hd : ∀ d, d < 10 → isDig (UInt8.ofNat (48 + d)) = true := fun d h => by
      simp only [isDig, dig_of d h]; simp; omega
    by_cases h : u < 10
    · rw [Lib.decDigits_one h]
      refine ⟨by simpa using hd u h, fun _ => ?_, fun h0 => ⟨_, [], rfl, fun e => ?_⟩⟩
      · simp only [val_fold, List.foldl_cons, List.foldl_nil, stepB, dig_of u h]; omega
      · have := dig_of u h
        rw [e] at this
        have h2 : (48 : UInt8).toNat = 48 := rfl
        omega
    · obtain ⟨i1, i2, i3⟩ := ih (u / 10) (by omega)
      have e : Lib.decDigits u = Lib.decDigits (u / 10) ++ [UInt8.ofNat (48 + u % 10)] := by
        rw [Lib.decDigits, dif_neg h]
      rw [e]
      refine ⟨fun c hc => ?_, fun hu => ?_, fun _ => ?_⟩
      · rcases List.mem_append.1 hc with hc | hc
        · exact i1 c hc
        · rw [List.mem_singleton.1 hc]; exact hd _ (by omega)
      · have := i2 (by omega)
        rw [val_fold] at this ⊢
        rw [List.foldl_append, this]
        simp only [List.foldl_cons, List.foldl_nil, stepB, dig_of (u % 10) (by omega)]; omega
      · obtain ⟨c, r, h1, h2⟩ := i3 (by omega)
        exact ⟨c, r ++ _, by rw [h1]; rfl, h2⟩
theorem numT_pos {n : Int} (h0 : 0 < n) : numT n = Lib.decDigits n.toNat := by
  rw [numT, if_neg (by omega), Lib.itoa, if_neg (by omega)]
/-- No digit stands there. -/
def NoDig (s : List UInt8) : Prop := s = [] ∨ ∃ c r, s = c :: r ∧ isDig c = false
theorem NoDig.tw {s : List UInt8} (h : NoDig s) : s.takeWhile isDig = [] ∧ s.dropWhile isDig = s := by
  rcases h with rfl | ⟨c, r, rfl, h⟩
  · exact ⟨rfl, rfl⟩
  · simp [List.takeWhile_cons, List.dropWhile_cons, h]
theorem num_back {n : Int} (h0 : 0 ≤ n) (h1 : n ≤ 4294967295) {s : List UInt8} (hs : NoDig s) : numP (numT n ++ s) = some (n, s) := by
  by_cases hz : n = 0
  · subst hz; simp [numT, numP]
  · rw [numT_pos (by omega)]
    obtain ⟨d1, d2, d3⟩ := dd_ok n.toNat
    obtain ⟨c, r, h2, h3⟩ := d3 (by omega)
    obtain ⟨t1, t2⟩ := twB_app (s := s) d1
    have hv := d2 (by omega)
    rw [hs.tw.1, List.append_nil] at t1
    rw [hs.tw.2] at t2
    rw [h2] at t1 t2 hv ⊢
    have hc := d1 c (by rw [h2]; simp)
    have h42 : ¬ c = 42 := fun e => by subst e; revert hc; decide
    simp only [numP, List.cons_append] at t1 t2 ⊢
    rw [if_neg h42, t1, if_neg (by simp [h3]), t2, hv]
    simp; omega
theorem span_back {x : Sp} (h : (0 ≤ x.1 ∧ x.1 ≤ 4294967295) ∧ 0 ≤ x.2 ∧ x.2 ≤ 4294967295) {s : List UInt8} (hs : s = [] ∨ ∃ r, s = 44 :: r) : spanP (spanT x ++ s) = some (x, s) := by
  obtain ⟨a, b⟩ := x
  simp only at h
  have hn : NoDig s := by
    rcases hs with rfl | ⟨r, rfl⟩
    · exact .inl rfl
    · exact .inr ⟨44, r, rfl, by decide⟩
  have hn2 : ∀ t : List UInt8, NoDig (58 :: t) := fun t => .inr ⟨58, t, rfl, by decide⟩
  by_cases hab : a = b
  · subst hab
    simp only [spanT, if_true, List.append_nil, spanP, num_back h.1.1 h.1.2 hn]
    rcases hs with rfl | ⟨r, rfl⟩
    · rfl
    · simp
  · simp only [spanT, hab, if_false, spanP, List.append_assoc, List.cons_append, num_back h.1.1 h.1.2 (hn2 _), if_true, num_back h.2.1 h.2.2 hn]
theorem run_back : ∀ (l : List Sp) (x : Sp) (k : Nat) (out : List Sp), l.length < k → (∀ y ∈ x :: l, (0 ≤ y.1 ∧ y.1 ≤ 4294967295) ∧ 0 ≤ y.2 ∧ y.2 ≤ 4294967295) → runP k (spanT x ++ Lib.joinTail [44] (l.map spanT)) out = some (out ++ x :: l)
  | l, x, 0, out, hk, h => by omega
  | [], x, k + 1, out, hk, h => by
    have := span_back (h x (by simp)) (s := []) (.inl rfl)
    simp only [List.map_nil, Lib.joinTail, List.flatten_nil, runP, this]
  | y :: r, x, k + 1, out, hk, h => by
    have e : Lib.joinTail [44] ((y :: r).map spanT) = 44 :: (spanT y ++ Lib.joinTail [44] (r.map spanT)) := by simp [Lib.joinTail]
    have := span_back (h x (by simp)) (s := 44 :: (spanT y ++ Lib.joinTail [44] (r.map spanT))) (.inr ⟨_, rfl⟩)
    rw [e]
    simp only [runP, this, if_true]
    rw [run_back r y k (out ++ [x]) (by simp at hk; omega) fun z hz => h z (by simp at hz ⊢; right; exact hz)]
    simp
theorem back_ok {l : List Sp} (h : rightS l = true) : parP (printT l) = (l, 0) := by
  obtain ⟨h1, h2, h3⟩ := right_b h
  cases l with
  | nil => simp at h1
  | cons x r =>
    have e : printT (x :: r) = spanT x ++ Lib.joinTail [44] (r.map spanT) := by rw [printT, if_pos h, List.map_cons, Lib.join_cons]
    have hl : r.length < (printT (x :: r)).length + 1 := by
      rw [e, List.length_append, Lib.joinTail_length]; simp; omega
    have hg : (x :: r).any grS = false := by
      rw [Bool.eq_false_iff]; intro h4
      obtain ⟨y, hy, h5⟩ := List.any_eq_true.1 h4
      have := h3 y hy
      simp [grS] at h5; omega
    rw [parP, e, run_back r x _ [] (by rw [← e]; exact hl) h3, parF, List.nil_append, hg, if_neg (by simp), if_neg (by omega)]

theorem dd_inv : ∀ (k : Nat) (ds : List UInt8), ds.length = k → ds ≠ [] → ds.head? ≠ some 48 → (∀ c ∈ ds, isDig c = true) → 0 ≤ valP ds ∧ (valP ds ≤ 4294967295 → 0 < valP ds ∧ Lib.decDigits (valP ds).toNat = ds) := by
  intro k
  induction k with
  | zero => intro ds h1 h2; exact absurd (List.length_eq_zero_iff.1 h1) h2
  | succ k ih =>
    intro ds h1 h2 h3 h4
    obtain ⟨pre, c, rfl⟩ : ∃ pre c, ds = pre ++ [c] := ⟨ds.dropLast, ds.getLast h2, (List.dropLast_concat_getLast h2).symm⟩
    have hc := h4 c (by simp)
    simp only [isDig, Bool.and_eq_true, decide_eq_true_eq] at hc
    have hv : valP (pre ++ [c]) = min (10 * valP pre + ((c.toNat : Int) - 48)) 4294967296 := by
      rw [val_fold, List.foldl_append]; rfl
    have hcc : UInt8.ofNat (48 + (c.toNat - 48)) = c := by
      rw [show 48 + (c.toNat - 48) = c.toNat by omega]; simp
    by_cases hp : pre = []
    · subst hp
      have h0 : valP [] = 0 := rfl
      rw [h0] at hv
      have hne : c.toNat ≠ 48 := fun e => h3 (by
        have : c = 48 := UInt8.toNat_inj.1 e
        rw [this]; rfl)
      have hv2 : valP ([] ++ [c]) = ((c.toNat - 48 : Nat) : Int) := by rw [hv]; omega
      rw [hv2]
      refine ⟨by omega, fun _ => ⟨by omega, ?_⟩⟩
      rw [Int.toNat_natCast, Lib.decDigits_one (by omega), hcc]; rfl
    · have hh : pre.head? ≠ some 48 := by
        cases pre with
        | nil => exact absurd rfl hp
        | cons a r => simpa using h3
      obtain ⟨i1, i2⟩ := ih pre (by simpa using h1) hp hh fun x hx => h4 x (by simp [hx])
      rw [hv]
      refine ⟨by omega, fun h5 => ?_⟩
      obtain ⟨j1, j2⟩ := i2 (by omega)
      have e : min (10 * valP pre + ((c.toNat : Int) - 48)) 4294967296 = ((10 * (valP pre).toNat + (c.toNat - 48) : Nat) : Int) := by omega
      rw [e]
      refine ⟨by omega, ?_⟩
      rw [Int.toNat_natCast, Lib.decDigits, dif_neg (by omega), show (10 * (valP pre).toNat + (c.toNat - 48)) / 10 = (valP pre).toNat by omega, show (10 * (valP pre).toNat + (c.toNat - 48)) % 10 = c.toNat - 48 by omega, j2, hcc]
theorem num_inv {s r : List UInt8} {n : Int} (h : numP s = some (n, r)) : 0 ≤ n ∧ (n ≤ 4294967295 → (numT n).length + r.length ≤ s.length) := by
  cases s with
  | nil => simp [numP] at h
  | cons c t =>
    simp only [numP] at h
    split at h
    · cases h; simp [numT]; omega
    · split at h
      · cases h
      · rename_i hc
        simp only [Option.some.injEq, Prod.mk.injEq] at h
        obtain ⟨rfl, rfl⟩ := h
        have e := congrArg List.length (List.takeWhile_append_dropWhile (p := isDig) (l := c :: t))
        rw [List.length_append] at e
        have h1 : (c :: t).takeWhile isDig ≠ [] := fun e => hc (.inl e)
        have h2 : ((c :: t).takeWhile isDig).head? ≠ some 48 := by
          rw [List.takeWhile_cons]
          split
          · simpa using fun e => hc (.inr e)
          · simp
        obtain ⟨i1, i2⟩ := dd_inv _ _ rfl h1 h2 fun x hx => by
          have := List.all_takeWhile (p := isDig) (l := c :: t)
          exact List.all_eq_true.1 this x hx
        refine ⟨i1, fun h3 => ?_⟩
        obtain ⟨j1, j2⟩ := i2 h3
        rw [numT_pos j1, j2]; omega
theorem span_inv {s r : List UInt8} {x : Sp} (h : spanP s = some (x, r)) : (0 ≤ x.1 ∧ 0 ≤ x.2) ∧ (grS x = false → (spanT x).length + r.length ≤ s.length) := by
  simp only [spanP] at h
  split at h
  · cases h
  · rename_i n t hn
    obtain ⟨n1, n2⟩ := num_inv hn
    split at h
    · cases h
      refine ⟨⟨n1, n1⟩, fun hg => ?_⟩
      simp [grS] at hg
      have := n2 (by omega)
      simpa [spanT] using this
    · split at h
      · split at h
        · cases h
        · rename_i m r2 hm
          obtain ⟨m1, m2⟩ := num_inv hm
          cases h
          refine ⟨⟨n1, m1⟩, fun hg => ?_⟩
          simp [grS] at hg
          have g1 := n2 (by omega)
          have g2 := m2 (by omega)
          simp only [spanT, List.length_append, List.length_cons] at g1 ⊢
          split
          · simp; omega
          · simp; omega
      · cases h
        refine ⟨⟨n1, n1⟩, fun hg => ?_⟩
        simp [grS] at hg
        have := n2 (by omega)
        simpa [spanT] using this
theorem run_inv : ∀ (k : Nat) (s : List UInt8) (out m : List Sp), runP k s out = some m → ∃ x l, m = out ++ x :: l ∧ (∀ y ∈ x :: l, 0 ≤ y.1 ∧ 0 ≤ y.2) ∧ ((∀ y ∈ x :: l, grS y = false) → (spanT x).length + (Lib.joinTail [44] (l.map spanT)).length ≤ s.length)
  | 0, s, out, m, h => by cases h
  | k + 1, s, out, m, h => by
    simp only [runP] at h
    split at h
    · cases h
    · rename_i x r hs
      obtain ⟨s1, s2⟩ := span_inv hs
      split at h
      · cases h
        refine ⟨x, [], rfl, by simpa using s1, fun h => ?_⟩
        have := s2 (h x (by simp))
        simpa [Lib.joinTail] using this
      · rename_i c r'
        split at h
        · obtain ⟨y, l, rfl, h1, h2⟩ := run_inv k _ _ _ h
          refine ⟨x, y :: l, by simp, fun z hz => ?_, fun hg => ?_⟩
          · rcases List.mem_cons.1 hz with rfl | hz
            · exact s1
            · exact h1 z hz
          · have g1 := s2 (hg x (by simp))
            have g2 := h2 fun z hz => hg z (List.mem_cons_of_mem _ hz)
            have e : Lib.joinTail [44] ((y :: l).map spanT) = 44 :: (spanT y ++ Lib.joinTail [44] (l.map spanT)) := by simp [Lib.joinTail]
            rw [e]
            simp only [List.length_cons, List.length_append] at g1 ⊢
            omega
        · cases h
theorem par_inv {s : List UInt8} {m : List Sp} (h : parP s = (m, 0)) : rightS m = true ∧ (printT m).length ≤ s.length := by
  rw [parP] at h
  cases hr : runP (s.length + 1) s [] with
  | none => rw [hr] at h; simp [parF] at h
  | some m' =>
    rw [hr] at h
    simp only [parF] at h
    split at h
    · simp at h
    · rename_i hg
      split at h
      · simp at h
      · rename_i hl
        simp only [Prod.mk.injEq, and_true] at h
        subst h
        obtain ⟨x, l, rfl, h1, h2⟩ := run_inv _ _ _ _ hr
        rw [List.nil_append] at hl hg ⊢
        have hg2 : ∀ y ∈ x :: l, grS y = false := fun y hy => by
          rw [Bool.eq_false_iff]; intro h4
          exact hg (List.any_eq_true.2 ⟨y, hy, h4⟩)
        have hR : rightS (x :: l) = true := by
          have : (x :: l).any badP = false := by
            rw [Bool.eq_false_iff]; intro h4
            obtain ⟨y, hy, h5⟩ := List.any_eq_true.1 h4
            have g1 := h1 y hy
            have g2 := hg2 y hy
            obtain ⟨a, b⟩ := y
            rw [badP_iff] at h5
            simp [grS] at g2 h5 g1
            omega
          simp only [rightS, this]
          simp at hl ⊢; omega
        refine ⟨hR, ?_⟩
        have := h2 hg2
        rw [printT, if_pos hR, List.map_cons, Lib.join_cons, List.length_append]; exact this
theorem par_none {s : List UInt8} (h : (parP s).2 ≠ 0) : (parP s).1 = [] := by
  revert h
  rw [parP]
  cases runP (s.length + 1) s [] with
  | none => intro _; rfl
  | some m =>
    simp only [parF]
    intro h
    split at h
    · rw [if_pos (by assumption)]
    · split at h
      · rw [if_neg (by assumption), if_pos (by assumption)]
      · simp at h
end Go.Ai

namespace Go.Ai
set_option linter.unusedVariables false
set_option linter.unusedSimpArgs false

theorem printT_len (l : List Sp) : (printT l).length ≤ 51000 := by
  unfold printT
  cases h : rightS l with
  | false => simp
  | true => rw [if_pos rfl, ← preT_all]; exact preT_len h _
theorem f4 (l : List Sp) (x : AV) (hx : SlA 2 (l.map cellsP) x) (s : List UInt8) (hp nx) : Ret E 4 [x, .str s] hp nx (.v (.bool true)) hp nx .p := by
  obtain ⟨nil, sz, cap, rfl, hz⟩ := id hx
  refine Ret_pureQ e4 rfl (by simp) ?_ hp nx
  by_cases k1 : 1200 < l.length
  · have k1' : (1200 : Int) < l.length := by omega
    simp [c4, k1']
    exact WCall_p (f5 _ _) (by simp)
  · have k1' : ¬ (1200 : Int) < l.length := by omega
    by_cases k2 : 20000 < s.length
    · have k2' : (20000 : Int) < s.length := by omega
      simp [c4, k1', k2']
      exact WCall_p (f5 _ _) (by simp)
    · have k2' : ¬ (20000 : Int) < s.length := by omega
      obtain ⟨v2, ⟨y2, rfl, hy2⟩, b2⟩ := f11 s (by omega)
      obtain ⟨m, e, hm⟩ : ∃ m e, parP s = (m, e) := ⟨_, _, rfl⟩
      rw [hm] at hy2 b2
      simp only at hy2 b2
      obtain ⟨nil2, sz2, cap2, rfl, hz2⟩ := id hy2
      simp [c4, k1', k2']
      refine WCall_p (f6 l _ hx (by omega) _ _) ?_
      simp
      refine WCall_p (f8 l _ hx (by omega) _ _) ?_
      cases hr : rightS l with
      | false =>
        have ht : printT l = [] := by rw [printT, hr]; rfl
        simp [ht]
        refine WCall_p (b2 _ _) ?_
        simp
        refine WCall_p (f12 _ _ _) ?_
        by_cases he : e = 0
        · subst he
          obtain ⟨g1, g2⟩ := par_inv hm
          have g3 := right_b g1
          obtain ⟨v3, ⟨y3, rfl, hy3⟩, b3⟩ := f11 (printT m) (by have := printT_len m; omega)
          rw [back_ok g1] at hy3 b3
          simp only at hy3 b3
          have a3 := f10 m m y3 _ hy3 hy2 (by omega) (by omega)
          simp only [decide_true] at a3
          have g2' : ((printT m).length : Int) ≤ s.length := by omega
          obtain ⟨nil3, sz3, cap3, rfl, hz3⟩ := id hy3
          simp
          refine WCall_p (f6 m _ hy2 (by omega) _ _) ?_
          simp
          refine WCall_p (b3 _ _) ?_
          simp [spliceL]
          refine WCall_p (f8 m _ hy2 (by omega) _ _) ?_
          simp [g1]
          refine WCall_p (f12 _ _ _) ?_
          simp
          refine WCall_p (a3 _ _) ?_
          simp [g2']
          exact WCall_p (f5 _ _) (by simp)
        · have hn := par_none (s := s) (by rw [hm]; exact he)
          rw [hm] at hn
          simp only at hn
          subst hn
          simp [he]
          exact WCall_p (f5 _ _) (by simp)
      | true =>
        obtain ⟨v1, ⟨y1, rfl, hy1⟩, b1⟩ := f11 (printT l) (by have := printT_len l; omega)
        rw [back_ok hr] at hy1 b1
        simp only at hy1 b1
        have a1 := f10 l l y1 _ hy1 hx (by omega) (by omega)
        simp only [decide_true] at a1
        obtain ⟨nil1, sz1, cap1, rfl, hz1⟩ := id hy1
        simp
        refine WCall_p (b1 _ _) ?_
        simp [spliceL]
        refine WCall_p (f12 _ _ _) ?_
        simp
        refine WCall_p (a1 _ _) ?_
        simp
        refine WCall_p (b2 _ _) ?_
        simp [spliceL]
        refine WCall_p (f12 _ _ _) ?_
        by_cases he : e = 0
        · subst he
          obtain ⟨g1, g2⟩ := par_inv hm
          have g3 := right_b g1
          obtain ⟨v3, ⟨y3, rfl, hy3⟩, b3⟩ := f11 (printT m) (by have := printT_len m; omega)
          rw [back_ok g1] at hy3 b3
          simp only at hy3 b3
          have a3 := f10 m m y3 _ hy3 hy2 (by omega) (by omega)
          simp only [decide_true] at a3
          have g2' : ((printT m).length : Int) ≤ s.length := by omega
          obtain ⟨nil3, sz3, cap3, rfl, hz3⟩ := id hy3
          simp
          refine WCall_p (f6 m _ hy2 (by omega) _ _) ?_
          simp
          refine WCall_p (b3 _ _) ?_
          simp [spliceL]
          refine WCall_p (f8 m _ hy2 (by omega) _ _) ?_
          simp [g1]
          refine WCall_p (f12 _ _ _) ?_
          simp
          refine WCall_p (a3 _ _) ?_
          simp [g2']
          exact WCall_p (f5 _ _) (by simp)
        · have hn := par_none (s := s) (by rw [hm]; exact he)
          rw [hm] at hn
          simp only at hn
          subst hn
          simp [he]
          exact WCall_p (f5 _ _) (by simp)
end Go.Ai
