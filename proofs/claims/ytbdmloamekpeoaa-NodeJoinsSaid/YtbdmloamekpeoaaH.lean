/- Size and Encode, and the document's. -/
import Derived.Test.YtbdmloamekpeoaaG
namespace Go.Ai
set_option linter.unusedVariables false
set_option linter.unusedSimpArgs false

def sumW (n : Nd) : Nat → Nat
  | 0 => 0
  | k + 1 => sumW n k + weightS n k
theorem sumW_length (n : Nd) : ∀ k, ((List.range k).flatMap (entryB n)).length = sumW n k
  | 0 => rfl
  | k + 1 => by rw [List.range_succ]; simp [sumW_length n k, sumW, entryB_length]
theorem sumW_le {n : Nd} (hr : RightF n) : ∀ k, k ≤ n.keys.length → sumW n k ≤ 122 * k
  | 0, _ => by simp [sumW]
  | k + 1, h => by
    have := sumW_le hr k (by omega)
    have := weightS_le hr (i := k) (by omega)
    simp only [sumW]; omega

def sizeS (n : Nd) : Nat := if rightS n then (contentS n).length else 0
theorem contentS_length (n : Nd) : (contentS n).length = (headB n).length + sumW n n.keys.length := by
  simp only [contentS, List.length_append, sumW_length]

theorem f14 (n : Nd) (x : AV) (hx : NdA n x) (h1 : n.keys.length ≤ 100000) (h2 : n.items.length ≤ 100000) (h3 : n.kids.length ≤ 100000) (hp nx) :
    Ret E 14 [x] hp nx (.v (.int .i64 (sizeS n))) hp nx .p := by
  have hx0 := hx
  obtain ⟨kA, iA, dA, rfl, hk, hi, hd⟩ := hx
  have c12' := f12 n _ hx0 h1 h2 h3
  have c35' := f35 n _ hx0
  have c36' := fun hr i hi => f36 n _ hx0 hr i hi
  obtain ⟨kn, ksz, kc, rfl, hkz⟩ := hk
  obtain ⟨in', isz, ic, rfl, hiz⟩ := hi
  obtain ⟨dn, dsz, dc, rfl, hdz⟩ := hd
  refine Ret_pureQ e14 rfl (by simp) ?_ hp nx
  simp [c14]
  refine WCall_p (c12' _ _) ?_
  cases hr : rightS n
  · simp [sizeS, hr]
  · have hf := RightF.of hr
    have hhl : (headB n).length ≤ 6 := by rw [headB_length]; split <;> omega
    have hsz : sizeS n = (headB n).length + sumW n n.keys.length := by simp [sizeS, hr, contentS_length]
    simp
    refine WCall_p (c35' _ _) ?_
    simp
    refine W_loopI (I := fun (j : Nat) s => j ≤ n.keys.length ∧ s.tm 13 = .int .i64 j ∧ s.tm 12 = .int .i64 n.keys.length ∧ s.tm 3 = .int .i64 ((headB n).length + sumW n j : Nat) ∧ s.tm 1 = .ptr 0 0 0 ∧
      s.hp = hupd hnil 0 (some [[.v (.bool n.leaf), .rs kn ksz (n.keys.map keyC) kc, .rs in' isz (n.items.map Itm.cells) ic, .rs dn dsz (n.kids.map kidC) dc]]) ∧ s.nx = 1)
      (fun j => n.keys.length - j) 0 (by simp [sumW]) ?_
    rintro j tm hp nx ⟨hj, t13, t12, t3, t1, rfl, rfl⟩
    simp only at t13 t12 t3 t1
    by_cases hlt : j < n.keys.length
    · have hw : IntKind.wrap .i64 ((j : Int) + 1) = (j + 1 : Nat) := by rw [wrap_id] <;> omega
      have hs := sumW_le hf j hj
      have hwl := weightS_le hf hlt
      have hw2 : IntKind.wrap .i64 (((headB n).length + sumW n j : Nat) + (weightS n j : Int)) = ((headB n).length + sumW n (j + 1) : Nat) := by
        have e : sumW n (j + 1) = sumW n j + weightS n j := rfl
        rw [wrap_id] <;> omega
      simp [t13, t12, t3, t1, hlt, -Int.natCast_add]
      refine WCall_p (c36' hf j hlt _ _) ?_
      simp [t13, t12, t3, t1, hw, hw2, -Int.natCast_add]
      exact ⟨j + 1, by omega, by omega, by simp, by simp⟩
    · have : j = n.keys.length := by omega
      subst this
      simp [t13, t12, t3, -Int.natCast_add]
      rw [hsz]

theorem f37 (n : Nd) (x : AV) (hx : NdA n x) (hf : RightF n) (h1 : n.keys.length ≤ 60000) (hp nx) :
    Ret E 37 [x] hp nx (.str (contentS n)) hp nx .p := by
  obtain ⟨kA, iA, dA, rfl, hk, hi, hd⟩ := hx
  obtain ⟨kn, ksz, kc, rfl, hkz⟩ := hk
  obtain ⟨in', isz, ic, rfl, hiz⟩ := hi
  obtain ⟨dn, dsz, dc, rfl, hdz⟩ := hd
  refine Ret_pureQ e37 rfl (by simp) ?_ hp nx
  have hhl : (headB n).length ≤ 6 := by rw [headB_length]; split <;> omega
  have key : ∀ tm, tm 3 = .str (headB n) → tm 1 = .ptr 0 0 0 → tm 4 = .int .i64 0 →
    W (Ret E) (.loop (match c37.body with | .seq _ (.seq _ (.seq _ (.seq (.seq _ (.block _ (.loop b))) _))) => b | _ => .skip)) (fun e s => match e with
      | .exit 0 => s.tm 3 = .str (contentS n)
      | _ => False) ⟨tm, hupd hnil 0 (some [[.v (.bool n.leaf), .rs kn ksz (n.keys.map keyC) kc, .rs in' isz (n.items.map Itm.cells) ic, .rs dn dsz (n.kids.map kidC) dc]]), 1⟩ := by
    intro tm t3 t1 t4
    simp only [c37]
    refine W_loopI (I := fun (j : Nat) s => j ≤ n.keys.length ∧ s.tm 4 = .int .i64 j ∧ s.tm 3 = .str (headB n ++ (List.range j).flatMap (entryB n)) ∧ s.tm 1 = .ptr 0 0 0 ∧
      s.hp = hupd hnil 0 (some [[.v (.bool n.leaf), .rs kn ksz (n.keys.map keyC) kc, .rs in' isz (n.items.map Itm.cells) ic, .rs dn dsz (n.kids.map kidC) dc]]) ∧ s.nx = 1)
      (fun j => n.keys.length - j) 0 (by simp [t3, t1, t4]) ?_
    rintro j tm hp nx ⟨hj, t4, t3, t1, rfl, rfl⟩
    simp only at t4 t3 t1
    by_cases hlt : j < n.keys.length
    · have hs := sumW_le hf j hj
      have hwl := weightS_le hf hlt
      have hget : n.keys[j]? = some n.keys[j] := List.getElem?_eq_getElem hlt
      have hgd : n.keys.getD j [] = n.keys[j] := by simp [hget]
      have hia : iaddrA 1 (.rs kn ksz (n.keys.map keyC) kc) (.v (.int .i64 j)) = some (.rp (keyC n.keys[j])) := iaddr_in hkz (by simp [hget]) rfl
      have hw : IntKind.wrap .i64 ((j : Int) + 1) = (j + 1 : Nat) := by rw [wrap_id] <;> omega
      have hkl := hf.klen j hlt
      generalize hP : headB n ++ (List.range j).flatMap (entryB n) = P at t3
      have hPl : P.length ≤ 122 * 60000 + 6 := by rw [← hP, List.length_append, sumW_length]; omega
      have hent : headB n ++ (List.range (j + 1)).flatMap (entryB n) = P ++ entryB n j := by rw [← hP, List.range_succ]; simp
      have ha1 : P.length + (numS n.keys[j].length 1).length ≤ 9223372036854775807 := by rw [numS_length]; omega
      have ha2 : (P ++ numS n.keys[j].length 1).length + n.keys[j].length ≤ 9223372036854775807 := by rw [List.length_append, numS_length]; omega
      simp [t4, t3, t1, hlt, -iaddrA_rs, hia, keyC, -List.length_append, -List.append_assoc]
      refine WCall_p (f58 n.keys[j].length 1 (by omega) (by omega) _ _) ?_
      cases hl : n.leaf
      · obtain ⟨g1, g2, g3, g4⟩ := hf.inner hl
        have hjk : j + 1 < n.kids.length := by omega
        have hib : iaddrA 1 (.rs dn dsz (n.kids.map kidC) dc) (.v (.int .i64 (j + 1 : Nat))) = some (.rp (kidC n.kids[j + 1])) := iaddr_in hdz (by simp [hjk]) rfl
        obtain ⟨k, hk, _, _⟩ := kidS_nat (g4 _ (List.getElem_mem hjk))
        have he : entryB n j = numS n.keys[j].length 1 ++ n.keys[j] ++ numS k 4 := by
          have : n.kids.getD (j + 1) 0 = k := by simp [hjk, hk]
          simp only [entryB, hgd, hl, this]; simp
        have ha3 : (P ++ numS n.keys[j].length 1 ++ n.keys[j]).length + (numS k 4).length ≤ 9223372036854775807 := by simp only [List.length_append, numS_length]; omega
        simp [t4, t3, t1, hlt, -iaddrA_rs, hia, hib, keyC, kidC, hk, ha1, ha2, hl, hw, -List.length_append, -List.append_assoc, -Int.natCast_add]
        refine WCall_p (f58 k 4 (by omega) (by omega) _ _) ?_
        simp [t4, t3, t1, ha3, hw, -List.length_append, -List.append_assoc, -Int.natCast_add]
        exact ⟨j + 1, by omega, by omega, by simp, by rw [hent, he]; simp⟩
      · obtain ⟨g1, g2, g3⟩ := hf.leaf hl
        have hi2 : j < n.items.length := by omega
        have hg : n.items.getD j ⟨[], 0, 0⟩ = n.items[j] := by simp [hi2]
        have hib : iaddrA 3 (.rs in' isz (n.items.map Itm.cells) ic) (.v (.int .i64 j)) = some (.rp n.items[j].cells) := iaddr_in hiz (by simp [hi2]) rfl
        have he : entryB n j = numS n.keys[j].length 1 ++ n.keys[j] ++ itemB n.items[j] := by
          simp only [entryB, hgd, hl, hg]; simp
        rcases itemS_cases (g3 _ (List.getElem_mem hi2)) with ⟨q1, q2, q3⟩ | ⟨p, s, q1, q2, q3, q4, q5, q6, q7⟩
        · have hp0 : ¬ (0 : Int) < n.items[j].p := by omega
          have hb : itemB n.items[j] = numS n.items[j].v.length 1 ++ n.items[j].v := by simp [itemB, hp0]
          have ha3 : (P ++ numS n.keys[j].length 1 ++ n.keys[j]).length + (numS n.items[j].v.length 1).length ≤ 9223372036854775807 := by simp only [List.length_append, numS_length]; omega
          have ha4 : (P ++ numS n.keys[j].length 1 ++ n.keys[j] ++ numS n.items[j].v.length 1).length + n.items[j].v.length ≤ 9223372036854775807 := by simp only [List.length_append, numS_length]; omega
          simp [t4, t3, t1, hlt, -iaddrA_rs, hia, hib, keyC, Itm.cells, ha1, ha2, hl, hw, hp0, -List.length_append, -List.append_assoc, -Int.natCast_add]
          refine WCall_p (f58 n.items[j].v.length 1 (by omega) (by omega) _ _) ?_
          simp [t4, t3, t1, hib, -iaddrA_rs, Itm.cells, ha3, ha4, hw, -List.length_append, -List.append_assoc, -Int.natCast_add]
          exact ⟨j + 1, by omega, by omega, by simp, by rw [hent, he, hb]; simp⟩
        · have hp0 : (0 : Int) < n.items[j].p := by omega
          have hb : itemB n.items[j] = [255] ++ numS p 4 ++ numS s 4 := by simp [itemB, q1, q2, show 0 < p by omega]
          have ha3 : (P ++ numS n.keys[j].length 1 ++ n.keys[j]).length + 1 ≤ 9223372036854775807 := by simp only [List.length_append, numS_length, List.length_singleton]; omega
          have ha4 : (P ++ numS n.keys[j].length 1 ++ n.keys[j] ++ [255]).length + (numS p 4).length ≤ 9223372036854775807 := by simp only [List.length_append, numS_length, List.length_singleton]; omega
          have ha5 : (P ++ numS n.keys[j].length 1 ++ n.keys[j] ++ [255] ++ numS p 4).length + (numS s 4).length ≤ 9223372036854775807 := by simp only [List.length_append, numS_length, List.length_singleton]; omega
          simp [t4, t3, t1, hlt, -iaddrA_rs, hia, hib, keyC, Itm.cells, ha1, ha2, ha3, hl, hw, hp0, -List.length_append, -List.append_assoc, -Int.natCast_add]
          rw [q1]
          refine WCall_p (f58 p 4 (by omega) (by omega) _ _) ?_
          simp [t4, t3, t1, hib, -iaddrA_rs, Itm.cells, ha4, hw, -List.length_append, -List.append_assoc, -Int.natCast_add]
          rw [q2]
          refine WCall_p (f58 s 4 (by omega) (by omega) _ _) ?_
          simp [t4, t3, t1, ha5, hw, -List.length_append, -List.append_assoc, -Int.natCast_add]
          exact ⟨j + 1, by omega, by omega, by simp, by rw [hent, he, hb]; simp⟩
    · have : j = n.keys.length := by omega
      subst this
      simp [t4, t3, t1, contentS]
  have done : ∀ tm, tm 3 = .str (headB n) → tm 1 = .ptr 0 0 0 → tm 4 = .int .i64 0 → W (Ret E) (match c37.body with | .seq _ (.seq _ (.seq _ (.seq (.seq _ l) _))) => l | _ => .skip) (fun e s => e = .normal ∧ s.tm 3 = .str (contentS n)) ⟨tm, hupd hnil 0 (some [[.v (.bool n.leaf), .rs kn ksz (n.keys.map keyC) kc, .rs in' isz (n.items.map Itm.cells) ic, .rs dn dsz (n.kids.map kidC) dc]]), 1⟩ := by
    intro tm t3 t1 t4
    simp only [c37]
    simp only [W_block]
    refine W_mono (fun _ _ _ _ _ _ _ _ h => h) _ _ _ _ ?_ (key tm t3 t1 t4)
    rintro e s h
    cases e with
    | normal => exact h.elim
    | ret => exact h.elim
    | exit i =>
      cases i with
      | zero => exact ⟨rfl, h⟩
      | succ i => exact h.elim
  have fin : ∀ tm, tm 3 = .str (headB n) → tm 1 = .ptr 0 0 0 → tm 4 = .int .i64 0 → ∀ Q, (∀ tm hp nx, tm 3 = .str (contentS n) → Q .normal ⟨tm, hp, nx⟩) → W (Ret E) (match c37.body with | .seq _ (.seq _ (.seq _ (.seq (.seq _ l) _))) => l | _ => .skip) Q ⟨tm, hupd hnil 0 (some [[.v (.bool n.leaf), .rs kn ksz (n.keys.map keyC) kc, .rs in' isz (n.items.map Itm.cells) ic, .rs dn dsz (n.kids.map kidC) dc]]), 1⟩ := by
    intro tm t3 t1 t4 Q hQ
    refine W_mono (fun _ _ _ _ _ _ _ _ h => h) _ _ _ _ ?_ (done tm t3 t1 t4)
    rintro e ⟨tm, hp, nx⟩ ⟨rfl, h⟩
    exact hQ _ _ _ h
  simp [c37, -W_block]
  refine WCall_p (f58 n.keys.length 2 (by omega) (by omega) _ _) ?_
  cases hl : n.leaf
  · obtain ⟨g1, g2, g3, g4⟩ := hf.inner hl
    have h0 : 0 < n.kids.length := by omega
    have hib : iaddrA 1 (.rs dn dsz (n.kids.map kidC) dc) (.v (.int .i64 0)) = some (.rp (kidC n.kids[0])) := iaddr_in (j := 0) hdz (by simp [h0]) rfl
    obtain ⟨k, hk, _, _⟩ := kidS_nat (g4 _ (List.getElem_mem h0))
    have hh : headB n = numS n.keys.length 2 ++ numS k 4 := by
      have : n.kids.getD 0 0 = k := by simp [h0, hk]
      simp only [headB, hl, this]; simp
    have ha : (numS n.keys.length 2).length + (numS k 4).length ≤ 9223372036854775807 := by simp [numS_length]
    simp [hib, -iaddrA_rs, kidC, hk, -List.length_append, -W_block]
    refine WCall_p (f58 k 4 (by omega) (by omega) _ _) ?_
    simp [ha, -List.length_append, -W_block]
    rw [hl] at fin
    refine fin _ (by simp [hh]) (by simp) (by simp) _ ?_
    intro tm hp nx t3
    simp [t3]
  · have hh : headB n = numS n.keys.length 2 := by simp [headB, hl]
    simp [-W_block]
    rw [hl] at fin
    refine fin _ (by simp [hh]) (by simp) (by simp) _ ?_
    intro tm hp nx t3
    simp [t3]
end Go.Ai
