/- Encode, and the document's. -/
import Derived.Test.YtbdmloamekpeoaaI
namespace Go.Ai
set_option linter.unusedVariables false
set_option linter.unusedSimpArgs false

theorem f15 (n : Nd) (x : AV) (hx : NdA n x) (h1 : n.keys.length ≤ 60000) (h2 : n.items.length ≤ 60000) (h3 : n.kids.length ≤ 60000) (hp nx) :
    Ret E 15 [x] hp nx (.v (.int .i64 (sizeS n))) hp nx .p := by
  have hx0 := hx
  have c13' := f13 n _ hx0 (by omega) (by omega) (by omega)
  have c37' := fun hr => f37 n _ hx0 hr h1
  obtain ⟨kA, iA, dA, rfl, hk, hi, hd⟩ := hx
  obtain ⟨kn, ksz, kc, rfl, hkz⟩ := hk
  obtain ⟨in', isz, ic, rfl, hiz⟩ := hi
  obtain ⟨dn, dsz, dc, rfl, hdz⟩ := hd
  refine Ret_pureQ e15 rfl (by simp) ?_ hp nx
  simp [c15]
  refine WCall_p (c13' _ _) ?_
  cases hr : rightS n
  · simp [sizeS, hr]
  · simp
    refine WCall_p (c37' (RightF.of hr) _ _) ?_
    simp [sizeS, hr]

def encS (n : Nd) : Int × List UInt8 × Int :=
  if rightS n then (if (contentS n).length > 492 then (0, [], 4) else (if n.leaf then 1 else 2, contentS n, 0)) else (0, [], 2)
def encA (r : Int × List UInt8 × Int) : AV := .tup [.int .i64 r.1, .str r.2.1, .int .i64 r.2.2]

theorem f17 (n : Nd) (x : AV) (hx : NdA n x) (h1 : n.keys.length ≤ 60000) (h2 : n.items.length ≤ 60000) (h3 : n.kids.length ≤ 60000) (hp nx) :
    Ret E 17 [x] hp nx (encA (encS n)) hp nx .p := by
  have hx0 := hx
  have c13' := f13 n _ hx0 (by omega) (by omega) (by omega)
  have c37' := fun hr => f37 n _ hx0 hr h1
  obtain ⟨kA, iA, dA, rfl, hk, hi, hd⟩ := hx
  obtain ⟨kn, ksz, kc, rfl, hkz⟩ := hk
  obtain ⟨in', isz, ic, rfl, hiz⟩ := hi
  obtain ⟨dn, dsz, dc, rfl, hdz⟩ := hd
  refine Ret_pureQ e17 rfl (by simp) ?_ hp nx
  simp [c17]
  refine WCall_p (c13' _ _) ?_
  cases hr : rightS n
  · simp [encA, encS, hr, frz_closed]
  · simp
    refine WCall_p (c37' (RightF.of hr) _ _) ?_
    by_cases hl : (contentS n).length > 492
    · have hl' : (492 : Int) < (contentS n).length := by omega
      simp [encA, encS, hr, hl', hl, frz_closed]
    · have hl' : ¬ (492 : Int) < (contentS n).length := by omega
      cases hlf : n.leaf
      · simp [encA, encS, hr, hl', hl, frz_closed, hlf]
      · simp [encA, encS, hr, hl', hl, frz_closed, hlf]

theorem TX.read {hp : Heap} {nx w : Nat} {l : List UInt8} (h : TX hp nx w l) (hne : l ≠ []) : ∃ b, hp w = some [[.sl b 1 0 l.length none]] ∧ b2sO hp b 1 0 l.length = some (.str l) := by
  obtain ⟨_, h⟩ := h
  rcases h with ⟨_, h⟩ | ⟨b, _, _, h1, h2⟩
  · exact absurd h hne
  · refine ⟨b, h1, ?_⟩
    rw [b2sO_at h2]
    have : ((bytesOf l).drop 0).take l.length = bytesOf l := by rw [List.drop_zero, ← bytesOf_length (l := l)]; exact List.take_length
    rw [if_pos ⟨rfl, by rw [bytesOf_length]; omega⟩, this, toBytes_bytesOf]
    rfl

set_option maxHeartbeats 400000 in
theorem f16 (n : Nd) (x : AV) (hx : NdA n x) (h1 : n.keys.length ≤ 60000) (h2 : n.items.length ≤ 60000) (h3 : n.kids.length ≤ 60001) (hp nx) :
    Ret E 16 [x] hp nx (encA (encS n)) hp nx .p := by
  have hx0 := hx
  have c12' := f12 n _ hx0 (by omega) (by omega) (by omega)
  have c14' := f14 n _ hx0 (by omega) (by omega) (by omega)
  obtain ⟨kA, iA, dA, rfl, hk, hi, hd⟩ := hx
  obtain ⟨kn, ksz, kc, rfl, hkz⟩ := hk
  obtain ⟨in', isz, ic, rfl, hiz⟩ := hi
  obtain ⟨dn, dsz, dc, rfl, hdz⟩ := hd
  refine Ret_pureQ e16 rfl (by simp) ?_ hp nx
  simp [c16]
  refine WCall_p (c12' _ _) ?_
  cases hr : rightS n
  · simp [encA, encS, hr, frz_closed]
  have hf := RightF.of hr
  simp
  refine WCall_p (c14' _ _) ?_
  have hsz : sizeS n = (contentS n).length := by simp [sizeS, hr]
  by_cases hl : (contentS n).length > 492
  · have hl' : (492 : Int) < (sizeS n : Int) := by omega
    simp [encA, encS, hr, hl', hl, frz_closed]
  have hl' : ¬ (492 : Int) < (sizeS n : Int) := by omega
  simp [hl']
  generalize hND : [AV.v (Value.bool n.leaf), AV.rs kn ksz (n.keys.map keyC) kc, AV.rs in' isz (n.items.map Itm.cells) ic, AV.rs dn dsz (n.kids.map kidC) dc] = ND
  have hT0 : TX (hupd (hupd hnil 0 (some [ND])) 1 (some [[.rs true 0 [] (some 0)]])) 2 1 [] := ⟨by omega, .inl ⟨by simp, rfl⟩⟩
  have hB0 : ¬ TXb (hupd (hupd hnil 0 (some [ND])) 1 (some [[.rs true 0 [] (some 0)]])) 1 0 := by
    rintro (e | ⟨n, c, e⟩)
    · omega
    · simp at e
  obtain ⟨hp1, nx1, r1, r2, r3⟩ := f38 n.keys.length 2 (by omega) (by omega) _ _ 1 [] (by simp) hT0
  have k1 := r3.keep 0 (by omega) hB0
  have hN1 : hp1 0 = some [ND] := by rw [k1.1]; simp
  subst hND
  refine WCall_k r1 ?_
  simp only [List.nil_append] at r2
  -- behind the head
  have tail : ∀ tm hp nx, tm 1 = .ptr 0 0 0 → tm 5 = .ptr 1 0 0 → hp 0 = some [[AV.v (Value.bool n.leaf), AV.rs kn ksz (n.keys.map keyC) kc, AV.rs in' isz (n.items.map Itm.cells) ic, AV.rs dn dsz (n.kids.map kidC) dc]] → ¬ TXb hp 1 0 → TX hp nx 1 (headB n) →
      W (Ret E) c16_rrrrrr (pureQ [.t 2, .t 3, .t 4] (encA (encS n))) ⟨tm, hp, nx⟩ := by
    intro tm hp nx t1 t5 hN hB hT
    simp [c16, c16_rrrrrr, t1, t5, hN]
    refine W_loopI (I := fun (j : Nat) s => j ≤ n.keys.length ∧ s.tm 38 = .int .i64 j ∧ s.tm 37 = .int .i64 n.keys.length ∧ s.tm 36 = AV.rs kn ksz (n.keys.map keyC) kc ∧ s.tm 1 = .ptr 0 0 0 ∧ s.tm 5 = .ptr 1 0 0 ∧ 0 < s.nx ∧
        s.hp 0 = some [[AV.v (Value.bool n.leaf), AV.rs kn ksz (n.keys.map keyC) kc, AV.rs in' isz (n.items.map Itm.cells) ic, AV.rs dn dsz (n.kids.map kidC) dc]] ∧ ¬ TXb s.hp 1 0 ∧ TX s.hp s.nx 1 (headB n ++ (List.range j).flatMap (entryB n)))
        (fun j => n.keys.length - j) 0 (by simp [t1, t5, hN, hB, hT]; have := hT.1; omega) ?_
    rintro j tm hp nx ⟨hj, t38, t37, t36, t1, t5, hnx, hN, hB, hT⟩
    simp only at t38 t37 t36 t1 t5 hnx hN hB hT
    by_cases hlt : j < n.keys.length
    · have hs := sumW_le hf j hj
      have hwl := weightS_le hf hlt
      have hhl : (headB n).length ≤ 6 := by rw [headB_length]; split <;> omega
      have hget : n.keys[j]? = some n.keys[j] := List.getElem?_eq_getElem hlt
      have hgd : n.keys.getD j [] = n.keys[j] := by simp [hget]
      have hia : iaddrA 1 (.rs kn ksz (n.keys.map keyC) kc) (.v (.int .i64 j)) = some (.rp (keyC n.keys[j])) := iaddr_in hkz (by simp [hget]) rfl
      have hw : IntKind.wrap .i64 ((j : Int) + 1) = (j + 1 : Nat) := by rw [wrap_id] <;> omega
      have hkl := hf.klen j hlt
      obtain ⟨hp1, nx1, r1, r2, r3⟩ := f39 _ _ 1 _ n.keys[j] (by rw [List.length_append, sumW_length]; omega) (by omega) hT
      have k1 := r3.keep 0 hnx hB
      have hN1 := k1.1.trans hN
      have hnx1 : 0 < nx1 := by have := r3.le; omega
      simp [t38, t37, t36, t1, t5, hlt, -iaddrA_rs, hia, keyC]
      refine WCall_k r1 ?_
      cases hlf : n.leaf
      · obtain ⟨g1, g2, g3, g4⟩ := hf.inner hlf
        have hjk : j + 1 < n.kids.length := by omega
        have hib : iaddrA 1 (.rs dn dsz (n.kids.map kidC) dc) (.v (.int .i64 (j + 1 : Nat))) = some (.rp (kidC n.kids[j + 1])) := iaddr_in hdz (by simp [hjk]) rfl
        obtain ⟨k, hk, _, _⟩ := kidS_nat (g4 _ (List.getElem_mem hjk))
        have he : entryB n j = numS n.keys[j].length 1 ++ n.keys[j] ++ numS k 4 := by
          have : n.kids.getD (j + 1) 0 = k := by simp [hjk, hk]
          simp only [entryB, hgd, hlf, this]; simp
        obtain ⟨hp2, nx2, u1, u2, u3⟩ := f38 k 4 (by omega) (by omega) _ _ 1 _ (by rw [List.length_append, List.length_append, List.length_append, sumW_length, numS_length]; omega) r2
        have k2 := u3.keep 0 hnx1 k1.2
        have hN2 := k2.1.trans hN1
        have hnx2 : 0 < nx2 := by have := u3.le; omega
        rw [hlf] at hN1 hN2
        simp [t38, t37, t36, t1, t5, hN1, -iaddrA_rs, hib, kidC, hk, hw, -Int.natCast_add]
        refine WCall_k u1 ?_
        simp [t38, t37, t36, t1, t5, hN2, hw, -Int.natCast_add]
        refine ⟨j + 1, by omega, by omega, by simp, hnx2, k2.2, ?_⟩
        rw [List.range_succ, List.flatMap_append]
        simpa [he] using u2
      · obtain ⟨g1, g2, g3⟩ := hf.leaf hlf
        have hi2 : j < n.items.length := by omega
        have hg : n.items.getD j ⟨[], 0, 0⟩ = n.items[j] := by simp [hi2]
        have hib : iaddrA 3 (.rs in' isz (n.items.map Itm.cells) ic) (.v (.int .i64 j)) = some (.rp n.items[j].cells) := iaddr_in hiz (by simp [hi2]) rfl
        have he : entryB n j = numS n.keys[j].length 1 ++ n.keys[j] ++ itemB n.items[j] := by
          simp only [entryB, hgd, hlf, hg]; simp
        obtain ⟨hp2, nx2, u1, u2, u3⟩ := f40 _ _ 1 _ n.items[j] (g3 _ (List.getElem_mem hi2)) (by rw [List.length_append, List.length_append, List.length_append, sumW_length, numS_length]; omega) r2
        have k2 := u3.keep 0 hnx1 k1.2
        have hN2 := k2.1.trans hN1
        have hnx2 : 0 < nx2 := by have := u3.le; omega
        rw [hlf] at hN1 hN2
        simp [t38, t37, t36, t1, t5, hN1, -iaddrA_rs, hib, hw, -Int.natCast_add]
        refine ⟨by simp [Itm.cells], ?_⟩
        simp only [Itm.cells] at u1 ⊢
        simp
        refine WCall_k u1 ?_
        simp [t38, t37, t36, t1, t5, hN2, hw, -Int.natCast_add]
        refine ⟨j + 1, by omega, by omega, by simp, hnx2, k2.2, ?_⟩
        rw [List.range_succ, List.flatMap_append]
        simpa [he] using u2
    · have : j = n.keys.length := by omega
      subst this
      have hne : contentS n ≠ [] := by
        intro h; have := congrArg List.length h
        rw [contentS_length, headB_length] at this
        simp at this; split at this <;> omega
      rw [show headB n ++ (List.range n.keys.length).flatMap (entryB n) = contentS n from rfl] at hT
      obtain ⟨b, g1, g2⟩ := hT.read hne
      cases hlf : n.leaf
      · rw [hlf] at hN
        simp [t38, t37, t1, t5, hN, g1, g2]
        simp [encA, encS, hr, hl, frz_closed, hlf]
      · rw [hlf] at hN
        simp [t38, t37, t1, t5, hN, g1, g2]
        simp [encA, encS, hr, hl, frz_closed, hlf]
  cases hlf : n.leaf
  · obtain ⟨g1, g2, g3, g4⟩ := hf.inner hlf
    have h0 : 0 < n.kids.length := by omega
    have hib : iaddrA 1 (.rs dn dsz (n.kids.map kidC) dc) (.v (.int .i64 0)) = some (.rp (kidC n.kids[0])) := iaddr_in (j := 0) hdz (by simp [h0]) rfl
    obtain ⟨k, hk, _, _⟩ := kidS_nat (g4 _ (List.getElem_mem h0))
    have hh : headB n = numS n.keys.length 2 ++ numS k 4 := by
      have : n.kids.getD 0 0 = k := by simp [h0, hk]
      simp only [headB, hlf, this]; simp
    obtain ⟨hp2, nx2, u1, u2, u3⟩ := f38 k 4 (by omega) (by omega) _ _ 1 _ (by rw [numS_length]; omega) r2
    have k2 := u3.keep 0 (by have := r3.le; omega) k1.2
    have hN2 := k2.1.trans hN1
    have hN1' := hN1
    rw [hlf] at hN1'
    simp [hN1', hib, -iaddrA_rs, kidC, hk]
    refine WCall_k u1 ?_
    simp
    exact tail _ hp2 nx2 (by simp) (by simp) hN2 k2.2 (by rw [hh]; exact u2)
  · have hh : headB n = numS n.keys.length 2 := by simp [headB, hlf]
    have hN1' := hN1
    rw [hlf] at hN1'
    simp [hN1']
    exact tail _ hp1 nx1 (by simp) (by simp) hN1 k1.2 (by rw [hh]; exact r2)
end Go.Ai
