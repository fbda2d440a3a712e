/- NodeJudges and NodeEncodes, walked. -/
import Derived.Test.YtbdmloamekpeoaaM
namespace Go.Ai
set_option linter.unusedVariables false
set_option linter.unusedSimpArgs false

theorem f3 (n : Nd) (x : AV) (hx : NdA n x) (hp nx) : Ret E 3 [x] hp nx (.v (.bool true)) hp nx .p := by
  obtain ⟨b, hb, e10'⟩ := f10 n x hx
  have h12 := fun (h : smallN n) => f12 n x hx (by have := h.1; omega) (by have := h.2.1; omega) (by have := h.2.2; omega)
  have h13 := fun (h : smallN n) => f13 n x hx (by have := h.1; omega) (by have := h.2.1; omega) (by have := h.2.2; omega)
  have h14 := fun (h : smallN n) => f14 n x hx (by have := h.1; omega) (by have := h.2.1; omega) (by have := h.2.2; omega)
  have h15 := fun (h : smallN n) => f15 n x hx (by have := h.1; omega) (by have := h.2.1; omega) (by have := h.2.2; omega)
  obtain ⟨kA, iA, dA, rfl, hk, hi, hd⟩ := hx
  obtain ⟨kn, ksz, kc, rfl⟩ := hk.shape
  obtain ⟨in', isz, ic, rfl⟩ := hi.shape
  obtain ⟨dn, dsz, dc, rfl⟩ := hd.shape
  refine Ret_pureQ e3 rfl (by simp) ?_ hp nx
  simp [c3]
  refine WCall_p (e10' _ _) ?_
  cases b
  · simp
    refine WCall_p (f11 _ _) ?_
    simp
  · have hs := hb rfl
    simp
    refine WCall_p (h12 hs _ _) ?_
    simp
    refine WCall_p (h13 hs _ _) ?_
    simp
    refine WCall_p (h14 hs _ _) ?_
    simp
    refine WCall_p (h15 hs _ _) ?_
    simp
    refine WCall_p (f11 _ _) ?_
    simp

theorem f4 (n : Nd) (x : AV) (hx : NdA n x) (hp nx) : Ret E 4 [x] hp nx (.v (.bool true)) hp nx .p := by
  obtain ⟨b, hb, e10'⟩ := f10 n x hx
  have h16 := fun (h : smallN n) => f16 n x hx (by have := h.1; omega) (by have := h.2.1; omega) (by have := h.2.2; omega)
  have h17 := fun (h : smallN n) => f17 n x hx (by have := h.1; omega) (by have := h.2.1; omega) (by have := h.2.2; omega)
  obtain ⟨kA, iA, dA, rfl, hk, hi, hd⟩ := hx
  obtain ⟨kn, ksz, kc, rfl⟩ := hk.shape
  obtain ⟨in', isz, ic, rfl⟩ := hi.shape
  obtain ⟨dn, dsz, dc, rfl⟩ := hd.shape
  refine Ret_pureQ e4 rfl (by simp) ?_ hp nx
  simp [c4]
  refine WCall_p (e10' _ _) ?_
  cases b
  · simp
    refine WCall_p (f11 _ _) ?_
    simp
  · have hs := hb rfl
    simp
    refine WCall_p (h16 hs _ _) ?_
    simp [encA]
    refine WCall_p (h17 hs _ _) ?_
    simp [encA]
    refine WCall_p (f18 _ _ _) ?_
    simp
    refine WCall_p (f11 _ _) ?_
    simp
end Go.Ai
