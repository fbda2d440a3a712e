/- Functions that defer calls, as a program; and from one environment to a greater one. -/
import Derived.Test.YtooomkpingiojaaGreatAiDfr
import Derived.Test.YtooomkpingiojaaGreatAiX
namespace Go.Ai
set_option linter.unusedVariables false
set_option linter.unusedSimpArgs false

theorem RetN_env {E E' : Env} (hf : E.fn = E'.fn) (hp : ∀ f a h n v h' n' k, E.prim f a h n v h' n' k → E'.prim f a h n v h' n' k) : ∀ n f a h x v h' x' k, RetN E n f a h x v h' x' k → RetN E' n f a h x v h' x' k
  | 0, _, _, _, _, _, _, _, _, h => h.elim
  | n + 1, f, a, h0, x, v, h', x', k, h => by
    have ih := RetN_env hf hp n
    simp only [RetN] at *
    rcases h with h | ⟨cf, h1, h2, h3⟩ | ⟨h1, h2, h3, h4, args0, h5, h6⟩ | ⟨h1, args0, L, k', h2, h3⟩
    · exact .inl (hp _ _ _ _ _ _ _ _ h)
    rotate_left
    · exact .inr (.inr (.inl ⟨h1, h2, h3, h4, args0, h5, ih _ _ _ _ _ _ _ _ h6⟩))
    · exact .inr (.inr (.inr ⟨h1, args0, L, k', h2, ih _ _ _ _ _ _ _ _ h3⟩))
    · refine .inr (.inl ⟨cf, by rw [← hf]; exact h1, h2, ?_⟩)
      rcases h3 with ⟨hk, h4, h5, h6, h7⟩ | ⟨hk, h4⟩
      · exact .inl ⟨hk, h4, h5, h6, W_mono ih _ _ _ _ (fun _ _ h => h) h7⟩
      · exact .inr ⟨hk, W_mono ih _ _ _ _ (fun _ _ h => h) h4⟩
theorem Ret_env {E E' : Env} (hf : E.fn = E'.fn) (hp : ∀ f a h n v h' n' k, E.prim f a h n v h' n' k → E'.prim f a h n v h' n' k) {f a h x v h' x' k} (h0 : Ret E f a h x v h' x' k) : Ret E' f a h x v h' x' k :=
  let ⟨n, h0⟩ := h0; ⟨n, RetN_env hf hp n _ _ _ _ _ _ _ _ h0⟩

def xD (C : XC) (X : CCode → XS → Option (CExit × XS)) : DCode → XS → DCs → Option (CExit × XS × DCs)
  | .leaf c, s, ds => match X c s with
    | some (e, s') => some (e, s', ds)
    | none => none
  | .seq a b, s, ds => match xD C X a s ds with
    | some (.normal, s', ds') => xD C X b s' ds'
    | r => r
  | .cond c a b, s, ds => match ev (xtm s.tm) c with
    | .v (.bool true) => xD C X a s ds
    | .v (.bool false) => xD C X b s ds
    | _ => none
  | .block id a, s, ds => match xD C X a s ds with
    | some (.exit i, s', ds') => bif Nat.beq i id then some (.normal, s', ds') else some (.exit i, s', ds')
    | r => r
  | .dfr pre d g args post, s, ds => match xOps C pre s with
    | some s1 => match ev (xtm s1.tm) g with
      | .fn (.func f) first cap => match xOps C post (xput s1 d (.v undef) s1.hp s1.nx) with
        | some s2 => some (.normal, s2, (f, first ++ args.map (ev (xtm s1.tm)) ++ cap) :: ds)
        | none => none
      | _ => none
    | none => none
def XOkC (R : CallRel) (X : CCode → XS → Option (CExit × XS)) : Prop := ∀ c s e s', X c s = some (e, s') → ∀ Q : CExit → St → Prop, Q e s'.st → W R c Q s.st
theorem xD_ok {R : CallRel} {C : XC} {X : CCode → XS → Option (CExit × XS)} (hC : XOk R C) (hX : XOkC R X) : ∀ (dc : DCode) (s : XS) (ds : DCs) (e : CExit) (s' : XS) (ds' : DCs), xD C X dc s ds = some (e, s', ds') → ∀ Q : CExit → St → DCs → Prop, Q e s'.st ds' → WD R dc Q s.st ds
  | .leaf c, s, ds, e, s', ds', h, Q, hQ => by
    simp only [xD] at h
    split at h
    · rename_i e1 s1 hx
      simp only [Option.some.injEq, Prod.mk.injEq] at h
      obtain ⟨rfl, rfl, rfl⟩ := h
      exact hX _ _ _ _ hx (fun e s' => Q e s' ds) hQ
    · cases h
  | .seq a b, s, ds, e, s', ds', h, Q, hQ => by
    simp only [xD] at h
    cases ha : xD C X a s ds with
    | none => rw [ha] at h; cases h
    | some p =>
      obtain ⟨e1, s1, ds1⟩ := p
      rw [ha] at h
      refine xD_ok hC hX a s ds e1 s1 ds1 ha _ ?_
      cases e1 with
      | normal => exact xD_ok hC hX b s1 ds1 e s' ds' h Q hQ
      | exit i => cases h; exact hQ
      | ret => cases h; exact hQ
  | .cond c a b, s, ds, e, s', ds', h, Q, hQ => by
    simp only [xD] at h
    show (match ev (xtm s.tm) c with
      | .v (.bool t) => if t then WD R a Q s.st ds else WD R b Q s.st ds
      | _ => False)
    split at h
    · rename_i hc; rw [hc]; exact xD_ok hC hX a s ds e s' ds' h Q hQ
    · rename_i hc; rw [hc]; exact xD_ok hC hX b s ds e s' ds' h Q hQ
    · cases h
  | .block id a, s, ds, e, s', ds', h, Q, hQ => by
    simp only [xD] at h
    cases ha : xD C X a s ds with
    | none => rw [ha] at h; cases h
    | some p =>
      obtain ⟨e1, s1, ds1⟩ := p
      rw [ha] at h
      refine xD_ok hC hX a s ds e1 s1 ds1 ha _ ?_
      cases e1 with
      | normal => cases h; exact hQ
      | exit i =>
        simp only [beq_ite] at h
        by_cases hi : i = id
        · simp only [if_pos hi] at h ⊢; cases h; exact hQ
        · simp only [if_neg hi] at h ⊢; cases h; exact hQ
      | ret => cases h; exact hQ
  | .dfr pre d g args post, s, ds, e, s', ds', h, Q, hQ => by
    simp only [xD] at h
    split at h
    · rename_i s1 h1
      split at h
      · rename_i f first cap hg
        split at h
        · rename_i s2 h2
          simp only [Option.some.injEq, Prod.mk.injEq] at h
          obtain ⟨rfl, rfl, rfl⟩ := h
          refine xOps_ok hC pre s s1 h1 _ ?_
          show (match ev (xtm s1.tm) g with
            | .fn (.func f) first cap => WOps R post (s1.st.put d (.v undef) s1.hp.get s1.nx) fun s2 => Q .normal s2 ((f, first ++ args.map (ev (xtm s1.tm)) ++ cap) :: ds)
            | _ => False)
          rw [hg]
          simp only
          rw [← xput_st]
          exact xOps_ok hC post _ s2 h2 _ hQ
        · cases h
      · cases h
    · cases h

def xEnd (fn : Nat → Option CFunc) (X : CCode → XS → Option (CExit × XS)) : DCs → XS → Option XS
  | [], s => some s
  | (f, args) :: ds, s => match fn f with
    | some cf => bif Nat.beq args.length cf.np then
        match X cf.body (xinit args s.hp s.nx) with
        | some (e, s3) => bif ended e then
            match resA cf.res s3.st with
            | some _ => xEnd fn X ds ⟨s.tm, s3.hp, s3.nx⟩
            | none => none
          else none
        | none => none
      else none
    | none => none
theorem xEnd_ok {E : Env} {X : CCode → XS → Option (CExit × XS)} (hX : XOkC (Ret E) X) : ∀ (ds : DCs) (s s' : XS), xEnd E.fn X ds s = some s' → ∀ Q : St → Prop, Q s'.st → DEnd E ds s.st Q
  | [], s, s', h, Q, hQ => by simp only [xEnd, Option.some.injEq] at h; subst h; exact hQ
  | (f, args) :: ds, s, s', h, Q, hQ => by
    simp only [xEnd] at h
    split at h
    · rename_i cf hcf
      rw [cond_eq_ite] at h
      split at h
      · rename_i hn
        split at h
        · rename_i e s3 hx
          rw [cond_eq_ite] at h
          split at h
          · rename_i he
            split at h
            · rename_i v hv
              refine ⟨cf, hcf, by simpa using hn, ?_⟩
              have := hX _ _ _ _ hx (fun e s3 => Ended e ∧ (∃ v', resA cf.res s3 = some v') ∧ DEnd E ds ⟨s.st.tm, s3.hp, s3.nx⟩ Q) ⟨ended_ok he, ⟨v, hv⟩, xEnd_ok hX ds _ s' h Q hQ⟩
              rw [xinit_st] at this
              exact this
            · cases h
          · cases h
        · cases h
      · cases h
    · cases h

def xDfr (fn : Nat → Option CFunc) (dfn : Nat → Option DFunc) (C : XC) (X : CCode → XS → Option (CExit × XS)) (f : Nat) (args : List AV) (H : Tr Blk) (nx : Nat) : Option (AV × Tr Blk × Nat) :=
  match dfn f with
  | none => none
  | some df => bif Nat.beq args.length df.np then
      match xD C X df.body (xinit args H nx) [] with
      | some (e, s, ds) => bif ended e then
          match xEnd fn X ds s with
          | some s' => match resA df.res s'.st with
            | some v => some (v, s'.hp, s'.nx)
            | none => none
          | none => none
        else none
      | none => none
    else none
theorem xDfr_ok {E : Env} {dfn : Nat → Option DFunc} {C : XC} {X : CCode → XS → Option (CExit × XS)} (hC : XOk (Ret E) C) (hX : XOkC (Ret E) X) {f args H nx v H' nx'} (h : xDfr E.fn dfn C X f args H nx = some (v, H', nx')) : DfrRel E dfn f args H.get nx v H'.get nx' .e := by
  unfold xDfr at h
  split at h
  · cases h
  · rename_i df hdf
    rw [cond_eq_ite] at h
    split at h
    · rename_i hn
      split at h
      · rename_i e s ds hx
        rw [cond_eq_ite] at h
        split at h
        · rename_i he
          split at h
          · rename_i s' hend
            split at h
            · rename_i v1 hv
              simp only [Option.some.injEq, Prod.mk.injEq] at h
              obtain ⟨rfl, rfl, rfl⟩ := h
              refine ⟨rfl, df, hdf, by simpa using hn, ?_⟩
              have := xD_ok hC hX df.body _ [] e s ds hx (fun e s ds => Ended e ∧ DEnd E ds s fun s2 => resA df.res s2 = some v1 ∧ Sub s'.hp.get s2.hp ∧ s'.nx = s2.nx) ⟨ended_ok he, xEnd_ok hX ds s s' hend _ ⟨hv, fun r => .inl rfl, rfl⟩⟩
              rw [xinit_st] at this
              exact this
            · cases h
          · cases h
        · cases h
      · cases h
    · cases h

/-- A greater environment's contracts: the smaller one's, and functions that defer calls, run in the smaller one. -/
noncomputable def xe2 (fn : Nat → Option CFunc) (dfn : Nat → Option DFunc) (xp : Nat → List AV → Option AV) (xe : Nat → List AV → Tr Blk → Nat → Option (AV × Tr Blk × Nat)) (own : Nat → Bool) (n : Nat) (f : Nat) (args : List AV) (H : Tr Blk) (nx : Nat) : Option (AV × Tr Blk × Nat) :=
  match xDfr fn dfn (xCall fn xp xe own (X fn xp xe own n)) (X fn xp xe own n) f args H nx with
  | some r => some r
  | none => xe f args H nx
theorem xe2_ok {E E' : Env} {dfn : Nat → Option DFunc} {xp : Nat → List AV → Option AV} {xe : Nat → List AV → Tr Blk → Nat → Option (AV × Tr Blk × Nat)} {own : Nat → Bool} {n : Nat} (hf : E.fn = E'.fn) (hp : ∀ f a h n v h' n' k, E.prim f a h n v h' n' k → E'.prim f a h n v h' n' k) (hd : ∀ f a h n v h' n' k, DfrRel E dfn f a h n v h' n' k → E'.prim f a h n v h' n' k)
    (hxp : ∀ f args v, xp f args = some v → ∀ hp nx, Ret E f args hp nx v hp nx .p) (hxe : ∀ f args H nx v H' nx', xe f args H nx = some (v, H', nx') → Ret E f args H.get nx v H'.get nx' .e) :
    ∀ f args H nx v H' nx', xe2 E.fn dfn xp xe own n f args H nx = some (v, H', nx') → Ret E' f args H.get nx v H'.get nx' .e := by
  intro f args H nx v H' nx' h
  unfold xe2 at h
  have hX : XOkC (Ret E) (X E.fn xp xe own n) := fun c s e s' h Q hQ => X_ok hxp hxe n c s e s' h Q hQ
  split at h
  · rename_i r hr
    simp only [Option.some.injEq] at h
    subst h
    exact Ret_prim (hd _ _ _ _ _ _ _ _ (xDfr_ok (xCall_ok hxp hxe hX) hX hr))
  · exact Ret_env hf hp (hxe _ _ _ _ _ _ _ h)
end Go.Ai
