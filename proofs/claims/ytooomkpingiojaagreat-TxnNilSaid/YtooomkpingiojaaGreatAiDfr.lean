/- Functions that defer calls: what they come to, if nothing panics. -/
import Derived.Test.YtooomkpingiojaaGreatAiDraw
import Derived.Defers
namespace Go.Ai
set_option linter.unusedVariables false
set_option linter.unusedSimpArgs false

/-- Code that defers calls. -/
inductive DCode where
  | leaf (c : CCode)
  | seq (a b : DCode)
  | cond (c : Opd) (a b : DCode)
  | block (id : Nat) (a : DCode)
  | dfr (pre : List COper) (d : Option Nat) (g : Opd) (args : List Opd) (post : List COper)

structure DFunc where
  np : Nat
  body : DCode
  res : List RV

/-- A region's operations, up to the one that defers a call. -/
def splitD : List Oper → Option (List Oper × Oper × List Oper)
  | [] => none
  | o :: r => match o.op with
    | .defer _ => some ([], o, r)
    | _ => match splitD r with
      | some (pre, x, post) => some (o :: pre, x, post)
      | none => none
theorem splitD_spec : ∀ {l pre post : List Oper} {x : Oper}, splitD l = some (pre, x, post) → l = pre ++ x :: post
  | [], pre, post, x, h => by cases h
  | o :: r, pre, post, x, h => by
    unfold splitD at h
    split at h
    · simp only [Option.some.injEq, Prod.mk.injEq] at h
      obtain ⟨rfl, rfl, rfl⟩ := h
      rfl
    · split at h
      · rename_i p' x' q' h'
        simp only [Option.some.injEq, Prod.mk.injEq] at h
        obtain ⟨rfl, rfl, rfl⟩ := h
        rw [splitD_spec h']; rfl
      · cases h

def compD (P : Program) (nt : Nat) (ow : Owns) (code : Code) : Option DCode :=
  match compCode P nt ow code with
  | some c => some (.leaf c)
  | none => match code with
    | .seq a b => match compD P nt ow a, compD P nt ow b with
      | some x, some y => some (.seq x y)
      | _, _ => none
    | .cond c a b => match compD P nt ow a, compD P nt ow b with
      | some x, some y => some (.cond (cO c) x y)
      | _, _ => none
    | .block id a => (compD P nt ow a).map (.block id)
    | .region id ops false => match splitD ops.toList with
      | some (pre, x, post) => match x.op, x.guard with
        | .defer ⟨.value g, args, _⟩, none => match compOpers P nt (fun i => ow.contains (id, i)) ops pre 0, compOpers P nt (fun i => ow.contains (id, i)) ops post (pre.length + 1) with
          | some cp, some cq => if x.dst.all (· < nt) then some (.dfr cp x.dst (cO g) (args.toList.map cO) cq) else none
          | _, _ => none
        | _, _ => none
      | none => none
    | _ => none

def compDF (P : Program) (ow : Owns) (f : Nat) : Option DFunc :=
  match P.funcs[f]? with
  | some fn => match fn.body with
    | some c => match compD P fn.ntmps ow c, compRes P fn.results.toList with
      | some b, some rs => if fn.params.size + fn.nfree ≤ fn.ntmps then some ⟨fn.params.size + fn.nfree, b, rs⟩ else none
      | _, _ => none
    | none => none
  | none => none

/-- Calls that are deferred: functions, with all that they are given. -/
abbrev DCs := List (Nat × List AV)

def WD (R : CallRel) : DCode → (CExit → St → DCs → Prop) → St → DCs → Prop
  | .leaf c, Q, s, ds => W R c (fun e s' => Q e s' ds) s
  | .seq a b, Q, s, ds => WD R a (fun e s' ds' => match e with
    | .normal => WD R b Q s' ds'
    | e => Q e s' ds') s ds
  | .cond c a b, Q, s, ds => match ev s.tm c with
    | .v (.bool t) => if t then WD R a Q s ds else WD R b Q s ds
    | _ => False
  | .block id a, Q, s, ds => WD R a (fun e s' ds' => match e with
    | .exit i => if i = id then Q .normal s' ds' else Q (.exit i) s' ds'
    | e => Q e s' ds') s ds
  | .dfr pre d g args post, Q, s, ds => WOps R pre s fun s1 => match ev s1.tm g with
    | .fn (.func f) first cap => WOps R post (s1.put d (.v undef) s1.hp s1.nx) fun s2 => Q .normal s2 ((f, first ++ args.map (ev s1.tm) ++ cap) :: ds)
    | _ => False

/-- Deferred calls are run. -/
def DEnd (E : Env) : DCs → St → (St → Prop) → Prop
  | [], s, Q => Q s
  | (f, args) :: ds, s, Q => ∃ cf, E.fn f = some cf ∧ args.length = cf.np ∧ W (Ret E) cf.body (fun e s3 => Ended e ∧ (∃ v', resA cf.res s3 = some v') ∧ DEnd E ds ⟨s.tm, s3.hp, s3.nx⟩ Q) (init args s.hp s.nx)

/-- Functions that defer calls. -/
def DfrRel (E : Env) (dfn : Nat → Option DFunc) : CallRel := fun f args hp nx v hp' nx' k =>
  k = .e ∧ ∃ df, dfn f = some df ∧ args.length = df.np ∧ WD (Ret E) df.body (fun e s ds => Ended e ∧ DEnd E ds s fun s' => resA df.res s' = some v ∧ Sub hp' s'.hp ∧ nx' = s'.nx) (init args hp nx) []

def DRel (P : Program) (c : Cx) (ds : DCs) (cds : List Deferred) : Prop := ds.length = cds.length ∧ ∀ (i : Nat) (d : Nat × List AV) (cd : Deferred), ds[i]? = some d → cds[i]? = some cd →
  ∃ fv cap cargs, cd.target = .fn fv cap ∧ (∀ w, (invoke cd.target cd.args).run P w = (callFunc d.1 cargs).run P w) ∧ LRel c d.2 cargs.toList
theorem LRel.mono' {c c' : Cx} {x : List AV} {y : List Value} (h : LRel c x y) (mv : ∀ x u, VRel c x u → VRel c' x u) : LRel c' x y := ⟨h.1, fun k av u h1 h2 => mv _ _ (h.2 k av u h1 h2)⟩
theorem DRel.move {P : Program} {c c' : Cx} {ds : DCs} {cds : List Deferred} (h : DRel P c ds cds) (mv : ∀ x u, VRel c x u → VRel c' x u) : DRel P c' ds cds :=
  ⟨h.1, fun i d cd h1 h2 => let ⟨fv, cap, cargs, h3, h4, h5⟩ := h.2 i d cd h1 h2; ⟨fv, cap, cargs, h3, h4, h5.mono' mv⟩⟩

/-- What may come of a context, its deferred calls aside. -/
def ExtD (c c' : Cx) : Prop := Ext (c.df []) (c'.df [])
theorem Ext.d {c c' : Cx} (h : Ext c c') : ExtD c c' := h.df []
theorem ExtD.trans {a b c : Cx} (h : ExtD a b) (k : ExtD b c) : ExtD a c := Ext.trans h k
theorem ExtD.mv {c c' : Cx} (h : ExtD c c') {x : AV} {u : Value} (hv : VRel c x u) : VRel c' x u := ((hv.df []).mono h).df c'.F.G

theorem SR.df' {c : Cx} {s : St} {nt : Nat} {a : Act} (h : SR c s nt a) (D : List Deferred) : SR (c.df D) s nt { a with defers := D } :=
  ⟨fun t => (h.tm t).df D, h.sz, rfl, h.hp, h.rel.df D⟩

theorem WOps_sound_app {P : Program} {R : CallRel} (hR : RelSound P R) {ops : Array Oper} {nt : Nat} {own : Nat → Bool} (tail : List Oper) : ∀ (l : List Oper) (i : Nat) {cl : List COper} {c : Cx} {s : St} {a : Act} {Q : St → Prop} {Q' : Exit → Act → World → Prop},
    compOpers P nt own ops l i = some cl → SR c s nt a → WOps R cl s Q → (∀ s' c' a', Q s' → SR c' s' nt a' → Ext c c' → wpList P ops Q' tail a' c'.w) → wpList P ops Q' (l ++ tail) a c.w
  | [], i, cl, c, s, a, Q, Q', hc, hs, h, hQ => by
    simp only [compOpers, Option.some.injEq] at hc; subst hc
    exact hQ s c a h hs (Ext.refl c)
  | o :: r, i, cl, c, s, a, Q, Q', hc, hs, h, hQ => by
    simp only [compOpers] at hc
    split at hc
    · rename_i co l ho hl
      simp only [Option.some.injEq] at hc; subst hc
      unfold compOper at ho
      split at ho
      · rename_i cop g hcop hg
        split at ho
        · rename_i hd
          simp only [Option.some.injEq] at ho; subst ho
          rw [List.cons_append]
          unfold wpList
          unfold WOps at h
          split at h
          · rename_i hw
            rw [if_pos (wanted_run hg hw hs.tm)]
            refine .inl (WOp_sound hR hcop hs hd h ?_)
            intro v hp' nx' k c' u hk _ he hh hr hv
            exact WOps_sound_app hR tail r (i + 1) hl (hs.put hd he hh hr hv) hk (fun s' c'' a' q hs' he' => hQ s' c'' a' q hs' (he.trans he'))
          · rename_i hw
            have := wanted_run hg hw hs.tm
            rw [if_neg (by rw [this]; simp)]
            exact WOps_sound_app hR tail r (i + 1) hl (hs.put hd (Ext.refl c) hs.hp hs.rel (.v undef)) h (fun s' c'' a' q hs' he' => hQ s' c'' a' q hs' he')
          · exact h.elim
        · simp at ho
      · simp at ho
    · simp at hc

theorem WD_sound {P : Program} {R : CallRel} (hR : RelSound P R) (hD : DrawSound P R) {nt : Nat} {ow : Owns} : ∀ (code : Code) {dc : DCode} {c : Cx} {s : St} {a : Act} {ds : DCs} {Q : CExit → St → DCs → Prop} {Q' : Exit → Act → World → Prop},
    compD P nt ow code = some dc → SR c s nt a → DRel P c ds c.F.G → WD R dc Q s ds → (∀ e s' c' a' ds', Q e s' ds' → SR c' s' nt a' → ExtD c c' → DRel P c' ds' c'.F.G → Q' (toExit e) a' c'.w) → code.wp P Q' a c.w := by
  intro code
  have leaf : ∀ {code : Code} {cc : CCode} {c : Cx} {s : St} {a : Act} {ds : DCs} {Q : CExit → St → DCs → Prop} {Q' : Exit → Act → World → Prop}, compCode P nt ow code = some cc → SR c s nt a → DRel P c ds c.F.G → W R cc (fun e s' => Q e s' ds) s →
      (∀ e s' c' a' ds', Q e s' ds' → SR c' s' nt a' → ExtD c c' → DRel P c' ds' c'.F.G → Q' (toExit e) a' c'.w) → code.wp P Q' a c.w := by
    intro code cc c s a ds Q Q' hc hs hd h hQ
    refine W_sound hR hD code hc hs h fun e s' c' a' q hs' he => hQ e s' c' a' ds q hs' he.d ?_
    rw [he.F]
    exact hd.move fun x u hv => hv.mono he
  induction code with
  | seq x y ihx ihy =>
    intro dc c s a ds Q Q' hc hs hd h hQ
    cases hcc : compCode P nt ow (.seq x y) with
    | some cc =>
      simp only [compD, hcc, Option.some.injEq] at hc; subst hc
      exact leaf hcc hs hd h hQ
    | none =>
      simp only [compD, hcc] at hc
      split at hc
      · rename_i dx dy hx hy
        simp only [Option.some.injEq] at hc; subst hc
        refine wp_seq (ihx hx hs hd h ?_)
        intro e s' c' a' ds' q hs' he hd'
        cases e with
        | normal => exact ihy hy hs' hd' q (fun e s'' c'' a'' ds'' q hs'' he' hd'' => hQ e s'' c'' a'' ds'' q hs'' (he.trans he') hd'')
        | exit i => exact hQ (.exit i) s' c' a' ds' q hs' he hd'
        | ret => exact hQ .ret s' c' a' ds' q hs' he hd'
      · cases hc
  | cond x y z ihy ihz =>
    intro dc c s a ds Q Q' hc hs hd h hQ
    cases hcc : compCode P nt ow (.cond x y z) with
    | some cc =>
      simp only [compD, hcc, Option.some.injEq] at hc; subst hc
      exact leaf hcc hs hd h hQ
    | none =>
      simp only [compD, hcc] at hc
      split at hc
      · rename_i dy dz hy hz
        simp only [Option.some.injEq] at hc; subst hc
        unfold WD at h
        split at h
        · rename_i b hb
          have hx := cO_rel hs.tm x
          rw [hb] at hx
          refine wp_cond (t := b) hx.v_inv ?_
          cases b with
          | true => exact ihy hy hs hd h hQ
          | false => exact ihz hz hs hd h hQ
        · exact h.elim
      · cases hc
  | block id x ih =>
    intro dc c s a ds Q Q' hc hs hd h hQ
    cases hcc : compCode P nt ow (.block id x) with
    | some cc =>
      simp only [compD, hcc, Option.some.injEq] at hc; subst hc
      exact leaf hcc hs hd h hQ
    | none =>
      simp only [compD, hcc] at hc
      simp only [Option.map_eq_some_iff] at hc
      obtain ⟨dx, hx, rfl⟩ := hc
      refine wp_block (ih hx hs hd h ?_)
      intro e s' c' a' ds' q hs' he hd'
      cases e with
      | normal => exact hQ .normal s' c' a' ds' q hs' he hd'
      | exit i =>
        dsimp only at q
        simp only [toExit, Exit.inBlock]
        split at q
        · rename_i hi; rw [if_pos hi]; exact hQ .normal s' c' a' ds' q hs' he hd'
        · rename_i hi; rw [if_neg hi]; exact hQ (.exit i) s' c' a' ds' q hs' he hd'
      | ret => exact hQ .ret s' c' a' ds' q hs' he hd'
  | region id ops draw =>
    intro dc c s a ds Q Q' hc hs hd h hQ
    cases draw with
    | true =>
      cases hcc : compCode P nt ow (.region id ops true) with
      | some cc =>
        simp only [compD, hcc, Option.some.injEq] at hc; subst hc
        exact leaf hcc hs hd h hQ
      | none => simp [compD, hcc] at hc
    | false =>
      cases hcc : compCode P nt ow (.region id ops false) with
      | some cc =>
        simp only [compD, hcc, Option.some.injEq] at hc; subst hc
        exact leaf hcc hs hd h hQ
      | none =>
        simp only [compD, hcc] at hc
        split at hc
        · rename_i pre x post hsp
          split at hc
          · rename_i g args ts hop hgd
            split at hc
            · rename_i cp cq hcp hcq
              split at hc
              · rename_i hdst
                simp only [Option.some.injEq] at hc; subst hc
                refine wp_region_list ?_
                rw [splitD_spec hsp]
                refine WOps_sound_app hR (x :: post) pre 0 hcp hs h ?_
                intro s1 c1 a1 q1 hs1 he1
                split at q1
                · rename_i f first cap hg
                  obtain ⟨dst, op, type, pos, after, guard⟩ := x
                  simp only at hop hgd hdst q1
                  subst hop; subst hgd
                  have hgr := cO_rel hs1.tm g
                  rw [hg] at hgr
                  generalize hgu : a1.eval g = gu at hgr
                  cases hgr with
                  | fn l1 l2 hx hy =>
                    rename_i cx cy
                    unfold wpList
                    rw [if_pos (by simp [Region.wanted])]
                    refine .inl ?_
                    let cd : Deferred := { target := .fn (.func f) cy, args := cx ++ args.map a1.eval }
                    have hrun : (execOp a1.eval ⟨dst, .defer ⟨.value g, args, ts⟩, type, pos, after, none⟩).run P c1.w = .ok (.defer cd) c1.w := by
                      simp only [execOp, resolve, hgu, Deferred.ofValue, Sem.run_bind, Sem.run_pure, Result.andThen_ok]
                      rfl
                    unfold Oper.wp
                    rw [hrun, Oper.upon_defer]
                    let c2 : Cx := c1.df (cd :: c1.F.G)
                    have hs2 : SR c2 (s1.put dst (.v undef) s1.hp s1.nx) nt ({ a1 with defers := cd :: a1.defers }.put dst undef) := by
                      rw [hs1.df]
                      exact (hs1.df' (cd :: c1.F.G)).put hdst (Ext.refl _) hs1.hp (hs1.rel.df _) (.v undef)
                    refine WOps_sound hR post (pre.length + 1) hcq (c := c2) hs2 q1 ?_
                    intro s3 c3 a3 q3 hs3 he3
                    refine hQ .normal s3 c3 a3 _ q3 hs3 (he1.d.trans (show ExtD c1 c3 from Ext.df he3 [])) ?_
                    rw [he3.F]
                    refine ⟨by simp [c2, Cx.df, hd.1, he1.F], fun i d cd' g1 g2 => ?_⟩
                    match i with
                    | 0 =>
                      simp [c2, Cx.df] at g1 g2
                      subst g1; subst g2
                      refine ⟨.func f, cy, cx ++ args.map a1.eval ++ cy, rfl, fun w => by simp only [invoke, cd], ?_⟩
                      show LRel c3 (first ++ (List.map (ev s1.tm ∘ cO) args.toList ++ cap)) (cx ++ args.map a1.eval ++ cy).toList
                      rw [← List.append_assoc]
                      rw [Array.toList_append, Array.toList_append]
                      have q1 : LRel c3 first cx.toList := ⟨by simpa using l1, fun k av u h1 h2 => ((hx k av u h1 (by rw [← getElem?_arr]; exact h2)).df _).mono he3⟩
                      have q2 : LRel c3 cap cy.toList := ⟨by simpa using l2, fun k av u h1 h2 => ((hy k av u h1 (by rw [← getElem?_arr]; exact h2)).df _).mono he3⟩
                      refine LRel.append (LRel.append q1 ?_) q2
                      · refine ⟨by simp, fun k av u h1 h2 => ?_⟩
                        simp only [List.getElem?_map, Option.map_eq_some_iff, Array.toList_map, Function.comp_apply] at h1 h2
                        obtain ⟨y, hy, rfl⟩ := h1
                        obtain ⟨y2, hy2, rfl⟩ := h2
                        rw [hy] at hy2; simp only [Option.some.injEq] at hy2; subst hy2
                        exact ((cO_rel hs1.tm y).df _).mono he3
                    | i + 1 =>
                      simp only [List.getElem?_cons_succ, c2, Cx.df] at g1 g2
                      have hd1 := hd.move (c' := c1) fun x u hv => hv.mono he1
                      rw [← he1.F] at hd1
                      obtain ⟨fv, cap', cargs, k1, k2, k3⟩ := hd1.2 i d cd' g1 g2
                      exact ⟨fv, cap', cargs, k1, k2, k3.mono' fun x u hv => ((hv.df _).mono he3)⟩
                · exact q1.elim
              · cases hc
            · cases hc
          · cases hc
        · cases hc
  | skip =>
    intro dc c s a ds Q Q' hc hs hd h hQ
    cases hcc : compCode P nt ow .skip with
    | some cc =>
      simp only [compD, hcc, Option.some.injEq] at hc; subst hc
      exact leaf hcc hs hd h hQ
    | none =>
      simp only [compD, hcc] at hc
      cases hc
  | _ =>
    intro dc c s a ds Q Q' hc hs hd h hQ
    simp only [compD] at hc
    split at hc
    · rename_i cc hcc
      simp only [Option.some.injEq] at hc; subst hc
      exact leaf hcc hs hd h hQ
    · cases hc

/-- The first frame. -/
theorem init_SR {fn : Func} {args : List AV} {cargs : Array Value} {c1 : Cx} {hp1 : Heap} {nx1 : Nat} (hsz : cargs.size ≤ fn.ntmps) (e0 : c1.F.G = []) (e1 : c1.hp = hp1) (e2 : HRel c1 nx1) (e3 : LRel c1 args cargs.toList) :
    SR c1 (init args hp1 nx1) fn.ntmps { tmps := cargs ++ Array.replicate (fn.ntmps - cargs.size) undef, defers := [] } := by
  refine ⟨?_, ?_, e0.symm, e1, e2⟩
  · intro t
    simp only [init]
    rcases Nat.lt_or_ge t cargs.size with hlt | hge
    · have hl : t < args.length := by have := e3.1; simp at this; omega
      rw [List.getElem?_eq_getElem hl, Option.getD_some]
      have hg : (cargs ++ Array.replicate (fn.ntmps - cargs.size) undef).getD t undef = cargs[t] := by
        rw [Array.getD_eq_getD_getElem?, Array.getElem?_append_left hlt]; simp [hlt]
      rw [hg]
      exact e3.2 t _ _ (List.getElem?_eq_getElem hl) (by simp [hlt])
    · have hl : args.length ≤ t := by have := e3.1; simp at this; omega
      rw [List.getElem?_eq_none hl, Option.getD_none]
      have hg : (cargs ++ Array.replicate (fn.ntmps - cargs.size) undef).getD t undef = undef := by
        rw [Array.getD_eq_getD_getElem?, Array.getElem?_append_right hge]
        rcases Nat.lt_or_ge (t - cargs.size) (fn.ntmps - cargs.size) with h | h
        · simp [h]
        · rw [Array.getElem?_eq_none (by simp; omega)]; rfl
      rw [hg]; exact .v _
  · simp; omega

theorem Ret_rel {P : Program} {E : Env} (hE : EnvOk P E) (hm : P.follows .mixedOrders = true) : RelSound P (Ret E) := by
  have hS := RetN_sound hE fun R hR => drawSound hm hR
  refine ⟨fun f args hp nx v hp' nx' k ⟨n, h⟩ => (hS n).kind _ _ _ _ _ _ _ _ h, fun f args hp nx v hp' nx' ⟨n, h⟩ => ?_, fun f args hp nx v hp' nx' k ⟨n, h⟩ => (hS n).calls _ _ _ _ _ _ _ _ h⟩
  obtain ⟨h1, h2, h3⟩ := (hS n).pure _ _ _ _ _ _ _ h
  exact ⟨h1, h2, fun hp2 nx2 => ⟨n, h3 hp2 nx2⟩⟩

theorem leaves_sound {P : Program} {E : Env} (hE : EnvOk P E) (hm : P.follows .mixedOrders = true) {fn : Func} {tmps : Array Value} {R : Ending → World → Prop} : ∀ (ds : DCs) (cds : List Deferred) (s : St) (c : Cx) {Qf : St → Prop}, DRel P c ds cds →
    (∀ t, VRel c (s.tm t) (tmps.getD t undef)) → c.hp = s.hp → HRel c s.nx → DEnd E ds s Qf →
    (∀ s' c', Qf s' → (∀ t, VRel c' (s'.tm t) (tmps.getD t undef)) → c'.hp = s'.hp → HRel c' s'.nx → ExtD c c' → ∃ v, (results fn tmps).run P c'.w = .ok v c'.w ∧ R (.returned v) c'.w) → Leaves P fn tmps R cds .returning c.w
  | [], cds, s, c, Qf, hd, htm, hhp, hr, h, hQ => by
    have : cds = [] := List.length_eq_zero_iff.1 hd.1.symm
    subst this
    exact hQ s c h htm hhp hr (Ext.refl _)
  | (f, args) :: ds, [], s, c, Qf, hd, htm, hhp, hr, h, hQ => by have := hd.1; simp at this
  | (f, args) :: ds, cd :: cds, s, c, Qf, hd, htm, hhp, hr, h, hQ => by
    obtain ⟨cf, hcf, hn, hw⟩ := h
    obtain ⟨fv, cap, cargs, h1, h2, h3⟩ := hd.2 0 _ _ rfl rfl
    obtain ⟨hb, ow, hcomp⟩ := hE.fn f cf hcf
    refine ⟨by simp, fv, cap, f, cargs, h1, by rw [h2, callFunc_run hb], ?_⟩
    unfold compF at hcomp
    split at hcomp
    · rename_i fn' hfn
      split at hcomp
      · rename_i code hcode
        split at hcomp
        · rename_i b rs hbody hres
          split at hcomp
          · rename_i hnp
            simp only [Option.some.injEq] at hcomp; subst hcomp
            have hsize : cargs.size = fn'.params.size + fn'.nfree := by
              have := h3.1
              simp only [Array.length_toList] at this
              rw [← this]; exact hn
            refine CallsD.mono (callsD_of_wp (u := .returning) (R := fun e w' => match e with
              | .returned v => Leaves P fn tmps R cds .returning w'
              | _ => False) hfn hcode (W_sound (c := c.df []) (Ret_rel hE hm) (drawSound hm (Ret_rel hE hm)) code hbody (init_SR (by omega) rfl hhp (hr.df []) (h3.df [])) hw ?_)) ?_
            · rintro e s' c' a' ⟨hend, ⟨v', hv'⟩, hrest⟩ hs' hext
              obtain ⟨u, hu1, hu2⟩ := results_run (P := P) hs' hres hv'
              have hdf : a'.defers = [] := hs'.df.trans (congrArg Frm.G hext.F)
              have hE' : ExtD c c' := by
                have : Ext (c.df []) (c'.df []) := hext.df []
                exact this
              have hl : Leaves P fn tmps R cds .returning c'.w := leaves_sound hE hm ds cds ⟨s.tm, s'.hp, s'.nx⟩ c' ⟨by have := hd.1; simpa using this, fun i d cd' g1 g2 =>
                  let ⟨fv, cap, cargs, k1, k2, k3⟩ := hd.2 (i + 1) d cd' (by simpa using g1) (by simpa using g2); ⟨fv, cap, cargs, k1, k2, k3.mono' fun x u hv => hE'.mv hv⟩⟩
                (fun t => hE'.mv (htm t)) hs'.hp hs'.rel hrest fun s2 c2 q g1 g2 g3 g4 => hQ s2 c2 q g1 g2 g3 (hE'.trans g4)
              rcases hend with rfl | rfl
              · exact ⟨hdf, u, hu1, hl⟩
              · exact ⟨hdf, u, hu1, hl⟩
            · rintro e u' w' ⟨rfl, he⟩
              cases e with
              | returned v => exact he
              | panicked ch => exact he.elim
              | outgrown => exact he.elim
          · cases hcomp
        · cases hcomp
      · cases hcomp
    · cases hcomp

theorem dfr_sound {P : Program} {E : Env} (hE : EnvOk P E) (hm : P.follows .mixedOrders = true) {dfn : Nat → Option DFunc} (hd : ∀ f df, dfn f = some df → hasBody P f = true ∧ ∃ ow, compDF P ow f = some df) : RelSound P (DfrRel E dfn) := by
  refine ⟨fun f args hp nx v hp' nx' k h => .inr h.1, (fun f args hp nx v hp' nx' h => nomatch h.1), ?_⟩
  rintro f args hp nx v hp' nx' k ⟨rfl, df, hdf, hn, hw⟩ c cargs hcp hrel hargs
  obtain ⟨hb, ow, hcomp⟩ := hd f df hdf
  refine .inl ⟨hb, ?_⟩
  unfold compDF at hcomp
  split at hcomp
  · rename_i fn hfn
    split at hcomp
    · rename_i code hcode
      split at hcomp
      · rename_i b rs hbody hres
        split at hcomp
        · rename_i hnp
          simp only [Option.some.injEq] at hcomp; subst hcomp
          have hsize : cargs.size = fn.params.size + fn.nfree := by
            have := hargs.1
            simp only [Array.length_toList] at this
            rw [← this]; exact hn
          refine calls_of_wp_defers hfn hcode (WD_sound (c := c.df []) (Ret_rel hE hm) (drawSound hm (Ret_rel hE hm)) code hbody (init_SR (by omega) rfl hcp (hrel.df []) (hargs.df [])) ⟨rfl, fun i d cd h => by simp at h⟩ hw ?_)
          rintro e s' c' a' ds' ⟨hend, hde⟩ hs' hext hdr
          have hl : Leaves P fn a'.tmps (CallPost c .e v hp' nx nx') a'.defers .returning c'.w := by
            rw [hs'.df]
            refine leaves_sound hE hm ds' c'.F.G s' c' hdr (fun t => hs'.tm t) hs'.hp hs'.rel hde ?_
            rintro s2 c2 ⟨hv, hsub, rfl⟩ g1 g2 g3 g4
            have hs2 : SR (c2.df []) s2 fn.ntmps ⟨a'.tmps, []⟩ := ⟨fun t => (g1 t).df [], hs'.sz, rfl, g2, g3.df []⟩
            obtain ⟨u, hu1, hu2⟩ := results_run (P := P) hs2 hres hv
            have hext2 : Ext c (c2.df c.F.G) := by
              have h1 : Ext (c.df []) (c2.df []) := Ext.trans (show Ext ((c.df []).df []) (c'.df []) from hext) g4
              exact h1.df c.F.G
            obtain ⟨k1, k2⟩ := sub_rel (g3.df c.F.G) (hp' := hp') (by show Sub hp' c2.hp; rw [g2]; exact hsub)
            have hF : (c2.df c.F.G).F = c.F := hext2.F
            refine ⟨u, hu1, u, c2.ι, rfl, (fun h => by cases h), ?_, ?_, ?_⟩
            · have := hext2.trans k2; rw [← hF]; exact this
            · rw [← hF]; exact k1
            · rw [← hF]; exact (hu2.df c.F.G).mono k2
          rcases hend with rfl | rfl
          · exact hl
          · exact hl
        · cases hcomp
      · cases hcomp
    · cases hcomp
  · cases hcomp

theorem RelSound.or {P : Program} {R R' : CallRel} (h : RelSound P R) (h' : RelSound P R') : RelSound P fun f args hp nx v hp' nx' k => R f args hp nx v hp' nx' k ∨ R' f args hp nx v hp' nx' k := by
  refine ⟨fun f args hp nx v hp' nx' k h0 => h0.elim (h.kind _ _ _ _ _ _ _ _) (h'.kind _ _ _ _ _ _ _ _), fun f args hp nx v hp' nx' h0 => ?_, fun f args hp nx v hp' nx' k h0 => h0.elim (h.calls _ _ _ _ _ _ _ _) (h'.calls _ _ _ _ _ _ _ _)⟩
  rcases h0 with h0 | h0
  · obtain ⟨h1, h2, h3⟩ := h.pure _ _ _ _ _ _ _ h0
    exact ⟨h1, h2, fun a b => .inl (h3 a b)⟩
  · obtain ⟨h1, h2, h3⟩ := h'.pure _ _ _ _ _ _ _ h0
    exact ⟨h1, h2, fun a b => .inr (h3 a b)⟩
end Go.Ai
