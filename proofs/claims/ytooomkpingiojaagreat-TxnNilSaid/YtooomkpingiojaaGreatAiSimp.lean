/- The walk of compiled code as a set of rewriting rules. -/
import Derived.Test.YtooomkpingiojaaGreatAiRules
namespace Go.Ai
set_option linter.unusedSimpArgs false
set_option linter.unusedVariables false

/-! ### The shape of the code. What is to come is held as data, not as a function's body, so that rewriting doesn't run it ahead of its time. -/
@[congr] theorem WCall_nc {R f a a' hp nx K} (h : a = a') : WCall R f a hp nx K = WCall R f a' hp nx K := by rw [h]
@[simp ↓] theorem W_skip {R Q s} : W R .skip Q s = Q .normal s := (rfl)
@[simp ↓] theorem W_region {R ops Q tm hp nx} : W R (.region ops) Q ⟨tm, hp, nx⟩ = WOps R ops ⟨tm, hp, nx⟩ (Q .normal) := (rfl)
/-- What is asked behind a drawn region. -/
def drawK (pre : List (List Nat)) (Q : CExit → St → Prop) (s : St) (recs : List Rec) : Prop := calmAll pre recs ∧ Q .normal s
@[simp ↓] theorem W_draw {R pre ops Q tm hp nx} : W R (.draw pre ops) Q ⟨tm, hp, nx⟩ = WDraw R ops ⟨tm, hp, nx⟩ [] (drawK pre Q) := (rfl)
@[simp ↓] theorem drawK_apply {pre Q tm hp nx recs} : drawK pre Q ⟨tm, hp, nx⟩ recs = (calmAll pre recs ∧ Q .normal ⟨tm, hp, nx⟩) := (rfl)
@[simp ↓] theorem W_ret {R Q s} : W R .ret Q s = Q .ret s := (rfl)
@[simp ↓] theorem W_exit {R Q s i} : W R (.exit i) Q s = Q (.exit i) s := (rfl)
/-- What goes on behind a first part. -/
def seqK (R : CallRel) (b : CCode) (Q : CExit → St → Prop) (e : CExit) (s : St) : Prop := match e with | .normal => W R b Q s | e => Q e s
def blkK (id : Nat) (Q : CExit → St → Prop) (e : CExit) (s : St) : Prop := match e with
    | .exit i => if i = id then Q .normal s else Q (.exit i) s
    | e => Q e s
@[simp ↓] theorem seqK_normal {R b Q s} : seqK R b Q .normal s = W R b Q s := (rfl)
@[simp ↓] theorem seqK_exit {R b Q s i} : seqK R b Q (.exit i) s = Q (.exit i) s := (rfl)
@[simp ↓] theorem seqK_ret {R b Q s} : seqK R b Q .ret s = Q .ret s := (rfl)
@[simp ↓] theorem blkK_normal {id Q s} : blkK id Q .normal s = Q .normal s := (rfl)
@[simp ↓] theorem blkK_ret {id Q s} : blkK id Q .ret s = Q .ret s := (rfl)
@[simp ↓] theorem blkK_exit {id Q s i} : blkK id Q (.exit i) s = if i = id then Q .normal s else Q (.exit i) s := (rfl)
@[simp ↓] theorem W_seq {R a b Q s} : W R (.seq a b) Q s = W R a (seqK R b Q) s := (rfl)
@[simp ↓] theorem W_block {R id a Q s} : W R (.block id a) Q s = W R a (blkK id Q) s := (rfl)
/-- A fork. -/
def condK (R : CallRel) (c : AV) (a b : CCode) (Q : CExit → St → Prop) (tm : Nat → AV) (hp : Heap) (nx : Nat) : Prop := match c with
    | .v (.bool t) => if t then W R a Q ⟨tm, hp, nx⟩ else W R b Q ⟨tm, hp, nx⟩
    | _ => False
@[simp ↓] theorem condK_t {R a b Q tm hp nx} : condK R (.v (.bool true)) a b Q tm hp nx = W R a Q ⟨tm, hp, nx⟩ := (rfl)
@[simp ↓] theorem condK_f {R a b Q tm hp nx} : condK R (.v (.bool false)) a b Q tm hp nx = W R b Q ⟨tm, hp, nx⟩ := (rfl)
@[congr] theorem condK_nc {R c c' a b Q tm hp nx} (h : c = c') : condK R c a b Q tm hp nx = condK R c' a b Q tm hp nx := by rw [h]
@[simp ↓] theorem W_cond {R c a b Q tm hp nx} : W R (.cond c a b) Q ⟨tm, hp, nx⟩ = condK R (ev tm c) a b Q tm hp nx := (rfl)
@[simp ↓] theorem WOps_nil {R s Q} : WOps R [] s Q = Q s := (rfl)
def kOps (R : CallRel) (rest : List COper) (tm : Nat → AV) (d : Nat) (Q : St → Prop) (v : AV) (hp : Heap) (nx : Nat) (k : Kd) : Prop := WOps R rest ⟨tupd tm d v, hp, nx⟩ Q
def kOps0 (R : CallRel) (rest : List COper) (tm : Nat → AV) (Q : St → Prop) (v : AV) (hp : Heap) (nx : Nat) (k : Kd) : Prop := WOps R rest ⟨tm, hp, nx⟩ Q
@[simp ↓] theorem kOps_apply {R rest tm d Q v hp nx k} : kOps R rest tm d Q v hp nx k = WOps R rest ⟨tupd tm d v, hp, nx⟩ Q := (rfl)
@[simp ↓] theorem kOps0_apply {R rest tm Q v hp nx k} : kOps0 R rest tm Q v hp nx k = WOps R rest ⟨tm, hp, nx⟩ Q := (rfl)
@[simp ↓] theorem WOps_none {R d op rest tm hp nx Q} : WOps R (⟨some d, op, none⟩ :: rest) ⟨tm, hp, nx⟩ Q = WOp R op ⟨tm, hp, nx⟩ (kOps R rest tm d Q) := (rfl)
@[simp ↓] theorem WOps_none' {R op rest tm hp nx Q} : WOps R (⟨none, op, none⟩ :: rest) ⟨tm, hp, nx⟩ Q = WOp R op ⟨tm, hp, nx⟩ (kOps0 R rest tm Q) := (rfl)
def guardP (x : AV) (w : Bool) (p q : Prop) : Prop := match x with
  | .v (.bool b) => if b = w then p else q
  | .v (.tuple _) => q
  | _ => False
theorem guard_eq {tm : Nat → AV} {g : Nat} {w : Bool} {p q : Prop} : (match wantedA tm (some (g, w)) with | some true => p | some false => q | none => False) = guardP (tm g) w p q := by
  simp only [wantedA, guardP]
  generalize tm g = x
  cases x with
  | v x => cases x <;> try rfl
           rename_i b; cases b <;> cases w <;> simp
  | _ => rfl
/-- An operation under a condition. -/
def guardK (R : CallRel) (x : AV) (w : Bool) (op : COp) (rest : List COper) (d : Option Nat) (Q : St → Prop) (tm : Nat → AV) (hp : Heap) (nx : Nat) : Prop :=
  guardP x w (WOp R op ⟨tm, hp, nx⟩ (fun v hp nx _ => WOps R rest (St.put ⟨tm, hp, nx⟩ d v hp nx) Q)) (WOps R rest (St.put ⟨tm, hp, nx⟩ d (.v undef) hp nx) Q)
@[congr] theorem guardK_nc {R x x' w op rest d Q tm hp nx} (h : x = x') : guardK R x w op rest d Q tm hp nx = guardK R x' w op rest d Q tm hp nx := by rw [h]
section
variable {R : CallRel} {op : COp} {rest : List COper} {d : Nat} {Q : St → Prop} {tm : Nat → AV} {hp : Heap} {nx : Nat}
@[simp ↓] theorem guardK_tt : guardK R (.v (.bool true)) true op rest (some d) Q tm hp nx = WOp R op ⟨tm, hp, nx⟩ (kOps R rest tm d Q) := (rfl)
@[simp ↓] theorem guardK_ff : guardK R (.v (.bool false)) false op rest (some d) Q tm hp nx = WOp R op ⟨tm, hp, nx⟩ (kOps R rest tm d Q) := (rfl)
@[simp ↓] theorem guardK_tf : guardK R (.v (.bool true)) false op rest (some d) Q tm hp nx = WOps R rest ⟨tupd tm d (.v undef), hp, nx⟩ Q := (rfl)
@[simp ↓] theorem guardK_ft : guardK R (.v (.bool false)) true op rest (some d) Q tm hp nx = WOps R rest ⟨tupd tm d (.v undef), hp, nx⟩ Q := (rfl)
@[simp ↓] theorem guardK_u {w} : guardK R (.v undef) w op rest (some d) Q tm hp nx = WOps R rest ⟨tupd tm d (.v undef), hp, nx⟩ Q := (rfl)
@[simp ↓] theorem guardK_tt' : guardK R (.v (.bool true)) true op rest none Q tm hp nx = WOp R op ⟨tm, hp, nx⟩ (kOps0 R rest tm Q) := (rfl)
@[simp ↓] theorem guardK_ff' : guardK R (.v (.bool false)) false op rest none Q tm hp nx = WOp R op ⟨tm, hp, nx⟩ (kOps0 R rest tm Q) := (rfl)
@[simp ↓] theorem guardK_tf' : guardK R (.v (.bool true)) false op rest none Q tm hp nx = WOps R rest ⟨tm, hp, nx⟩ Q := (rfl)
@[simp ↓] theorem guardK_ft' : guardK R (.v (.bool false)) true op rest none Q tm hp nx = WOps R rest ⟨tm, hp, nx⟩ Q := (rfl)
@[simp ↓] theorem guardK_u' {w} : guardK R (.v undef) w op rest none Q tm hp nx = WOps R rest ⟨tm, hp, nx⟩ Q := (rfl)
@[simp ↓] theorem WOps_some {d g w} : WOps R (⟨d, op, some (g, w)⟩ :: rest) ⟨tm, hp, nx⟩ Q = guardK R (tm g) w op rest d Q tm hp nx := by
  rw [WOps]; exact guard_eq
end

@[simp ↓] theorem WDraw_nil {R s recs Q} : WDraw R [] s recs Q = Q s recs := (rfl)
def kDraw (R : CallRel) (rest : List COper) (tm : Nat → AV) (d : Option Nat) (hp0 : Heap) (recs : List Rec) (Q : St → List Rec → Prop) (v : AV) (hp : Heap) (nx : Nat) (k : Kd) : Prop := WDraw R rest (St.put ⟨tm, hp, nx⟩ d v hp nx) (recs ++ [⟨k, hp0, hp⟩]) Q
@[simp ↓] theorem kDraw_apply {R rest tm d hp0 recs Q v hp nx k} : kDraw R rest tm (some d) hp0 recs Q v hp nx k = WDraw R rest ⟨tupd tm d v, hp, nx⟩ (recs ++ [⟨k, hp0, hp⟩]) Q := (rfl)
@[simp ↓] theorem kDraw_apply' {R rest tm hp0 recs Q v hp nx k} : kDraw R rest tm none hp0 recs Q v hp nx k = WDraw R rest ⟨tm, hp, nx⟩ (recs ++ [⟨k, hp0, hp⟩]) Q := (rfl)
@[simp ↓] theorem WDraw_none {R d op rest tm hp nx Q recs} : WDraw R (⟨d, op, none⟩ :: rest) ⟨tm, hp, nx⟩ recs Q = WOp R op ⟨tm, hp, nx⟩ (kDraw R rest tm d hp recs Q) := by cases d <;> rfl
def guardD (R : CallRel) (x : AV) (w : Bool) (op : COp) (rest : List COper) (d : Option Nat) (recs : List Rec) (Q : St → List Rec → Prop) (tm : Nat → AV) (hp : Heap) (nx : Nat) : Prop :=
  guardP x w (WOp R op ⟨tm, hp, nx⟩ (kDraw R rest tm d hp recs Q)) (WDraw R rest (St.put ⟨tm, hp, nx⟩ d (.v undef) hp nx) (recs ++ [⟨.p, hp, hp⟩]) Q)
@[congr] theorem guardD_nc {R x x' w op rest d recs Q tm hp nx} (h : x = x') : guardD R x w op rest d recs Q tm hp nx = guardD R x' w op rest d recs Q tm hp nx := by rw [h]
section
variable {R : CallRel} {op : COp} {rest : List COper} {d : Nat} {Q : St → List Rec → Prop} {tm : Nat → AV} {hp : Heap} {nx : Nat} {recs : List Rec}
@[simp ↓] theorem guardD_tt {d} : guardD R (.v (.bool true)) true op rest d recs Q tm hp nx = WOp R op ⟨tm, hp, nx⟩ (kDraw R rest tm d hp recs Q) := (rfl)
@[simp ↓] theorem guardD_ff {d} : guardD R (.v (.bool false)) false op rest d recs Q tm hp nx = WOp R op ⟨tm, hp, nx⟩ (kDraw R rest tm d hp recs Q) := (rfl)
@[simp ↓] theorem guardD_tf : guardD R (.v (.bool true)) false op rest (some d) recs Q tm hp nx = WDraw R rest ⟨tupd tm d (.v undef), hp, nx⟩ (recs ++ [⟨.p, hp, hp⟩]) Q := (rfl)
@[simp ↓] theorem guardD_ft : guardD R (.v (.bool false)) true op rest (some d) recs Q tm hp nx = WDraw R rest ⟨tupd tm d (.v undef), hp, nx⟩ (recs ++ [⟨.p, hp, hp⟩]) Q := (rfl)
@[simp ↓] theorem guardD_u {w} : guardD R (.v undef) w op rest (some d) recs Q tm hp nx = WDraw R rest ⟨tupd tm d (.v undef), hp, nx⟩ (recs ++ [⟨.p, hp, hp⟩]) Q := (rfl)
@[simp ↓] theorem guardD_tf' : guardD R (.v (.bool true)) false op rest none recs Q tm hp nx = WDraw R rest ⟨tm, hp, nx⟩ (recs ++ [⟨.p, hp, hp⟩]) Q := (rfl)
@[simp ↓] theorem guardD_ft' : guardD R (.v (.bool false)) true op rest none recs Q tm hp nx = WDraw R rest ⟨tm, hp, nx⟩ (recs ++ [⟨.p, hp, hp⟩]) Q := (rfl)
@[simp ↓] theorem guardD_u' {w} : guardD R (.v undef) w op rest none recs Q tm hp nx = WDraw R rest ⟨tm, hp, nx⟩ (recs ++ [⟨.p, hp, hp⟩]) Q := (rfl)
@[simp ↓] theorem WDraw_some {d g w} : WDraw R (⟨d, op, some (g, w)⟩ :: rest) ⟨tm, hp, nx⟩ recs Q = guardD R (tm g) w op rest d recs Q tm hp nx := by
  rw [WDraw]
  have : (fun v hp' nx' k => WDraw R rest (St.put ⟨tm, hp, nx⟩ d v hp' nx') (recs ++ [⟨k, hp, hp'⟩]) Q) = kDraw R rest tm d hp recs Q := by
    funext v hp' nx' k; cases d <;> rfl
  rw [this]; exact guard_eq
end
@[simp ↓] theorem ev_t {tm n} : ev tm (.t n) = tm n := (rfl)
@[simp ↓] theorem ev_c {tm x} : ev tm (.c x) = x := (rfl)
@[simp] theorem evo_none {tm} : evo tm none = none := (rfl)
@[simp] theorem evo_some {tm x} : evo tm (some x) = some (ev tm x) := (rfl)
@[simp ↓] theorem tupd_apply {f : Nat → AV} {t v x} : tupd f t v x = if x = t then v else f x := (rfl)
@[simp] theorem init_eq {args hp nx} : init args hp nx = ⟨fun t => (args[t]?).getD (.v undef), hp, nx⟩ := (rfl)

/-! ### What calm means -/
def Kd.quiet : Kd → Bool
  | .e => false
  | .a => false
  | _ => true
def quietR (l : List Rec) : Bool := l.all (·.k.quiet)
@[simp ↓] theorem quietR_nil : quietR [] = true := (rfl)
@[simp ↓] theorem quietR_snoc {l k h h'} : quietR (l ++ [⟨k, h, h'⟩]) = (k.quiet && quietR l) := by simp [quietR, Bool.and_comm]
@[simp ↓] theorem quiet_p : Kd.quiet .p = true := (rfl)
@[simp ↓] theorem quiet_r {x} : Kd.quiet (.r x) = true := (rfl)
@[simp ↓] theorem quiet_e : Kd.quiet .e = false := (rfl)
@[simp ↓] theorem quiet_a : Kd.quiet .a = false := (rfl)
theorem calm_quiet_one {p : List Nat} {b : Rec} (hb : b.k.quiet = true) : ∀ (l : List Rec) (i : Nat), quietR l = true → calmAll.one p b l i
  | [], i, _ => trivial
  | a :: r, i, h => by
    simp only [quietR, List.all_cons, Bool.and_eq_true] at h
    refine ⟨?_, calm_quiet_one hb r (i + 1) h.2⟩
    split
    · trivial
    · obtain ⟨ka, _, _⟩ := a; obtain ⟨kb, _, _⟩ := b
      cases ka <;> cases kb <;> first | trivial | (simp [Kd.quiet] at h) | (simp [Kd.quiet] at hb)
theorem calm_quiet_go : ∀ (recs : List Rec) (pre : List (List Nat)) (done : List Rec) (j : Nat), quietR recs = true → quietR done = true → recs.length ≤ pre.length → calmAll.go pre recs done j
  | [], pre, done, j, _, _, _ => by cases pre <;> trivial
  | b :: r, [], done, j, _, _, h => by simp at h
  | b :: r, p :: ps, done, j, h1, h2, h3 => by
    simp only [quietR, List.all_cons, Bool.and_eq_true] at h1
    exact ⟨calm_quiet_one h1.1 done 0 h2, calm_quiet_go r ps (done ++ [b]) (j + 1) h1.2 (by simp only [quietR, List.all_append, Bool.and_eq_true]; exact ⟨h2, by simpa using h1.1⟩) (by simpa using h3)⟩
@[simp ↓] theorem quietR_cons {l k h h'} : quietR (⟨k, h, h'⟩ :: l) = (k.quiet && quietR l) := by simp [quietR]
def lenR (l : List Rec) : Nat := l.length
@[simp ↓] theorem lenR_nil : lenR [] = 0 := (rfl)
@[simp ↓] theorem lenR_cons {l x} : lenR (x :: l) = lenR l + 1 := by simp [lenR]
@[simp ↓] theorem lenR_snoc {l x} : lenR (l ++ [x]) = lenR l + 1 := by simp [lenR]
def noAR (l : List Rec) : Bool := l.all fun r => !r.k.isA
@[simp ↓] theorem noAR_nil : noAR [] = true := (rfl)
@[simp ↓] theorem noAR_cons {l k h h'} : noAR (⟨k, h, h'⟩ :: l) = (!k.isA && noAR l) := (rfl)
@[simp ↓] theorem noAR_snoc {l k h h'} : noAR (l ++ [⟨k, h, h'⟩]) = (!k.isA && noAR l) := by simp [noAR, Bool.and_comm]
@[simp ↓] theorem isA_p : Kd.isA .p = false := (rfl)
@[simp ↓] theorem isA_r {x} : Kd.isA (.r x) = false := (rfl)
@[simp ↓] theorem isA_e : Kd.isA .e = false := (rfl)
@[simp ↓] theorem isA_a : Kd.isA .a = true := (rfl)
@[simp ↓] theorem eff_p : Kd.eff .p = false := (rfl)
@[simp ↓] theorem eff_r {x} : Kd.eff (.r x) = false := (rfl)
@[simp ↓] theorem eff_e : Kd.eff .e = true := (rfl)
@[simp ↓] theorem eff_a : Kd.eff .a = true := (rfl)
def flR (l : List Rec) : List (Bool × Bool) := l.map fun r => (r.k.isA, r.k.eff)
@[simp ↓] theorem flR_nil : flR [] = [] := (rfl)
@[simp ↓] theorem flR_cons {l k h h'} : flR (⟨k, h, h'⟩ :: l) = (k.isA, k.eff) :: flR l := (rfl)
@[simp ↓] theorem flR_snoc {l k h h'} : flR (l ++ [⟨k, h, h'⟩]) = flR l ++ [(k.isA, k.eff)] := by simp [flR]
@[simp] theorem allocOk_nil {pre effs i} : allocOk pre [] effs i = true := (rfl)
@[simp ↓] theorem allocOk_f {pre e r effs i} : allocOk pre ((false, e) :: r) effs i = allocOk pre r (if e then effs ++ [i] else effs) (i + 1) := (rfl)
@[simp ↓] theorem allocOk_t {pre e r effs i} : allocOk pre ((true, e) :: r) effs i = ((pre.all fun p => if p.contains i then effs.all fun k => p.contains k else true) && allocOk pre r (if e then effs ++ [i] else effs) (i + 1)) := (rfl)
theorem allocOk_noA {pre : List (List Nat)} : ∀ (l : List Rec) (effs : List Nat) (i : Nat), noAR l = true → allocOk pre (flR l) effs i = true
  | [], _, _, _ => rfl
  | ⟨k, h, h'⟩ :: r, effs, i, hn => by
    rw [noAR_cons, Bool.and_eq_true] at hn
    have hk : k.isA = false := by simpa using hn.1
    rw [flR_cons, hk, allocOk_f]
    exact allocOk_noA r _ _ hn.2
theorem quiet_noA : ∀ (l : List Rec), quietR l = true → noAR l = true
  | [], _ => rfl
  | ⟨k, h, h'⟩ :: r, hq => by
    rw [quietR_cons, Bool.and_eq_true] at hq
    rw [noAR_cons, quiet_noA r hq.2]
    cases k <;> first | rfl | (simp [Kd.quiet] at hq)
@[simp ↓] theorem calmAll_eq {pre recs} : calmAll pre recs = if quietR recs = true ∧ lenR recs ≤ pre.length then True else (calmAll.go pre recs [] 0 ∧ if noAR recs = true then True else allocOk pre (flR recs) [] 0 = true) := by
  split
  · rename_i h; exact eq_true ⟨calm_quiet_go recs pre [] 0 h.1 rfl h.2, allocOk_noA recs [] 0 (quiet_noA recs h.1)⟩
  · split
    · rename_i h; exact propext ⟨fun h1 => ⟨h1.1, trivial⟩, fun h1 => ⟨h1.1, allocOk_noA recs [] 0 h⟩⟩
    · rfl
@[simp] theorem calm_go_nil {pre done j} : calmAll.go pre [] done j = True := by cases pre <;> rfl
@[simp] theorem calm_go_cons {p ps b rest done j} : calmAll.go (p :: ps) (b :: rest) done j = (calmAll.one p b done 0 ∧ calmAll.go ps rest (done ++ [b]) (j + 1)) := (rfl)
@[simp] theorem calm_one_nil {p b i} : calmAll.one p b [] i = True := (rfl)
@[simp] theorem calm_one_cons {p b a rest i} : calmAll.one p b (a :: rest) i = ((if p.contains i then True else calm2 a b) ∧ calmAll.one p b rest (i + 1)) := (rfl)
@[simp] theorem calm2_p {b hp hp'} : calm2 ⟨.p, hp, hp'⟩ b = True := by cases b with | mk k _ _ => cases k <;> rfl
@[simp] theorem calm2_p' {a hp hp'} : calm2 a ⟨.p, hp, hp'⟩ = True := by cases a with | mk k _ _ => cases k <;> rfl
@[simp] theorem calm2_rr {x y hp hp' gp gp'} : calm2 ⟨.r x, hp, hp'⟩ ⟨.r y, gp, gp'⟩ = True := (rfl)
@[simp] theorem calm2_re {x hp hp' gp gp'} : calm2 ⟨.r x, hp, hp'⟩ ⟨.e, gp, gp'⟩ = (gp x = gp' x) := (rfl)
@[simp] theorem calm2_er {x hp hp' gp gp'} : calm2 ⟨.e, hp, hp'⟩ ⟨.r x, gp, gp'⟩ = (hp x = hp' x) := (rfl)
@[simp] theorem calm2_ee {hp hp' gp gp'} : calm2 ⟨.e, hp, hp'⟩ ⟨.e, gp, gp'⟩ = False := (rfl)
@[simp] theorem calm2_ae {hp hp' gp gp'} : calm2 ⟨.a, hp, hp'⟩ ⟨.e, gp, gp'⟩ = False := (rfl)
@[simp] theorem calm2_ea {hp hp' gp gp'} : calm2 ⟨.e, hp, hp'⟩ ⟨.a, gp, gp'⟩ = True := (rfl)
@[simp] theorem calm2_aa {hp hp' gp gp'} : calm2 ⟨.a, hp, hp'⟩ ⟨.a, gp, gp'⟩ = True := (rfl)
@[simp] theorem calm2_ra {x hp hp' gp gp'} : calm2 ⟨.r x, hp, hp'⟩ ⟨.a, gp, gp'⟩ = (gp x = gp' x) := (rfl)
@[simp] theorem calm2_ar {x hp hp' gp gp'} : calm2 ⟨.a, hp, hp'⟩ ⟨.r x, gp, gp'⟩ = (hp x = hp' x) := (rfl)

/-! ### Operations -/
def mvA (x : Option AV) (hp : Heap) (nx : Nat) (K : AV → Heap → Nat → Kd → Prop) : Prop :=
  match x with | some v => K v hp nx .p | none => False
@[congr] theorem mvA_nc {x x' hp nx K} (h : x = x') : mvA x hp nx K = mvA x' hp nx K := by rw [h]
@[simp ↓] theorem mvA_some {v hp nx K} : mvA (some v) hp nx K = K v hp nx .p := (rfl)
@[simp ↓] theorem mvA_none {hp nx K} : mvA none hp nx K = False := (rfl)
@[simp] theorem mvA_ite {p : Prop} [Decidable p] {v hp nx K} : mvA (if p then some v else none) hp nx K = (p ∧ K v hp nx .p) := by
  split <;> rename_i h <;> simp [h]

def mvM (x : AV) (hp : Heap) (nx : Nat) (K : AV → Heap → Nat → Kd → Prop) : Prop := K x hp nx .p
@[congr] theorem mvM_nc {x x' hp nx K} (h : x = x') : mvM x hp nx K = mvM x' hp nx K := by rw [h]
@[simp] theorem mvM_eq {x hp nx K} : mvM x hp nx K = K x hp nx .p := (rfl)

def pickA (c a b : AV) : Option AV := match c with | .v (.bool t) => some (if t then a else b) | _ => none
def faddA (x : AV) (off : Nat) : Option AV := match x with
    | .ptr r i o => some (.ptr r i (o + off))
    | .rp cells => some (.rp (cells.drop off))
    | _ => none
def slenA (x : AV) : Option AV := match x with
    | .str s => some (.int .i64 s.length)
    | _ => none
def lenA (x : AV) : Option AV := match x with
    | .sl _ _ _ len _ => some (.int .i64 len)
    | .rs _ _ es _ => some (.int .i64 es.length)
    | _ => none
def capA (x : AV) : Option AV := match x with
    | .sl _ _ _ _ (some c) => some (.int .i64 c)
    | .rs _ _ _ (some c) => some (.int .i64 c)
    | _ => none
def fieldVA (off : Nat) (n : Option Nat) (x : AV) : Option AV := match x with
    | .agg cs => partA cs off n
    | _ => none
def extA (x : AV) (i : Nat) : Option AV := match x with
    | .tup vs => vs[i]?
    | _ => none
def iaddrA (n : Nat) (x i : AV) : Option AV := match x, i with
    | .sl r sz j len _, .v (.int _ k) => if sz = n ∧ 0 ≤ k ∧ k < len then some (.ptr r (j + k.toNat) 0) else none
    | .rs _ sz es _, .v (.int _ k) => if sz = n ∧ 0 ≤ k then (es[k.toNat]?).map .rp else none
    | _, _ => none
def sidxA (x i : AV) : Option AV := match x, i with
    | .str s, .v (.int _ k) => if 0 ≤ k then (s[k.toNat]?).map fun b => .int .u8 b.toNat else none
    | _, _ => none
def nilckA (x : AV) : Option AV := match x with
    | .ptr r i o => some (.ptr r i o)
    | .rp cs => some (.rp cs)
    | .fn (.func f) a b => some (.fn (.func f) a b)
    | _ => none
def eqbA (op : BinOp) (x y : AV) : Option AV := match x, y with
    | .v (.bool a), .v (.bool b) => eqA op (a == b)
    | _, _ => none
def eqnA (op : BinOp) (x y : AV) : Option AV := match x, y with
    | .rs n _ _ _, .rs true _ _ _ => eqA op n
    | .sl .., .rs true _ _ _ => eqA op false
    | _, _ => none
def eqsA (neg : Bool) (ks : List LK) (x y : AV) : Option AV := match x, y with
    | .agg a, .agg b => (eqCells ks a b).map fun q => .bool (if neg then !q else q)
    | _, _ => none
def convA (k : IntKind) (x : AV) : Option AV := match x with
    | .v (.int _ n) => some (.int k (k.wrap n))
    | _ => none
def cstrA (x : AV) : Option AV := match x with
    | .str l => some (.str l)
    | _ => none
def r2sA (x : AV) : Option AV := match x with
    | .v (.int _ n) => some (.str (Utf8.encode n).data.toList)
    | _ => none
def minA (x y : AV) : Option AV := match x, y with
    | .v (.int k a), .v (.int k' b) => some (.int k (if b < a then b else a))
    | _, _ => none
def maxA (x y : AV) : Option AV := match x, y with
    | .v (.int k a), .v (.int k' b) => some (.int k (if b > a then b else a))
    | _, _ => none
def buildA (zero : List AV) (parts : List (Nat × Nat × AV)) : Option AV := (fillA zero parts).map .agg
def bsliceA (sz : Nat) (zero : List (List AV)) (parts : List (Nat × AV)) : Option AV := (fillS sz zero parts).map fun es => .rs false sz es (some es.length)

section
variable {R : CallRel} {tm : Nat → AV} {hp : Heap} {nx : Nat} {K : AV → Heap → Nat → Kd → Prop}
theorem WOp_pureOp {co : COp} (h1 : ∀ f a, co ≠ .call f a) (h2 : ∀ f a, co ≠ .callv f a) (h3 : evR tm hp co = none) (h4 : evE tm hp nx co = none) :
    WOp R co ⟨tm, hp, nx⟩ K = mvA (evP tm co) hp nx K := by
  unfold WOp
  split
  · exact absurd rfl (h1 _ _)
  · exact absurd rfl (h2 _ _)
  · simp only [h3, h4]
    cases evP tm co <;> rfl

@[simp ↓] theorem WOp_mov {x} : WOp R (.mov x) ⟨tm, hp, nx⟩ K = mvM (ev tm x) hp nx K := (rfl)
@[simp ↓] theorem WOp_bin {op x y} : WOp R (.bin op x y) ⟨tm, hp, nx⟩ K = mvA (binA op (ev tm x) (ev tm y)) hp nx K := WOp_pureOp nofun nofun rfl rfl
@[simp ↓] theorem WOp_pick {c a b} : WOp R (.pick c a b) ⟨tm, hp, nx⟩ K = mvA (pickA (ev tm c) (ev tm a) (ev tm b)) hp nx K := WOp_pureOp nofun nofun rfl rfl
@[simp ↓] theorem WOp_fieldA {off x} : WOp R (.fieldA off x) ⟨tm, hp, nx⟩ K = mvA (faddA (ev tm x) off) hp nx K := WOp_pureOp nofun nofun rfl rfl
@[simp ↓] theorem WOp_slen {x} : WOp R (.slen x) ⟨tm, hp, nx⟩ K = mvA (slenA (ev tm x)) hp nx K := WOp_pureOp nofun nofun rfl rfl
@[simp ↓] theorem WOp_len {x} : WOp R (.len x) ⟨tm, hp, nx⟩ K = mvA (lenA (ev tm x)) hp nx K := WOp_pureOp nofun nofun rfl rfl
@[simp ↓] theorem WOp_cap {x} : WOp R (.cap x) ⟨tm, hp, nx⟩ K = mvA (capA (ev tm x)) hp nx K := WOp_pureOp nofun nofun rfl rfl
@[simp ↓] theorem WOp_field {off n x} : WOp R (.field off n x) ⟨tm, hp, nx⟩ K = mvA (fieldVA off n (ev tm x)) hp nx K := WOp_pureOp nofun nofun rfl rfl
@[simp ↓] theorem WOp_ext {x i} : WOp R (.ext x i) ⟨tm, hp, nx⟩ K = mvA (extA (ev tm x) i) hp nx K := WOp_pureOp nofun nofun rfl rfl
@[simp ↓] theorem WOp_iaddr {n x i} : WOp R (.iaddr n x i) ⟨tm, hp, nx⟩ K = mvA (iaddrA n (ev tm x) (ev tm i)) hp nx K := WOp_pureOp nofun nofun rfl rfl
@[simp ↓] theorem WOp_idx {x i} : WOp R (.idx x i) ⟨tm, hp, nx⟩ K = mvA (sidxA (ev tm x) (ev tm i)) hp nx K := WOp_pureOp nofun nofun rfl rfl
@[simp ↓] theorem WOp_nilck {x} : WOp R (.nilck x) ⟨tm, hp, nx⟩ K = mvA (nilckA (ev tm x)) hp nx K := WOp_pureOp nofun nofun rfl rfl
@[simp ↓] theorem WOp_eqb {op x y} : WOp R (.eqb op x y) ⟨tm, hp, nx⟩ K = mvA (eqbA op (ev tm x) (ev tm y)) hp nx K := WOp_pureOp nofun nofun rfl rfl
@[simp ↓] theorem WOp_eqn {op x y} : WOp R (.eqn op x y) ⟨tm, hp, nx⟩ K = mvA (eqnA op (ev tm x) (ev tm y)) hp nx K := WOp_pureOp nofun nofun rfl rfl
@[simp ↓] theorem WOp_eqs {g k x y} : WOp R (.eqs g k x y) ⟨tm, hp, nx⟩ K = mvA (eqsA g k (ev tm x) (ev tm y)) hp nx K := WOp_pureOp nofun nofun rfl rfl
@[simp ↓] theorem WOp_un {op x} : WOp R (.un op x) ⟨tm, hp, nx⟩ K = mvA (unA op (ev tm x)) hp nx K := WOp_pureOp nofun nofun rfl rfl
@[simp ↓] theorem WOp_conv {k x} : WOp R (.conv k x) ⟨tm, hp, nx⟩ K = mvA (convA k (ev tm x)) hp nx K := WOp_pureOp nofun nofun rfl rfl
@[simp ↓] theorem WOp_cstr {x} : WOp R (.cstr x) ⟨tm, hp, nx⟩ K = mvA (cstrA (ev tm x)) hp nx K := WOp_pureOp nofun nofun rfl rfl
@[simp ↓] theorem WOp_r2s {x} : WOp R (.r2s x) ⟨tm, hp, nx⟩ K = mvA (r2sA (ev tm x)) hp nx K := WOp_pureOp nofun nofun rfl rfl
@[simp ↓] theorem WOp_min {x y} : WOp R (.min x y) ⟨tm, hp, nx⟩ K = mvA (minA (ev tm x) (ev tm y)) hp nx K := WOp_pureOp nofun nofun rfl rfl
@[simp ↓] theorem WOp_max {x y} : WOp R (.max x y) ⟨tm, hp, nx⟩ K = mvA (maxA (ev tm x) (ev tm y)) hp nx K := WOp_pureOp nofun nofun rfl rfl
@[simp ↓] theorem WOp_build {z ps} : WOp R (.build z ps) ⟨tm, hp, nx⟩ K = mvA (buildA z (ps.map fun p => (p.1, p.2.1, ev tm p.2.2))) hp nx K := WOp_pureOp nofun nofun rfl rfl
@[simp ↓] theorem WOp_bslice {sz z ps} : WOp R (.bslice false sz z ps) ⟨tm, hp, nx⟩ K = mvA (bsliceA sz z (ps.map fun p => (p.1, ev tm p.2))) hp nx K := WOp_pureOp nofun nofun rfl rfl
@[simp ↓] theorem WOp_sslice {x lo hi} : WOp R (.sslice x lo hi) ⟨tm, hp, nx⟩ K = mvA (sliceStr (ev tm x) (evo tm lo) (evo tm hi)) hp nx K := WOp_pureOp nofun nofun rfl rfl
@[simp ↓] theorem WOp_slice {n x lo hi mx} : WOp R (.slice n x lo hi mx) ⟨tm, hp, nx⟩ K = mvA (sliceA n (ev tm x) (evo tm lo) (evo tm hi) (evo tm mx)) hp nx K := WOp_pureOp nofun nofun rfl rfl
@[simp ↓] theorem WOp_mkif {t x} : WOp R (.mkif t x) ⟨tm, hp, nx⟩ K = mvM (.ifc t (ev tm x)) hp nx K := (rfl)
@[simp ↓] theorem WOp_mkfn {f a b} : WOp R (.mkfn f a b) ⟨tm, hp, nx⟩ K = mvM (.fn f (a.map (ev tm)) (b.map (ev tm))) hp nx K := (rfl)
@[simp ↓] theorem WOp_call {f args} : WOp R (.call f args) ⟨tm, hp, nx⟩ K = WCall R f (args.map (ev tm)) hp nx K := (rfl)
def callvP (R : CallRel) (g : AV) (args : List AV) (hp : Heap) (nx : Nat) (K : AV → Heap → Nat → Kd → Prop) : Prop := match g with
    | .fn (.func f) first cap => WCall R f (first ++ args ++ cap) hp nx K
    | _ => False
@[congr] theorem callvP_nc {R g g' a a' hp nx K} (h : g = g') (h2 : a = a') : callvP R g a hp nx K = callvP R g' a' hp nx K := by rw [h, h2]
@[simp] theorem callvP_fn {f a b args} : callvP R (.fn (.func f) a b) args hp nx K = WCall R f (a ++ args ++ b) hp nx K := (rfl)
@[simp ↓] theorem WOp_callv {g args} : WOp R (.callv g args) ⟨tm, hp, nx⟩ K = callvP R (ev tm g) (args.map (ev tm)) hp nx K := by
  simp only [WOp, callvP]
  generalize ev tm g = x
  cases x <;> try rfl

def mvE (x : Option (AV × Heap × Nat)) (K : AV → Heap → Nat → Kd → Prop) : Prop := match x with | some (v, hp, nx) => K v hp nx .e | none => False
@[congr] theorem mvE_nc {x x'} (h : x = x') : mvE x K = mvE x' K := by rw [h]
@[simp ↓] theorem mvE_some {v hp nx} : mvE (some (v, hp, nx)) K = K v hp nx .e := (rfl)
@[simp ↓] theorem mvE_none : mvE none K = False := (rfl)
@[simp] theorem mvE_ite {p : Prop} [Decidable p] {v hp nx} : mvE (if p then some (v, hp, nx) else none) K = (p ∧ K v hp nx .e) := by
  split <;> rename_i h <;> simp [h]
/-- A block more. -/
def mvF (x : Option (AV × Heap × Nat)) (K : AV → Heap → Nat → Kd → Prop) : Prop := match x with | some (v, hp, nx) => K v hp nx .a | none => False
@[congr] theorem mvF_nc {x x'} (h : x = x') : mvF x K = mvF x' K := by rw [h]
@[simp ↓] theorem mvF_some {v hp nx} : mvF (some (v, hp, nx)) K = K v hp nx .a := (rfl)
@[simp ↓] theorem mvF_none : mvF none K = False := (rfl)
@[simp] theorem mvF_ite {p : Prop} [Decidable p] {v hp nx} : mvF (if p then some (v, hp, nx) else none) K = (p ∧ K v hp nx .a) := by
  split <;> rename_i h <;> simp [h]
theorem WOp_effOp {co : COp} (h1 : ∀ f a, co ≠ .call f a) (h2 : ∀ f a, co ≠ .callv f a) (h3 : evR tm hp co = none) (h4 : evP tm co = none) (h5 : kdE co = .e := by rfl) :
    WOp R co ⟨tm, hp, nx⟩ K = mvE (evE tm hp nx co) K := by
  unfold WOp
  split
  · exact absurd rfl (h1 _ _)
  · exact absurd rfl (h2 _ _)
  · simp only [h3, h4, h5]
    cases evE tm hp nx co <;> rfl
def allocA (z : List AV) (hp : Heap) (nx : Nat) : Option (AV × Heap × Nat) := some (.ptr nx 0 0, hupd hp nx (some [z]), nx + 1)
@[simp] theorem allocA_eq {z hp nx} : allocA z hp nx = some (.ptr nx 0 0, hupd hp nx (some [z]), nx + 1) := (rfl)
def boxA (x : AV) (hp : Heap) (nx : Nat) : Option (AV × Heap × Nat) := if x.cells.all AV.one = true then some (.ptr nx 0 0, hupd hp nx (some [x.cells]), nx + 1) else none
def storeL (l : Option (List AV)) (n r i o : Nat) (es : Blk) (y : AV) (hp : Heap) (nx : Nat) : Option (AV × Heap × Nat) := match l with
        | some l => if y.cells.length = n ∧ o + n ≤ l.length ∧ y.cells.all AV.one = true then
            some (.v undef, hupd hp r (some (es.set i (spliceL l o y.cells))), nx) else none
        | none => none
def storeB (b : Option Blk) (n r i o : Nat) (y : AV) (hp : Heap) (nx : Nat) : Option (AV × Heap × Nat) := match b with
      | some es => storeL es[i]? n r i o es y hp nx
      | none => none
def storeA (n : Nat) (x y : AV) (hp : Heap) (nx : Nat) : Option (AV × Heap × Nat) := match x with
    | .ptr r i o => storeB (hp r) n r i o y hp nx
    | _ => none
@[simp] theorem storeA_ptr {n r i o y} : storeA n (.ptr r i o) y hp nx = storeB (hp r) n r i o y hp nx := (rfl)
@[simp] theorem storeB_some {es : Blk} {n r i o y} : storeB (some es) n r i o y hp nx = storeL es[i]? n r i o es y hp nx := (rfl)
@[simp] theorem storeL_some {l n r i o y} {es : Blk} : storeL (some l) n r i o es y hp nx = if y.cells.length = n ∧ o + n ≤ l.length ∧ y.cells.all AV.one = true then
            some (.v undef, hupd hp r (some (es.set i (spliceL l o y.cells))), nx) else none := (rfl)
def appendA (sz bytes : Nat) (s x : AV) (hp : Heap) (nx : Nat) : Option (AV × Heap × Nat) := match elemsA hp sz x with
    | some new => if new.all (fun l => l.all AV.one) = true then appA sz bytes s new hp nx else none
    | none => none
@[simp] theorem appendA_rs {sz bytes s n z es c} (h : n = true ∨ z = sz) : appendA sz bytes s (.rs n z es c) hp nx = if es.all (fun l => l.all AV.one) = true then appA sz bytes s es hp nx else none := by
  simp only [appendA, elemsA, if_pos h]
@[simp] theorem appendA_str {bytes s l} : appendA 1 bytes s (.str l) hp nx = appA 1 bytes s (bytesOf l) hp nx := by
  have : (bytesOf l).all (fun l => l.all AV.one) = true := by simp only [bytesOf, List.all_map, List.all_eq_true]; intro x _; rfl
  simp only [appendA, elemsA, if_true, this]
def appzA (sz bytes : Nat) (zero : List AV) (s x : AV) (hp : Heap) (nx : Nat) : Option (AV × Heap × Nat) := match x with
    | .v (.int _ n) => if 0 ≤ n ∧ n * bytes ≤ 140737488355328 ∧ n ≤ 140737488355328 ∧ zero.length = sz ∧ zero.all AV.one = true then appA sz bytes s (List.replicate n.toNat zero) hp nx else none
    | _ => none
def copyA (sz : Nat) (d s : AV) (hp : Heap) (nx : Nat) : Option (AV × Heap × Nat) := match elemsA hp sz s with
    | some src => match d with
      | .sl r z i len _ => if z = sz then
          match hp r with
          | some es => if i + len ≤ es.length ∧ (src.take len).all (fun l => l.all AV.one) = true then
              some (.int .i64 (Nat.min src.length len), hupd hp r (some (spliceL es i (src.take len))), nx) else none
          | none => none
        else none
      | _ => none
    | none => none
def clearB (b : Option Blk) (r i len : Nat) (sz : Nat) (zero : List AV) (hp : Heap) (nx : Nat) : Option (AV × Heap × Nat) := match b with
    | some es => if i + len ≤ es.length ∧ zero.length = sz ∧ 0 < sz ∧ zero.all AV.one = true then some (.v (.tuple #[]), hupd hp r (some (spliceL es i (List.replicate len zero))), nx) else none
    | none => none
def clearA (sz : Nat) (zero : List AV) (x : AV) (hp : Heap) (nx : Nat) : Option (AV × Heap × Nat) := match x with
    | .sl r z i len _ => if z = sz then clearB (hp r) r i len sz zero hp nx else none
    | _ => none
def mksliceA (sz bytes : Nat) (zero : List AV) (len cap : AV) (hp : Heap) (nx : Nat) : Option (AV × Heap × Nat) := match len, cap with
    | .v (.int _ n), .v (.int _ c) => if 0 ≤ n ∧ n ≤ c ∧ c * bytes ≤ 140737488355328 ∧ c ≤ 140737488355328 then
        some (.sl nx sz 0 n.toNat (some c.toNat), hupd hp nx (some (List.replicate c.toNat zero)), nx + 1) else none
    | _, _ => none
def s2bA (x : AV) (hp : Heap) (nx : Nat) : Option (AV × Heap × Nat) := match x with
    | .str l => some (.sl nx 1 0 l.length none, hupd hp nx (some (bytesOf l)), nx + 1)
    | _ => none
def obsliceA (sz : Nat) (zero : List (List AV)) (parts : List (Nat × AV)) (hp : Heap) (nx : Nat) : Option (AV × Heap × Nat) := match fillS sz zero parts with
    | some es => some (.sl nx sz 0 es.length (some es.length), hupd hp nx (some es), nx + 1)
    | none => none
@[simp ↓] theorem WOp_alloc {z} : WOp R (.alloc z) ⟨tm, hp, nx⟩ K = mvF (allocA z hp nx) K := (rfl)
@[simp ↓] theorem WOp_box {x} : WOp R (.box x) ⟨tm, hp, nx⟩ K = mvF (boxA (ev tm x) hp nx) K := by
  show (match evE tm hp nx (.box x) with | some (v, hp, nx) => K v hp nx (kdE (.box x)) | none => False) = _
  simp only [evE, boxA]
  by_cases h : (ev tm x).cells.all AV.one = true
  · rw [if_pos h]; rfl
  · rw [if_neg h]; rfl
@[simp] theorem boxA_eq {x hp nx} : boxA x hp nx = if x.cells.all AV.one = true then some (.ptr nx 0 0, hupd hp nx (some [x.cells]), nx + 1) else none := (rfl)
@[simp ↓] theorem WOp_store {n x y} : WOp R (.store n x y) ⟨tm, hp, nx⟩ K = mvE (storeA n (ev tm x) (ev tm y) hp nx) K := WOp_effOp nofun nofun rfl rfl
@[simp ↓] theorem WOp_append {a b s x} : WOp R (.append a b s x) ⟨tm, hp, nx⟩ K = mvE (appendA a b (ev tm s) (ev tm x) hp nx) K := WOp_effOp nofun nofun rfl rfl
@[simp ↓] theorem WOp_appz {a b z s x} : WOp R (.appz a b z s x) ⟨tm, hp, nx⟩ K = mvE (appzA a b z (ev tm s) (ev tm x) hp nx) K := WOp_effOp nofun nofun rfl rfl
@[simp ↓] theorem WOp_copy {a d s} : WOp R (.copy a d s) ⟨tm, hp, nx⟩ K = mvE (copyA a (ev tm d) (ev tm s) hp nx) K := WOp_effOp nofun nofun rfl rfl
@[simp ↓] theorem WOp_clear {a z x} : WOp R (.clear a z x) ⟨tm, hp, nx⟩ K = mvE (clearA a z (ev tm x) hp nx) K := WOp_effOp nofun nofun rfl rfl
@[simp ↓] theorem WOp_mkslice {a b z l c} : WOp R (.mkslice a b z l c) ⟨tm, hp, nx⟩ K = mvE (mksliceA a b z (ev tm l) (ev tm c) hp nx) K := WOp_effOp nofun nofun rfl rfl
@[simp ↓] theorem WOp_s2b {x} : WOp R (.s2b x) ⟨tm, hp, nx⟩ K = mvE (s2bA (ev tm x) hp nx) K := WOp_effOp nofun nofun rfl rfl
@[simp ↓] theorem WOp_obslice {sz z ps} : WOp R (.bslice true sz z ps) ⟨tm, hp, nx⟩ K = mvE (obsliceA sz z (ps.map fun p => (p.1, ev tm p.2)) hp nx) K := WOp_effOp nofun nofun rfl rfl

def loadB (b : Option Blk) (i o : Nat) (n : Option Nat) : Option AV := match b with
      | some es => match es[i]? with
        | some l => partA l o n
        | none => none
      | none => none
def loadO (hp : Heap) (r i o : Nat) (n : Option Nat) : Option AV := loadB (hp r) i o n
@[simp] theorem loadO_eq {r i o n} : loadO hp r i o n = loadB (hp r) i o n := (rfl)
def partO (l : Option (List AV)) (o : Nat) (n : Option Nat) : Option AV := match l with
        | some l => partA l o n
        | none => none
@[simp] theorem partO_some {l o n} : partO (some l) o n = partA l o n := (rfl)
@[simp] theorem loadB_some {es : Blk} {i o n} : loadB (some es) i o n = partO es[i]? o n := (rfl)
def mvR (x : Option AV) (r : Nat) (hp : Heap) (nx : Nat) (K : AV → Heap → Nat → Kd → Prop) : Prop :=
  match x with | some v => K v hp nx (.r r) | none => False
@[congr] theorem mvR_nc {x x' r hp nx K} (h : x = x') : mvR x r hp nx K = mvR x' r hp nx K := by rw [h]
@[simp ↓] theorem mvR_some {v r} : mvR (some v) r hp nx K = K v hp nx (.r r) := (rfl)
@[simp ↓] theorem mvR_none {r} : mvR none r hp nx K = False := (rfl)
def loadP (x : AV) (n : Option Nat) (hp : Heap) (nx : Nat) (K : AV → Heap → Nat → Kd → Prop) : Prop :=
  match x with
  | AV.rp cells => mvA (partA cells 0 n) hp nx K
  | AV.ptr r i o => mvR (loadO hp r i o n) r hp nx K
  | _ => False
@[congr] theorem loadP_nc {x x' n hp nx K} (h : x = x') : loadP x n hp nx K = loadP x' n hp nx K := by rw [h]
@[simp] theorem loadP_rp {cells n} : loadP (.rp cells) n hp nx K = mvA (partA cells 0 n) hp nx K := (rfl)
@[simp] theorem loadP_ptr {r i o n} : loadP (.ptr r i o) n hp nx K = mvR (loadO hp r i o n) r hp nx K := (rfl)
@[simp ↓] theorem WOp_load {n x} : WOp R (.load n x) ⟨tm, hp, nx⟩ K = loadP (ev tm x) n hp nx K := by
  simp only [WOp, evP, evR, evE, loadP, mvA, mvR, loadO, loadB]
  cases ev tm x <;> simp only []
  · rename_i r i o
    cases hp r with
    | none => rfl
    | some es =>
      simp only []
      cases es[i]? with
      | none => rfl
      | some l =>
        simp only []
        cases partA l o n <;> rfl
  · rename_i cells; cases partA cells 0 n <;> rfl
def b2sP (x : AV) (hp : Heap) (nx : Nat) (K : AV → Heap → Nat → Kd → Prop) : Prop :=
  match x with
  | .rs nil sz es _ => mvA (if nil = true ∨ sz = 1 then (toBytes es).map .str else none) hp nx K
  | .sl r sz i len _ => mvR (match hp r with
      | some es => if sz = 1 ∧ i + len ≤ es.length then (toBytes ((es.drop i).take len)).map .str else none
      | none => none) r hp nx K
  | _ => False
@[congr] theorem b2sP_nc {x x' hp nx K} (h : x = x') : b2sP x hp nx K = b2sP x' hp nx K := by rw [h]
@[simp ↓] theorem WOp_b2s {x} : WOp R (.b2s x) ⟨tm, hp, nx⟩ K = b2sP (ev tm x) hp nx K := by
  simp only [WOp, evP, evR, evE, b2sP, mvA, mvR]
  cases ev tm x <;> simp only []
  · rename_i r sz i len cap
    cases hp r with
    | none => rfl
    | some es =>
      simp only []
      by_cases h : sz = 1 ∧ i + len ≤ es.length
      · simp only [h, and_self, if_true]
        cases toBytes ((es.drop i).take len) <;> rfl
      · simp only [h, if_false]
  · rename_i nil sz es cap
    split <;> rename_i h
    · simp only [h]
    · simp only [h]
end

/-! ### Types told, and what they are told for -/
section
variable {R : CallRel} {tm : Nat → AV} {hp : Heap} {nx : Nat} {K : AV → Heap → Nat → Kd → Prop}
@[simp ↓] theorem WOp_halt : WOp R .halt ⟨tm, hp, nx⟩ K = False := (rfl)
def tallocA (t : TypeId) (z : List AV) (hp : Heap) (nx : Nat) : Option (AV × Heap × Nat) := some (.ptr nx 0 0, hupd (hupd hp nx (some [z])) (nx + 1) (some [[.ty t z.length]]), nx + 2)
@[simp] theorem tallocA_eq {t z} : tallocA t z hp nx = some (.ptr nx 0 0, hupd (hupd hp nx (some [z])) (nx + 1) (some [[.ty t z.length]]), nx + 2) := (rfl)
def tlitA (t : TypeId) (sz : Nat) (zero : List (List AV)) (parts : List (Nat × AV)) (hp : Heap) (nx : Nat) : Option (AV × Heap × Nat) := match fillS sz zero parts with
    | some es => some (.sl nx sz 0 es.length (some es.length), hupd (hupd hp nx (some es)) (nx + 1) (some [[.ty t 0], []]), nx + 2)
    | none => none
@[simp ↓] theorem WOp_tlit {t sz z ps} : WOp R (.tlit t sz z ps) ⟨tm, hp, nx⟩ K = mvE (tlitA t sz z (ps.map fun p => (p.1, ev tm p.2)) hp nx) K := (rfl)
@[simp ↓] theorem WOp_talloc {t z} : WOp R (.talloc t z) ⟨tm, hp, nx⟩ K = mvE (tallocA t z hp nx) K := (rfl)
def eqpA (op : BinOp) (x y : AV) : Option AV := match x, y with
    | .v (.pointer none), .v (.pointer none) => eqA op true
    | .ptr .., .v (.pointer none) => eqA op false
    | .rp _, .v (.pointer none) => eqA op false
    | .ptr r i o, .ptr r' i' o' => if r = r' ∧ i = i' ∧ o = o' then eqA op true else none
    | _, _ => none
@[simp ↓] theorem WOp_eqp {op x y} : WOp R (.eqp op x y) ⟨tm, hp, nx⟩ K = mvA (eqpA op (ev tm x) (ev tm y)) hp nx K := WOp_pureOp nofun nofun rfl rfl
@[simp] theorem eqpA_nn {op} : eqpA op (.v (.pointer none)) (.v (.pointer none)) = eqA op true := (rfl)
@[simp] theorem eqpA_pn {op r i o} : eqpA op (.ptr r i o) (.v (.pointer none)) = eqA op false := (rfl)
@[simp] theorem eqpA_rn {op c} : eqpA op (.rp c) (.v (.pointer none)) = eqA op false := (rfl)
@[simp] theorem eqpA_pp {op r i o} : eqpA op (.ptr r i o) (.ptr r i o) = eqA op true := by simp [eqpA]
def sdataA (x : AV) : Option AV := match x with
    | .rs true _ _ _ => some (.v (.pointer none))
    | .sl r sz i len _ => if 0 < len ∧ sz = 1 then some (.ptr r i 0) else none
    | _ => none
@[simp ↓] theorem WOp_sdata {x} : WOp R (.sdata x) ⟨tm, hp, nx⟩ K = mvA (sdataA (ev tm x)) hp nx K := WOp_pureOp nofun nofun rfl rfl
@[simp] theorem sdataA_nil {z e c} : sdataA (.rs true z e c) = some (.v (.pointer none)) := (rfl)
@[simp] theorem sdataA_sl {r sz i len c} : sdataA (.sl r sz i len c) = if 0 < len ∧ sz = 1 then some (.ptr r i 0) else none := (rfl)
def touB (b : Option Blk) (r : Nat) (hp : Heap) (nx : Nat) (K : AV → Heap → Nat → Kd → Prop) : Prop := match b with
      | some ((_ :: _) :: _) => K (.ptr r 0 0) hp nx (.r r)
      | _ => False
def touP (x : AV) (hp : Heap) (nx : Nat) (K : AV → Heap → Nat → Kd → Prop) : Prop := match x with
    | .ptr r 0 0 => touB (hp r) r hp nx K
    | _ => False
@[congr] theorem touB_nc {b b' r hp nx K} (h : b = b') : touB b r hp nx K = touB b' r hp nx K := by rw [h]
@[congr] theorem touP_nc {x x' hp nx K} (h : x = x') : touP x hp nx K = touP x' hp nx K := by rw [h]
@[simp] theorem touP_ptr {r} : touP (.ptr r 0 0) hp nx K = touB (hp r) r hp nx K := (rfl)
@[simp] theorem touB_some {x l es r} : touB (some ((x :: l) :: es)) r hp nx K = K (.ptr r 0 0) hp nx (.r r) := (rfl)
@[simp ↓] theorem WOp_tou {x} : WOp R (.tou x) ⟨tm, hp, nx⟩ K = touP (ev tm x) hp nx K := by
  simp only [WOp, evP, evR, evE]
  generalize ev tm x = y
  cases y <;> try rfl
  rename_i r i o
  cases i <;> try rfl
  cases o <;> try rfl
  simp only [touP, touB]
  cases hp r with
  | none => rfl
  | some es =>
    match es with
    | [] => rfl
    | [] :: _ => rfl
    | (_ :: _) :: _ => rfl
/-! ### Maps -/
def lookC (res : Option (Option (Nat × AV))) (zero : AV) (ok : Bool) : Option AV := match res with
  | some (some (_, v)) => some (if ok then .tup [v, .bool true] else v)
  | some none => some (if ok then .tup [zero, .bool false] else zero)
  | none => none
@[simp] theorem lookC_some {i v zero ok} : lookC (some (some (i, v))) zero ok = some (if ok then .tup [v, .bool true] else v) := (rfl)
@[simp] theorem lookC_none {zero ok} : lookC (some none) zero ok = some (if ok then .tup [zero, .bool false] else zero) := (rfl)
def lookB (b : Option Blk) (lk : LK) (k zero : AV) (ok : Bool) : Option AV := match b with
  | some es => if keyA lk k = true then lookC (findM lk k es) zero ok else none
  | none => none
@[congr] theorem lookB_nc {b b' lk k zero ok} (h : b = b') : lookB b lk k zero ok = lookB b' lk k zero ok := by rw [h]
@[simp] theorem lookB_some {es lk k zero ok} : lookB (some es) lk k zero ok = if keyA lk k = true then lookC (findM lk k es) zero ok else none := (rfl)
@[simp] theorem keyA_i {q n} : keyA .i (.v (.int q n)) = true := (rfl)
@[simp] theorem keyA_s {l} : keyA .s (.str l) = true := (rfl)
@[simp] theorem keyA_b {b} : keyA .b (.v (.bool b)) = true := (rfl)
def lookP (lk : LK) (zero : AV) (ok : Bool) (m k : AV) (hp : Heap) (nx : Nat) (K : AV → Heap → Nat → Kd → Prop) : Prop := match m with
  | .mp r => mvR (lookB (hp r) lk k zero ok) r hp nx K
  | _ => False
@[congr] theorem lookP_nc {m m' k k' lk zero ok hp nx K} (h : m = m') (h2 : k = k') : lookP lk zero ok m k hp nx K = lookP lk zero ok m' k' hp nx K := by rw [h, h2]
@[simp] theorem lookP_mp {lk zero ok r k} : lookP lk zero ok (.mp r) k hp nx K = mvR (lookB (hp r) lk k zero ok) r hp nx K := (rfl)
@[simp ↓] theorem WOp_mlook {lk z ok m k} : WOp R (.mlook lk z ok m k) ⟨tm, hp, nx⟩ K = lookP lk z ok (ev tm m) (ev tm k) hp nx K := by
  simp only [WOp, evP, evR, evE, lookP]
  generalize ev tm m = y
  cases y <;> try rfl
  rename_i r
  simp only [lookB]
  cases hp r with
  | none => rfl
  | some es =>
    simp only []
    by_cases hk : keyA lk (ev tm k) = true
    · simp only [hk, if_true]
      cases findM lk (ev tm k) es with
      | none => rfl
      | some res =>
        cases res with
        | none => rfl
        | some p => obtain ⟨i, v⟩ := p; rfl
    · simp only [hk]; rfl
def mlenB (b : Option Blk) : Option AV := match b with
  | some es => some (.int .i64 es.length)
  | none => none
@[simp] theorem mlenB_some {es : Blk} : mlenB (some es) = some (.int .i64 es.length) := (rfl)
def mlenP (m : AV) (hp : Heap) (nx : Nat) (K : AV → Heap → Nat → Kd → Prop) : Prop := match m with
  | .mp r => mvR (mlenB (hp r)) r hp nx K
  | _ => False
@[congr] theorem mlenP_nc {m m' hp nx K} (h : m = m') : mlenP m hp nx K = mlenP m' hp nx K := by rw [h]
@[simp] theorem mlenP_mp {r} : mlenP (.mp r) hp nx K = mvR (mlenB (hp r)) r hp nx K := (rfl)
@[simp ↓] theorem WOp_mlen {m} : WOp R (.mlen m) ⟨tm, hp, nx⟩ K = mlenP (ev tm m) hp nx K := by
  simp only [WOp, evP, evR, evE, mlenP]
  generalize ev tm m = y
  cases y <;> try rfl
  rename_i r
  simp only [mlenB]
  cases hp r <;> rfl
def mkmapA (hp : Heap) (nx : Nat) : Option (AV × Heap × Nat) := some (.mp nx, hupd hp nx (some []), nx + 1)
@[simp] theorem mkmapA_eq {hp nx} : mkmapA hp nx = some (.mp nx, hupd hp nx (some []), nx + 1) := (rfl)
@[simp ↓] theorem WOp_mkmap : WOp R .mkmap ⟨tm, hp, nx⟩ K = mvF (mkmapA hp nx) K := (rfl)
def msetC (res : Option (Option (Nat × AV))) (r : Nat) (es : Blk) (k v : AV) (hp : Heap) (nx : Nat) : Option (AV × Heap × Nat) := match res with
  | some (some (i, _)) => some (.v undef, hupd hp r (some (es.set i [k, v])), nx)
  | some none => some (.v undef, hupd hp r (some (es ++ [[k, v]])), nx)
  | none => none
@[simp] theorem msetC_some {i x r es k v hp nx} : msetC (some (some (i, x))) r es k v hp nx = some (.v undef, hupd hp r (some (es.set i [k, v])), nx) := (rfl)
@[simp] theorem msetC_none {r es k v hp nx} : msetC (some none) r es k v hp nx = some (.v undef, hupd hp r (some (es ++ [[k, v]])), nx) := (rfl)
def msetB (b : Option Blk) (lk : LK) (r : Nat) (k v : AV) (hp : Heap) (nx : Nat) : Option (AV × Heap × Nat) := match b with
  | some es => if keyA lk k = true then msetC (findM lk k es) r es k v hp nx else none
  | none => none
@[simp] theorem msetB_some {es lk r k v hp nx} : msetB (some es) lk r k v hp nx = if keyA lk k = true then msetC (findM lk k es) r es k v hp nx else none := (rfl)
def msetA (lk : LK) (m k v : AV) (hp : Heap) (nx : Nat) : Option (AV × Heap × Nat) := match m with
  | .mp r => msetB (hp r) lk r k v hp nx
  | _ => none
@[simp] theorem msetA_mp {lk r k v hp nx} : msetA lk (.mp r) k v hp nx = msetB (hp r) lk r k v hp nx := (rfl)
theorem msetA_ev {lk m k v} : evE tm hp nx (.mset lk m k v) = msetA lk (ev tm m) (ev tm k) (ev tm v) hp nx := by
  simp only [evE, msetA]
  generalize ev tm m = y
  cases y <;> try rfl
@[simp ↓] theorem WOp_mset {lk m k v} : WOp R (.mset lk m k v) ⟨tm, hp, nx⟩ K = mvE (msetA lk (ev tm m) (ev tm k) (ev tm v) hp nx) K := by
  rw [← msetA_ev]; exact WOp_effOp nofun nofun rfl rfl
def ofuB (b : Option Blk) (t : TypeId) (k q : Nat) (hp : Heap) (nx : Nat) (K : AV → Heap → Nat → Kd → Prop) : Prop := match b with
      | some [[.ty t' k']] => t' = t ∧ k' = k ∧ K (.ptr q 0 0) hp nx (.r (q + 1))
      | _ => False
def ofuP (t : TypeId) (k : Nat) (x : AV) (hp : Heap) (nx : Nat) (K : AV → Heap → Nat → Kd → Prop) : Prop := match x with
    | .ptr q 0 0 => ofuB (hp (q + 1)) t k q hp nx K
    | _ => False
@[congr] theorem ofuB_nc {b b' t k q hp nx K} (h : b = b') : ofuB b t k q hp nx K = ofuB b' t k q hp nx K := by rw [h]
@[congr] theorem ofuP_nc {x x' t k hp nx K} (h : x = x') : ofuP t k x hp nx K = ofuP t k x' hp nx K := by rw [h]
@[simp] theorem ofuP_ptr {t k q} : ofuP t k (.ptr q 0 0) hp nx K = ofuB (hp (q + 1)) t k q hp nx K := (rfl)
@[simp] theorem ofuB_some {t k q t' k'} : ofuB (some [[.ty t' k']]) t k q hp nx K = (t' = t ∧ k' = k ∧ K (.ptr q 0 0) hp nx (.r (q + 1))) := (rfl)
@[simp ↓] theorem WOp_ofu {t k x} : WOp R (.ofu t k x) ⟨tm, hp, nx⟩ K = ofuP t k (ev tm x) hp nx K := by
  simp only [WOp, evP, evR, evE]
  generalize ev tm x = y
  cases y <;> try rfl
  rename_i q i o
  cases i <;> try rfl
  cases o <;> try rfl
  simp only [ofuP, ofuB]
  have key : ∀ b : Option Blk, (match (match b with | some [[.ty t' k']] => if t' = t ∧ k' = k then some (AV.ptr q 0 0, q + 1) else none | _ => none : Option (AV × Nat)) with | some (v, r) => K v hp nx (.r r) | none => False) =
      (match b with | some [[.ty t' k']] => t' = t ∧ k' = k ∧ K (.ptr q 0 0) hp nx (.r (q + 1)) | _ => False) := by
    intro b
    split
    · rename_i v r h
      split at h
      · split at h
        · rename_i hc
          simp only [Option.some.injEq, Prod.mk.injEq] at h
          obtain ⟨rfl, rfl⟩ := h
          simp [hc]
        · cases h
      · cases h
    · rename_i h
      split at h
      · split at h
        · cases h
        · rename_i t' k' hc
          exact (eq_false fun h => hc ⟨h.1, h.2.1⟩).symm
      · rfl
  exact key (hp (q + 1))
def tappB (b c : Option Blk) (t : TypeId) (q len : Nat) (new : Blk) (hp : Heap) (nx : Nat) : Option (AV × Heap × Nat) := match b, c with
      | some [[.ty t' k]], some es => if t' = t ∧ len ≤ es.length then
          if len + new.length ≤ es.length then some (.sl q 1 0 (len + new.length) none, hupd hp q (some (spliceL es len new)), nx)
          else if len + new.length ≤ 140737488355328 then
            some (.sl nx 1 0 (len + new.length) none, hupd (hupd (hupd hp q none) nx (some (es.take len ++ new))) (nx + 1) (some [[.ty t 0]]), nx + 2)
          else none
        else none
      | _, _ => none
def tappendA (t : TypeId) (s x : AV) (hp : Heap) (nx : Nat) : Option (AV × Heap × Nat) := match elemsA hp 1 x with
    | some new => if new.all (fun l => l.all AV.one) = true then tappA t s new hp nx else none
    | none => none
@[simp ↓] theorem WOp_tapp {t s x} : WOp R (.tapp t s x) ⟨tm, hp, nx⟩ K = mvE (tappendA t (ev tm s) (ev tm x) hp nx) K := WOp_effOp nofun nofun rfl rfl
@[simp] theorem tappendA_str {t s l} : tappendA t s (.str l) hp nx = tappA t s (bytesOf l) hp nx := by
  have : (bytesOf l).all (fun l => l.all AV.one) = true := by simp only [bytesOf, List.all_map, List.all_eq_true]; intro x _; rfl
  simp only [tappendA, elemsA, if_true, this]
@[simp] theorem tappendA_rs {t s n z es c} (h : n = true ∨ z = 1) : tappendA t s (.rs n z es c) hp nx = if es.all (fun l => l.all AV.one) = true then tappA t s es hp nx else none := by
  simp only [tappendA, elemsA, if_pos h]
def ustrB (b c : Option Blk) (t : TypeId) (q : Nat) (n : Int) (hp : Heap) (nx : Nat) : Option (AV × Heap × Nat) := match b, c with
      | some [[.ty t' _]], some es => if t' = t ∧ 0 < n ∧ n ≤ es.length ∧ n ≤ 9223372036854775807 then (toB8 (es.take n.toNat)).map fun l => (.str l, hupd hp q none, nx) else none
      | _, _ => none
def ustrA (t : TypeId) (x n : AV) (hp : Heap) (nx : Nat) : Option (AV × Heap × Nat) := match x, n with
    | .v (.pointer none), .v (.int .i64 0) => some (.str [], hp, nx)
    | .ptr q 0 0, .v (.int .i64 n) => ustrB (hp (q + 1)) (hp q) t q n hp nx
    | _, _ => none
@[simp] theorem ustrA_nil {t} : ustrA t (.v (.pointer none)) (.v (.int .i64 0)) hp nx = some (.str [], hp, nx) := (rfl)
@[simp] theorem ustrA_ptr {t q n} : ustrA t (.ptr q 0 0) (.v (.int .i64 n)) hp nx = ustrB (hp (q + 1)) (hp q) t q n hp nx := (rfl)
@[simp] theorem ustrB_some {t q n t' k es} : ustrB (some [[.ty t' k]]) (some es) t q n hp nx = if t' = t ∧ 0 < n ∧ n ≤ es.length ∧ n ≤ 9223372036854775807 then (toB8 (es.take n.toNat)).map fun l => (.str l, hupd hp q none, nx) else none := (rfl)
@[simp ↓] theorem WOp_ustr {t x n} : WOp R (.ustr t x n) ⟨tm, hp, nx⟩ K = mvE (ustrA t (ev tm x) (ev tm n) hp nx) K := WOp_effOp nofun nofun rfl rfl
end

/-! ### On values -/
section
@[simp] theorem b2sP_rs {nil sz es cap hp nx K} : b2sP (.rs nil sz es cap) hp nx K = mvA (if nil = true ∨ sz = 1 then (toBytes es).map .str else none) hp nx K := (rfl)
def b2sO (hp : Heap) (r sz i len : Nat) : Option AV := match hp r with
      | some es => if sz = 1 ∧ i + len ≤ es.length then (toBytes ((es.drop i).take len)).map .str else none
      | none => none
@[simp] theorem b2sP_sl {r sz i len cap hp nx K} : b2sP (.sl r sz i len cap) hp nx K = mvR (b2sO hp r sz i len) r hp nx K := (rfl)
theorem b2sO_at {hp : Heap} {r sz i len es} (h : hp r = some es) : b2sO hp r sz i len = if sz = 1 ∧ i + len ≤ es.length then (toBytes ((es.drop i).take len)).map .str else none := by simp only [b2sO, h]
@[simp] theorem toBytes_nil : toBytes [] = some [] := (rfl)
@[simp] theorem toBytes_one {n} : toBytes [[.v (.int .u8 n)]] = some [UInt8.ofNat n.toNat] := (rfl)
@[simp] theorem bsliceA_eq {sz z ps} : bsliceA sz z ps = (fillS sz z ps).map fun es => .rs false sz es (some es.length) := (rfl)
@[simp] theorem buildA_eq {z ps} : buildA z ps = (fillA z ps).map .agg := (rfl)
theorem toBytes_bytesOf : ∀ l : List UInt8, toBytes (bytesOf l) = some l
  | [] => rfl
  | b :: l => by
    have ih := toBytes_bytesOf l
    simp only [bytesOf, List.map_cons, toBytes, byteCell] at ih ⊢
    rw [ih]; simp
@[simp] theorem pickA_b {t a b} : pickA (.v (.bool t)) a b = some (if t then a else b) := (rfl)
@[simp] theorem faddA_ptr {r i o off} : faddA (.ptr r i o) off = some (.ptr r i (o + off)) := (rfl)
@[simp] theorem faddA_rp {cs off} : faddA (.rp cs) off = some (.rp (cs.drop off)) := (rfl)
@[simp] theorem slenA_str {s} : slenA (.str s) = some (.int .i64 s.length) := (rfl)
@[simp] theorem lenA_sl {a b c d e} : lenA (.sl a b c d e) = some (.int .i64 d) := (rfl)
@[simp] theorem lenA_rs {a b c d} : lenA (.rs a b c d) = some (.int .i64 c.length) := (rfl)
@[simp] theorem capA_sl {a b c d e} : capA (.sl a b c d (some e)) = some (.int .i64 e) := (rfl)
@[simp] theorem capA_rs {a b c d} : capA (.rs a b c (some d)) = some (.int .i64 d) := (rfl)
@[simp] theorem fieldVA_agg {off n cs} : fieldVA off n (.agg cs) = partA cs off n := (rfl)
@[simp] theorem extA_tup {vs i} : extA (.tup vs) i = vs[i]? := (rfl)
@[simp] theorem iaddrA_sl {n r sz j len cap k i} : iaddrA n (.sl r sz j len cap) (.v (.int k i)) = if sz = n ∧ 0 ≤ i ∧ i < len then some (.ptr r (j + i.toNat) 0) else none := (rfl)
@[simp] theorem iaddrA_rs {n nil sz es cap k i} : iaddrA n (.rs nil sz es cap) (.v (.int k i)) = if sz = n ∧ 0 ≤ i then (es[i.toNat]?).map .rp else none := (rfl)
@[simp] theorem sidxA_str {s k i} : sidxA (.str s) (.v (.int k i)) = if 0 ≤ i then (s[i.toNat]?).map fun b => .int .u8 b.toNat else none := (rfl)
@[simp] theorem nilckA_ptr {r i o} : nilckA (.ptr r i o) = some (.ptr r i o) := (rfl)
@[simp] theorem nilckA_rp {c} : nilckA (.rp c) = some (.rp c) := (rfl)
@[simp] theorem nilckA_fn {f a b} : nilckA (.fn (.func f) a b) = some (.fn (.func f) a b) := (rfl)
@[simp] theorem eqbA_eql {a b} : eqbA .eql (.v (.bool a)) (.v (.bool b)) = some (.bool (a == b)) := (rfl)
@[simp] theorem eqbA_neq {a b} : eqbA .neq (.v (.bool a)) (.v (.bool b)) = some (.bool (!(a == b))) := (rfl)
@[simp] theorem eqnA_rs {op n sz es cap a b c} : eqnA op (.rs n sz es cap) (.rs true a b c) = eqA op n := (rfl)
@[simp] theorem eqnA_sl {op r sz i l cap a b c} : eqnA op (.sl r sz i l cap) (.rs true a b c) = eqA op false := (rfl)
@[simp] theorem eqA_eql {b} : eqA .eql b = some (.bool b) := (rfl)
@[simp] theorem eqA_neq {b} : eqA .neq b = some (.bool (!b)) := (rfl)
@[simp] theorem eqsA_agg {g ks a b} : eqsA g ks (.agg a) (.agg b) = (eqCells ks a b).map fun q => .bool (if g then !q else q) := (rfl)
@[simp] theorem eqCells_nil : eqCells [] [] [] = some true := (rfl)
def andO (p q : Option Bool) : Option Bool := match p, q with
    | some p, some q => some (p && q)
    | _, _ => none
@[simp] theorem andO_some {p q} : andO (some p) (some q) = some (p && q) := (rfl)
@[simp] theorem eqCells_cons {k ks a x b y} : eqCells (k :: ks) (a :: x) (b :: y) = andO (eqCell k a b) (eqCells ks x y) := by
  simp only [eqCells, andO]
  cases eqCell k a b <;> cases eqCells ks x y <;> rfl
@[simp] theorem eqCell_i {k a b} : eqCell .i (.v (.int k a)) (.v (.int k b)) = some (decide (a = b)) := by simp [eqCell]
@[simp] theorem eqCell_s {a b} : eqCell .s (.str a) (.str b) = some (decide (a = b)) := (rfl)
@[simp] theorem eqCell_b {a b} : eqCell .b (.v (.bool a)) (.v (.bool b)) = some (a == b) := (rfl)
@[simp] theorem convA_int {k k' n} : convA k (.v (.int k' n)) = some (.int k (k.wrap n)) := (rfl)
@[simp] theorem cstrA_str {l} : cstrA (.str l) = some (.str l) := (rfl)
@[simp] theorem r2sA_int {k n} : r2sA (.v (.int k n)) = some (.str (Utf8.encode n).data.toList) := (rfl)
@[simp] theorem minA_int {k a b} : minA (.v (.int k a)) (.v (.int k b)) = some (.int k (min a b)) := by
  have : (if b < a then b else a) = min a b := by split <;> omega
  simp only [minA, this]
@[simp] theorem maxA_int {k a b} : maxA (.v (.int k a)) (.v (.int k b)) = some (.int k (max a b)) := by
  have : (if b > a then b else a) = max a b := by split <;> omega
  simp only [maxA, this]
@[simp] theorem unA_neg {k n} : unA .neg (.v (.int k n)) = some (.int k (k.wrap (0 - n))) := (rfl)
@[simp] theorem unA_not {b} : unA .not (.v (.bool b)) = some (.bool (!b)) := (rfl)
@[simp] theorem binA_add {k a b} : binA .add (.v (.int k a)) (.v (.int k b)) = some (.int k (k.wrap (a + b))) := by simp [binA, intA]
@[simp] theorem binA_sub {k a b} : binA .sub (.v (.int k a)) (.v (.int k b)) = some (.int k (k.wrap (a - b))) := by simp [binA, intA]
@[simp] theorem binA_mul {k a b} : binA .mul (.v (.int k a)) (.v (.int k b)) = some (.int k (k.wrap (a * b))) := by simp [binA, intA]
@[simp] theorem binA_quo {k a b} : binA .quo (.v (.int k a)) (.v (.int k b)) = if b = 0 then none else some (.int k (k.wrap (a.tdiv b))) := by simp [binA, intA]
@[simp] theorem binA_rem {k a b} : binA .rem (.v (.int k a)) (.v (.int k b)) = if b = 0 then none else some (.int k (a.tmod b)) := by simp [binA, intA]
@[simp] theorem binA_and {k a b} : binA .and (.v (.int k a)) (.v (.int k b)) = some (.int k (k.wrap (BitVec.ofInt k.bits a &&& BitVec.ofInt k.bits b).toNat)) := by simp [binA, intA]
@[simp] theorem binA_or {k a b} : binA .or (.v (.int k a)) (.v (.int k b)) = some (.int k (k.wrap (BitVec.ofInt k.bits a ||| BitVec.ofInt k.bits b).toNat)) := by simp [binA, intA]
@[simp] theorem binA_shl {k k' a b} : binA .shl (.v (.int k a)) (.v (.int k' b)) = shA .shl k a b := (rfl)
@[simp] theorem binA_shr {k k' a b} : binA .shr (.v (.int k a)) (.v (.int k' b)) = shA .shr k a b := (rfl)
@[simp] theorem binA_lss {k a b} : binA .lss (.v (.int k a)) (.v (.int k b)) = some (.bool (decide (a < b))) := by simp [binA, intA]
@[simp] theorem binA_leq {k a b} : binA .leq (.v (.int k a)) (.v (.int k b)) = some (.bool (decide (a ≤ b))) := by simp [binA, intA]
@[simp] theorem binA_gtr {k a b} : binA .gtr (.v (.int k a)) (.v (.int k b)) = some (.bool (decide (b < a))) := by simp [binA, intA]
@[simp] theorem binA_geq {k a b} : binA .geq (.v (.int k a)) (.v (.int k b)) = some (.bool (decide (b ≤ a))) := by simp [binA, intA]
@[simp] theorem binA_eql {k a b} : binA .eql (.v (.int k a)) (.v (.int k b)) = some (.bool (decide (a = b))) := by simp [binA, intA]
@[simp] theorem binA_neq {k a b} : binA .neq (.v (.int k a)) (.v (.int k b)) = some (.bool (!decide (a = b))) := by simp [binA, intA]
@[simp] theorem binA_strOp {op a b} : binA op (.str a) (.str b) = strA op a b := by cases op <;> rfl
@[simp] theorem strA_add {a b} : strA .add a b = if a.length + b.length ≤ 9223372036854775807 then some (.str (a ++ b)) else none := (rfl)
@[simp] theorem strA_eql {a b} : strA .eql a b = some (.bool (decide (a = b))) := (rfl)
@[simp] theorem strA_neq {a b} : strA .neq a b = some (.bool (!decide (a = b))) := (rfl)
@[simp] theorem strA_lss {a b} : strA .lss a b = some (.bool (strLt a b)) := (rfl)
@[simp] theorem strA_leq {a b} : strA .leq a b = some (.bool (strLt a b || decide (a = b))) := (rfl)
@[simp] theorem strA_gtr {a b} : strA .gtr a b = some (.bool (!(strLt a b || decide (a = b)))) := (rfl)
@[simp] theorem strA_geq {a b} : strA .geq a b = some (.bool (!strLt a b)) := (rfl)
@[simp] theorem partA_none {l o} : partA l o none = l[o]? := (rfl)
@[simp] theorem partA_some {l o n} : partA l o (some n) = if o + n ≤ l.length then some (.agg ((l.drop o).take n)) else none := (rfl)
@[simp] theorem cells_agg {l} : AV.cells (.agg l) = l := (rfl)
@[simp] theorem cells_v {x} : AV.cells (.v x) = [.v x] := (rfl)
@[simp] theorem cells_str {l} : AV.cells (.str l) = [.str l] := (rfl)
@[simp] theorem cells_rs {a b c d} : AV.cells (.rs a b c d) = [.rs a b c d] := (rfl)
@[simp] theorem cells_sl {a b c d e} : AV.cells (.sl a b c d e) = [.sl a b c d e] := (rfl)
@[simp] theorem cells_ptr {a b c} : AV.cells (.ptr a b c) = [.ptr a b c] := (rfl)
@[simp] theorem cells_rp {a} : AV.cells (.rp a) = [.rp a] := (rfl)
@[simp] theorem cells_fn {a b c} : AV.cells (.fn a b c) = [.fn a b c] := (rfl)
@[simp] theorem one_str {l} : AV.one (.str l) = true := (rfl)
@[simp] theorem one_rs {a b c d} : AV.one (.rs a b c d) = true := (rfl)
@[simp] theorem one_sl {a b c d e} : AV.one (.sl a b c d e) = true := (rfl)
@[simp] theorem one_ptr {a b c} : AV.one (.ptr a b c) = true := (rfl)
@[simp] theorem one_rp {a} : AV.one (.rp a) = true := (rfl)
@[simp] theorem one_fn {a b c} : AV.one (.fn a b c) = true := (rfl)
@[simp] theorem one_int {k n} : AV.one (.v (.int k n)) = true := (rfl)
@[simp] theorem one_bool {k} : AV.one (.v (.bool k)) = true := (rfl)
@[simp] theorem fillA_nil {z} : fillA z [] = some z := (rfl)
@[simp] theorem fillA_cons {z off n x r} : fillA z ((off, n, x) :: r) = if x.cells.length = n ∧ off + n ≤ z.length ∧ x.cells.all AV.one = true then fillA (spliceL z off x.cells) r else none := (rfl)
@[simp] theorem fillS_nil {n z} : fillS n z [] = some z := (rfl)
@[simp] theorem fillS_cons {sz z i x r} : fillS sz z ((i, x) :: r) = if x.cells.length = sz ∧ i < z.length ∧ x.cells.all AV.one = true then fillS sz (z.set i x.cells) r else none := (rfl)
@[simp] theorem hupd_apply {h : Heap} {r b x} : hupd h r b x = if x = r then b else h x := (rfl)
@[simp] theorem hnil_apply {r} : hnil r = none := (rfl)
@[simp] theorem resA_one {r s} : resA [r] s = resOne s r := (rfl)
@[simp] theorem resA_nil {s} : resA [] s = some (.tup []) := (rfl)
@[simp] theorem resA_two {a b r s} : resA (a :: b :: r) s = (mapO (resOne s) (a :: b :: r)).map .tup := (rfl)
@[simp] theorem resOne_t {tm hp nx n} : resOne ⟨tm, hp, nx⟩ (.t n) = some (tm n) := (rfl)
def cellO (hp : Heap) (x : AV) (n : Option Nat) : Option AV := match x with
    | .ptr r i o => loadO hp r i o n
    | .rp cells => partA cells 0 n
    | _ => none
@[simp] theorem cellO_ptr {hp r i o n} : cellO hp (.ptr r i o) n = loadO hp r i o n := (rfl)
@[simp] theorem cellO_rp {hp c n} : cellO hp (.rp c) n = partA c 0 n := (rfl)
@[simp] theorem resOne_cell {tm hp nx a n} : resOne ⟨tm, hp, nx⟩ (.cell a n) = cellO hp (tm a) n := by
  simp only [resOne, cellO]; cases tm a <;> rfl
def consO {β : Type} (a : Option β) (b : Option (List β)) : Option (List β) := match a, b with
  | some y, some l => some (y :: l)
  | _, _ => none
@[simp] theorem consO_some {β : Type} {a : β} {b : List β} : consO (some a) (some b) = some (a :: b) := (rfl)
@[simp] theorem mapO_nil {α β : Type} {f : α → Option β} : mapO f [] = some [] := (rfl)
@[simp] theorem mapO_cons {α β : Type} {f : α → Option β} {x r} : mapO f (x :: r) = consO (f x) (mapO f r) := by
  simp only [mapO, consO]; cases f x <;> cases mapO f r <;> rfl
@[simp] theorem ended_normal : Ended .normal = True := by simp [Ended]
@[simp] theorem ended_ret : Ended .ret = True := by simp [Ended]
@[simp] theorem closed_v {x} : AV.closed (.v x) = true := by simp [AV.closed]
@[simp] theorem closed_str {x} : AV.closed (.str x) = true := by simp [AV.closed]
@[simp] theorem closed_rs {a b c d} : AV.closed (.rs a b c d) = closedLL c := by simp [AV.closed]
@[simp] theorem closed_sl {a b c d e} : AV.closed (.sl a b c d e) = false := by simp [AV.closed]
@[simp] theorem closed_ptr {a b c} : AV.closed (.ptr a b c) = false := by simp [AV.closed]
@[simp] theorem closed_agg {c} : AV.closed (.agg c) = closedL c := by simp [AV.closed]
@[simp] theorem closed_tup {c} : AV.closed (.tup c) = closedL c := by simp [AV.closed]
@[simp] theorem closed_fn {f a b} : AV.closed (.fn f a b) = (closedL a && closedL b) := by simp [AV.closed]
@[simp] theorem closedL_nil : closedL [] = true := by simp [closedL]
@[simp] theorem closedL_cons {x r} : closedL (x :: r) = (x.closed && closedL r) := by simp [closedL]
@[simp] theorem closedLL_nil : closedLL [] = true := by simp [closedLL]
@[simp] theorem closedLL_cons {x r} : closedLL (x :: r) = (closedL x && closedLL r) := by simp [closedLL]
theorem frz_closed {n hp x} (h : x.closed = true) : frz (n + 1) hp x = some x := by simp [frz, h]
@[simp] theorem frz_v {n hp x} : frz (n + 1) hp (.v x) = some (.v x) := frz_closed closed_v
@[simp] theorem frz_str {n hp x} : frz (n + 1) hp (.str x) = some (.str x) := frz_closed closed_str

/-- A call of what gives back just a value. -/
theorem WCall_p {R f args hp nx v K} (h : R f args hp nx v hp nx .p) (k : K v hp nx .p) : WCall R f args hp nx K := ⟨v, hp, nx, .p, h, k⟩
theorem WCall_k {R f args hp nx v hp' nx' k K} (h : R f args hp nx v hp' nx' k) (q : K v hp' nx' k) : WCall R f args hp nx K := ⟨v, hp', nx', k, h, q⟩
/-- A loop whose rounds' heads are told by a ghost value. -/
def loopK {ι : Type} (I : ι → St → Prop) (μ : ι → Nat) (i : ι) (Q : CExit → St → Prop) (e : CExit) (s : St) : Prop :=
  match e with
  | .normal => ∃ j, μ j < μ i ∧ I j s
  | e => Q e s
@[simp ↓] theorem loopK_normal {ι : Type} {I : ι → St → Prop} {μ i Q s} : loopK I μ i Q .normal s = ∃ j, μ j < μ i ∧ I j s := (rfl)
@[simp ↓] theorem loopK_ret {ι : Type} {I : ι → St → Prop} {μ i Q s} : loopK I μ i Q .ret s = Q .ret s := (rfl)
@[simp ↓] theorem loopK_exit {ι : Type} {I : ι → St → Prop} {μ i Q s x} : loopK I μ i Q (.exit x) s = Q (.exit x) s := (rfl)
theorem W_loopI {R : CallRel} {a : CCode} {Q : CExit → St → Prop} {ι : Type} (I : ι → St → Prop) (μ : ι → Nat) (i : ι) {s : St} (h0 : I i s)
    (round : ∀ i tm hp nx, I i ⟨tm, hp, nx⟩ → W R a (loopK I μ i Q) ⟨tm, hp, nx⟩) : W R (.loop a) Q s := by
  -- the ghost value chosen with the state
  have key : ∀ m i s, μ i = m → I i s → ∃ n, loopN (W R a) Q n s := by
    intro m
    induction m using Nat.strongRecOn with
    | _ m ih =>
      intro i s hm hI
      obtain ⟨tm, hp, nx⟩ := s
      have h1 := round i tm hp nx hI
      -- through 'W_loop', with the state's own measure hidden in 'Acc': continuity
      let G : Nat → CExit → St → Prop := fun n e s' => match e with | .normal => loopN (W R a) Q n s' | e => Q e s'
      have h2 : W (fun f a h x v h' x' k => ∃ n : Nat, R f a h x v h' x' k) a (fun e s' => ∃ n, G n e s') ⟨tm, hp, nx⟩ := by
        refine W_mono (fun _ _ _ _ _ _ _ _ h => ⟨0, h⟩) a _ _ _ (fun e s' h => ?_) h1
        cases e with
        | normal =>
          obtain ⟨j, h3, h4⟩ := h
          exact ih (μ j) (by omega) j s' rfl h4
        | exit i => exact ⟨0, h⟩
        | ret => exact ⟨0, h⟩
      obtain ⟨n, h3⟩ := W_cont (R := fun _ => R) (fun _ _ _ _ _ _ _ _ _ _ _ h => h) a ⟨tm, hp, nx⟩ (Q := G) (by
        intro m n hmn e s h
        cases e with
        | normal =>
          have : ∀ m n, m ≤ n → ∀ s, loopN (W R a) Q m s → loopN (W R a) Q n s := by
            intro m
            induction m with
            | zero => intro n _ s h; exact h.elim
            | succ m ihm =>
              intro n hn s h
              obtain ⟨n, rfl⟩ : ∃ n', n = n' + 1 := ⟨n - 1, by omega⟩
              simp only [loopN] at *
              refine W_mono (fun _ _ _ _ _ _ _ _ h => h) a _ _ s (fun e s h => ?_) h
              cases e with
              | normal => exact ihm n (by omega) s h
              | exit i => exact h
              | ret => exact h
          exact this m n hmn s h
        | exit i => exact h
        | ret => exact h) h2
      exact ⟨n + 1, h3⟩
  unfold W
  exact key _ i s rfl h0
theorem wrap_id {n : Int} (h1 : -9223372036854775808 ≤ n) (h2 : n ≤ 9223372036854775807) : IntKind.wrap .i64 n = n := by
  have : IntKind.wrap .i64 n = (n + 9223372036854775808) % 18446744073709551616 - 9223372036854775808 := by
    simp only [IntKind.wrap, IntKind.bits, IntKind.signed]; simp; omega
  omega
end

/-! ### What a walk comes to -/
theorem WOp_ex' {R : CallRel} {co : COp} {s : St} {K : AV → Heap → Nat → Kd → Prop} (h : WOp R co s K) : ∃ v hp nx k, WOp R co s (fun v' hp' nx' k' => v' = v ∧ hp' = hp ∧ nx' = nx ∧ k' = k) ∧ K v hp nx k := by
  unfold WOp at h ⊢
  split at h
  · obtain ⟨v, hp, nx, k, hr, hk⟩ := h
    exact ⟨v, hp, nx, k, ⟨v, hp, nx, k, hr, rfl, rfl, rfl, rfl⟩, hk⟩
  · split at h
    · obtain ⟨v, hp, nx, k, hr, hk⟩ := h
      exact ⟨v, hp, nx, k, ⟨v, hp, nx, k, hr, rfl, rfl, rfl, rfl⟩, hk⟩
    · exact h.elim
  · split at h
    · exact ⟨_, _, _, _, ⟨rfl, rfl, rfl, rfl⟩, h⟩
    · split at h
      · exact ⟨_, _, _, _, ⟨rfl, rfl, rfl, rfl⟩, h⟩
      · split at h
        · exact ⟨_, _, _, _, ⟨rfl, rfl, rfl, rfl⟩, h⟩
        · exact h.elim
theorem WOps_ex {R : CallRel} : ∀ (ops : List COper) (s : St) {Q : St → Prop}, WOps R ops s Q → ∃ s', Q s' ∧ WOps R ops s (fun x => x = s')
  | [], s, Q, h => ⟨s, h, rfl⟩
  | o :: rest, s, Q, h => by
    unfold WOps at h ⊢
    split at h
    · obtain ⟨v, hp, nx, k, h1, h2⟩ := WOp_ex' h
      obtain ⟨s', q, h3⟩ := WOps_ex rest _ h2
      exact ⟨s', q, WOp_mono (fun _ _ _ _ _ _ _ _ h => h) (by rintro v' hp' nx' k' ⟨rfl, rfl, rfl, rfl⟩; exact h3) h1⟩
    · exact WOps_ex rest _ h
    · exact h.elim
theorem WDraw_ex {R : CallRel} : ∀ (ops : List COper) (s : St) (recs : List Rec) {Q : St → List Rec → Prop}, WDraw R ops s recs Q → ∃ s' r', Q s' r' ∧ WDraw R ops s recs (fun x y => x = s' ∧ y = r')
  | [], s, recs, Q, h => ⟨s, recs, h, rfl, rfl⟩
  | o :: rest, s, recs, Q, h => by
    unfold WDraw at h ⊢
    split at h
    · obtain ⟨v, hp, nx, k, h1, h2⟩ := WOp_ex' h
      obtain ⟨s', r', q, h3⟩ := WDraw_ex rest _ _ h2
      exact ⟨s', r', q, WOp_mono (fun _ _ _ _ _ _ _ _ h => h) (by rintro v' hp' nx' k' ⟨rfl, rfl, rfl, rfl⟩; exact h3) h1⟩
    · exact WDraw_ex rest _ _ h
    · exact h.elim
theorem W_ex {R : CallRel} : ∀ (c : CCode) (s : St) {Q : CExit → St → Prop}, W R c Q s → ∃ e s', Q e s' ∧ W R c (fun x y => x = e ∧ y = s') s
  | .skip, s, Q, h => ⟨_, _, h, rfl, rfl⟩
  | .region ops, s, Q, h => by
    obtain ⟨s', q, h2⟩ := WOps_ex ops s h
    exact ⟨_, _, q, WOps_mono (fun _ _ _ _ _ _ _ _ h => h) ops s (fun x hx => ⟨rfl, hx⟩) h2⟩
  | .draw pre ops, s, Q, h => by
    obtain ⟨s', r', ⟨hc, q⟩, h2⟩ := WDraw_ex ops s [] h
    exact ⟨_, _, q, WDraw_mono (fun _ _ _ _ _ _ _ _ h => h) ops s [] (fun x r hx => ⟨by rw [hx.2]; exact hc, rfl, hx.1⟩) h2⟩
  | .seq a b, s, Q, h => by
    unfold W at h
    obtain ⟨e, s', q, h2⟩ := W_ex a s h
    cases e with
    | normal =>
      obtain ⟨e2, s2, q2, h3⟩ := W_ex b s' q
      refine ⟨e2, s2, q2, ?_⟩
      unfold W
      exact W_mono (fun _ _ _ _ _ _ _ _ h => h) a _ _ s (by rintro x y ⟨rfl, rfl⟩; exact h3) h2
    | exit i => refine ⟨_, _, q, ?_⟩; unfold W; exact W_mono (fun _ _ _ _ _ _ _ _ h => h) a _ _ s (by rintro x y ⟨rfl, rfl⟩; exact ⟨rfl, rfl⟩) h2
    | ret => refine ⟨_, _, q, ?_⟩; unfold W; exact W_mono (fun _ _ _ _ _ _ _ _ h => h) a _ _ s (by rintro x y ⟨rfl, rfl⟩; exact ⟨rfl, rfl⟩) h2
  | .cond c a b, s, Q, h => by
    unfold W at h ⊢
    split at h
    · split at h
      · rename_i ht
        obtain ⟨e, s', q, h2⟩ := W_ex a s h
        exact ⟨e, s', q, by rw [if_pos ht]; exact h2⟩
      · rename_i ht
        obtain ⟨e, s', q, h2⟩ := W_ex b s h
        exact ⟨e, s', q, by rw [if_neg ht]; exact h2⟩
    · exact h.elim
  | .block id a, s, Q, h => by
    unfold W at h
    obtain ⟨e, s', q, h2⟩ := W_ex a s h
    cases e with
    | normal => refine ⟨_, _, q, ?_⟩; unfold W; exact W_mono (fun _ _ _ _ _ _ _ _ h => h) a _ _ s (by rintro x y ⟨rfl, rfl⟩; exact ⟨rfl, rfl⟩) h2
    | ret => refine ⟨_, _, q, ?_⟩; unfold W; exact W_mono (fun _ _ _ _ _ _ _ _ h => h) a _ _ s (by rintro x y ⟨rfl, rfl⟩; exact ⟨rfl, rfl⟩) h2
    | exit i =>
      dsimp only at q
      split at q
      · rename_i hi; refine ⟨_, _, q, ?_⟩; unfold W; exact W_mono (fun _ _ _ _ _ _ _ _ h => h) a _ _ s (by rintro x y ⟨rfl, rfl⟩; simp [hi]) h2
      · rename_i hi; refine ⟨_, _, q, ?_⟩; unfold W; exact W_mono (fun _ _ _ _ _ _ _ _ h => h) a _ _ s (by rintro x y ⟨rfl, rfl⟩; simp [hi]) h2
  | .loop a, s, Q, h => by
    unfold W at h ⊢
    obtain ⟨n, h⟩ := h
    have key : ∀ n s, loopN (W R a) Q n s → ∃ e s', Q e s' ∧ loopN (W R a) (fun x y => x = e ∧ y = s') n s := by
      intro n
      induction n with
      | zero => intro s h; exact h.elim
      | succ n ih =>
        intro s h
        simp only [loopN] at h
        obtain ⟨e, s', q, h2⟩ := W_ex a s h
        cases e with
        | normal =>
          obtain ⟨e2, s2, q2, h3⟩ := ih s' q
          exact ⟨e2, s2, q2, W_mono (fun _ _ _ _ _ _ _ _ h => h) a _ _ s (by rintro x y ⟨rfl, rfl⟩; exact h3) h2⟩
        | exit i => exact ⟨_, _, q, W_mono (fun _ _ _ _ _ _ _ _ h => h) a _ _ s (by rintro x y ⟨rfl, rfl⟩; exact ⟨rfl, rfl⟩) h2⟩
        | ret => exact ⟨_, _, q, W_mono (fun _ _ _ _ _ _ _ _ h => h) a _ _ s (by rintro x y ⟨rfl, rfl⟩; exact ⟨rfl, rfl⟩) h2⟩
    obtain ⟨e, s', q, h2⟩ := key n s h
    exact ⟨e, s', q, n, h2⟩
  | .exit id, s, Q, h => ⟨_, _, h, rfl, rfl⟩
  | .ret, s, Q, h => ⟨_, _, h, rfl, rfl⟩

/-- What a pure call ends with. -/
def pureQ (res : List RV) (v : AV) (e : CExit) (s : St) : Prop := Ended e ∧ ∃ v1, resA res s = some v1 ∧ frz 6 s.hp v1 = some v
@[simp ↓] theorem pureQ_ret {res v tm hp nx} : pureQ res v .ret ⟨tm, hp, nx⟩ = ∃ v1, resA res ⟨tm, hp, nx⟩ = some v1 ∧ frz 6 hp v1 = some v := by simp [pureQ]
@[simp ↓] theorem pureQ_normal {res v tm hp nx} : pureQ res v .normal ⟨tm, hp, nx⟩ = ∃ v1, resA res ⟨tm, hp, nx⟩ = some v1 ∧ frz 6 hp v1 = some v := by simp [pureQ]
theorem Ret_pureQ {E : Env} {f : Nat} {cf : CFunc} {args : List AV} {v : AV} (hf : E.fn f = some cf) (hn : args.length = cf.np) (hc : closedL args = true)
    (h : W (Ret E) cf.body (pureQ cf.res v) (init args hnil 0)) (hp : Heap) (nx : Nat) :
    Ret E f args hp nx v hp nx .p := Ret_pure hf hn hc h hp nx

/-- A call over the caller's memory, with what it comes to. -/
def genQ (res : List RV) (P : AV → Heap → Nat → Prop) (e : CExit) (s : St) : Prop := Ended e ∧ ∃ v, resA res s = some v ∧ P v s.hp s.nx
@[simp ↓] theorem genQ_ret {res P tm hp nx} : genQ res P .ret ⟨tm, hp, nx⟩ = ∃ v, resA res ⟨tm, hp, nx⟩ = some v ∧ P v hp nx := by simp [genQ]
@[simp ↓] theorem genQ_normal {res P tm hp nx} : genQ res P .normal ⟨tm, hp, nx⟩ = ∃ v, resA res ⟨tm, hp, nx⟩ = some v ∧ P v hp nx := by simp [genQ]

theorem Ret_genE {E : Env} {f : Nat} {cf : CFunc} {args : List AV} {hp : Heap} {nx : Nat} {P : AV → Heap → Nat → Prop} (hf : E.fn f = some cf) (hn : args.length = cf.np)
    (h : W (Ret E) cf.body (genQ cf.res P) (init args hp nx)) :
    ∃ v hp' nx', Ret E f args hp nx v hp' nx' .e ∧ P v hp' nx' := by
  obtain ⟨e, s, hq, h2⟩ := W_ex _ _ h
  obtain ⟨he, v, hv, hP⟩ := hq
  exact ⟨v, s.hp, s.nx, Ret_gen hf hn (W_mono (fun _ _ _ _ _ _ _ _ h => h) _ _ _ _ (by rintro x y ⟨rfl, rfl⟩; exact ⟨he, hv, fun r => .inl rfl, rfl⟩) h2), hP⟩

/-- A pure call, with what is known of its value. -/
def pureEQ (res : List RV) (P : AV → Prop) (e : CExit) (s : St) : Prop := Ended e ∧ ∃ v1, resA res s = some v1 ∧ ∃ v, frz 6 s.hp v1 = some v ∧ P v
@[simp ↓] theorem pureEQ_ret {res P tm hp nx} : pureEQ res P .ret ⟨tm, hp, nx⟩ = ∃ v1, resA res ⟨tm, hp, nx⟩ = some v1 ∧ ∃ v, frz 6 hp v1 = some v ∧ P v := by simp [pureEQ]
@[simp ↓] theorem pureEQ_normal {res P tm hp nx} : pureEQ res P .normal ⟨tm, hp, nx⟩ = ∃ v1, resA res ⟨tm, hp, nx⟩ = some v1 ∧ ∃ v, frz 6 hp v1 = some v ∧ P v := by simp [pureEQ]
theorem Ret_pureE {E : Env} {f : Nat} {cf : CFunc} {args : List AV} {P : AV → Prop} (hf : E.fn f = some cf) (hn : args.length = cf.np) (hc : closedL args = true)
    (h : W (Ret E) cf.body (pureEQ cf.res P) (init args hnil 0)) : ∃ v, P v ∧ ∀ hp nx, Ret E f args hp nx v hp nx .p := by
  obtain ⟨e, s, hq, h2⟩ := W_ex _ _ h
  obtain ⟨he, v1, hv1, v, hv, hP⟩ := hq
  exact ⟨v, hP, fun hp nx => Ret_pure hf hn hc (W_mono (fun _ _ _ _ _ _ _ _ h => h) _ _ _ _ (by rintro x y ⟨rfl, rfl⟩; exact ⟨he, v1, hv1, hv⟩) h2) hp nx⟩
end Go.Ai
