/- Code, compiled: the run of the evaluator without a bound over compiled code, as equations for rewriting. No condition. -/
import Derived.Test.YtelmphlmhnipfaaAbLim
namespace Go.Ab

/-- An operation of a region that draws its order, in the order that is taken. -/
structure DI where
  i : Nat
  k : Kind
  c : CO
inductive CC where
  | skip
  | ops (l : List CO)
  | draw (ms : List Nat) (l : List DI)
  | seq (a b : CC)
  | cond (x : AR) (a b : CC)
  | block (id : Nat) (c : CC)
  | loop (c0 : Code) (c : CC)
  | range (g : AR) (ps : List Tmp) (asg body : Code)
  | exit (id : Nat)
  | ret
  | no

noncomputable def again' (ms : List Nat) (last : Option Nat) (M : Mem) : List (DI × T V × V) → Bool
  | [] => true
  | q :: r => br (br (oRec false (fun e => anc ms e q.1.i) last) true (Out.bind false (fun v _ => V.same v q.2.2) (q.1.c.x.ev ⟨fun _ _ _ _ _ _ => .no, fun _ _ _ => .no, fun _ _ _ => .no⟩ q.2.1 M))) (again' ms last M r) false
noncomputable def drawD (L : Rec) (ms : List Nat) : List DI → Option Nat → List (DI × T V × V) → T V → Mem → St
  | [], last, wl, tm, M => br (again' ms last M wl) (.ok tm M) .no
  | p :: r, last, wl, tm, M => match p.k with
    | .eff => br (again' ms last M wl) (Out.bind St.no (fun v M' => drawD L ms r (some p.i) wl (putD p.c.dst v tm) M') (p.c.ev L tm M)) .no
    | .read => Out.bind St.no (fun v M' => drawD L ms r last (br (is1 v) ((p, tm, v) :: wl) wl) (putD p.c.dst v tm) M') (p.c.ev L tm M)
    | _ => Out.bind St.no (fun v M' => drawD L ms r last wl (putD p.c.dst v tm) M') (p.c.ev L tm M)
def DI.of (p : PI) : DI := ⟨p.i, p.k, p.c⟩
theorem again_of (ms : List Nat) (last : Option Nat) (M : Mem) (wl : List (PI × T V × V)) : again ms last M wl = again' ms last M (wl.map fun q => (DI.of q.1, q.2)) := by
  induction wl with
  | nil => rfl
  | cons q r ih => show br _ (again ms last M r) false = br _ (again' ms last M _) false; rw [ih]; rfl
theorem draw_of (L : Rec) (ms : List Nat) (l : List PI) : ∀ (last : Option Nat) (wl : List (PI × T V × V)) (tm : T V) (M : Mem),
    drawE ms l L last wl tm M = drawD L ms (l.map DI.of) last (wl.map fun q => (DI.of q.1, q.2)) tm M := by
  induction l with
  | nil => intro last wl tm M; show br (again ms last M wl) _ _ = br _ _ _; rw [again_of]
  | cons p r ih =>
    intro last wl tm M
    show br p.k.isEff (br (again ms last M wl) (Out.bind .no (fun v M' => drawE ms r L (some p.i) wl (putD p.c.dst v tm) M') (p.c.ev L tm M)) .no)
        (Out.bind .no (fun v M' => drawE ms r L last (br (p.k.isRead && is1 v) ((p, tm, v) :: wl) wl) (putD p.c.dst v tm) M') (p.c.ev L tm M)) = _
    rw [List.map_cons]
    unfold drawD
    simp only [ih, again_of]
    dsimp only [DI.of]
    cases hk : p.k with
    | eff => rfl
    | pure => rfl
    | alloc => rfl
    | read =>
      show Out.bind St.no _ _ = Out.bind St.no _ _
      congr 1
      funext v M'
      show drawD L ms _ last (List.map _ (br (is1 v) ((p, tm, v) :: wl) wl)) _ _ = drawD L ms _ last (br (is1 v) _ _) _ _
      cases is1 v
      · rfl
      · rw [br_true, br_true, List.map_cons]; dsimp only; rw [hk]

section
variable (P : Program) (nt : Nat)
noncomputable def comp : Code → Option CC
  | .skip => some .skip
  | .region _ ops draw => (cosOf P ops nt ops.toList).bind fun cs => cond draw (cond (planOk ops cs) (some (.draw (masks ops) ((planOf ops cs).map DI.of))) none) (some (.ops cs))
  | .seq a b => (comp a).bind fun x => (comp b).bind fun y => some (.seq x y)
  | .cond x a b => (arOf x).bind fun z => (comp a).bind fun x => (comp b).bind fun y => some (.cond z x y)
  | .block id c => (comp c).bind fun x => some (.block id x)
  | .loop c => (comp c).bind fun x => some (.loop c x)
  | .rangeFunc g ps asg body => (arOf g).bind fun g => some (.range g ps.toList asg body)
  | .exit id => some (.exit id)
  | .label _ => some .skip
  | .ret => some .ret
  | .scope _ => some .no
  | .goto _ => some .no
  | .refuse _ => some .no
end

noncomputable def Rn.andThen (r : Rn) (f : T V → List Nat → Mem → Rn) : Rn := Rn.rec (motive := fun _ => Rn) .no f .ex .rt r
@[simp] theorem andThen_no (f : T V → List Nat → Mem → Rn) : Rn.andThen .no f = .no := (fun {p : Prop} (h : p) => h) rfl
@[simp] theorem andThen_nx (f : T V → List Nat → Mem → Rn) (tm : T V) (mk : List Nat) (M : Mem) : Rn.andThen (.nx tm mk M) f = f tm mk M := (fun {p : Prop} (h : p) => h) rfl
@[simp] theorem andThen_ex (f : T V → List Nat → Mem → Rn) (id : Nat) (tm : T V) (mk : List Nat) (M : Mem) : Rn.andThen (.ex id tm mk M) f = .ex id tm mk M := (fun {p : Prop} (h : p) => h) rfl
@[simp] theorem andThen_rt (f : T V → List Nat → Mem → Rn) (tm : T V) (mk : List Nat) (M : Mem) : Rn.andThen (.rt tm mk M) f = .rt tm mk M := (fun {p : Prop} (h : p) => h) rfl
noncomputable def Rn.catch (id : Nat) (r : Rn) : Rn := Rn.rec (motive := fun _ => Rn) .no .nx (fun id' tm mk M => br (Nat.beq id' id) (.nx tm mk M) (.ex id' tm mk M)) .rt r
@[simp] theorem catch_no (id : Nat) : Rn.catch id .no = .no := (fun {p : Prop} (h : p) => h) rfl
@[simp] theorem catch_nx (id : Nat) (tm : T V) (mk : List Nat) (M : Mem) : Rn.catch id (.nx tm mk M) = .nx tm mk M := (fun {p : Prop} (h : p) => h) rfl
@[simp] theorem catch_ex (id id' : Nat) (tm : T V) (mk : List Nat) (M : Mem) : Rn.catch id (.ex id' tm mk M) = if id' = id then .nx tm mk M else .ex id' tm mk M := by
  show br (Nat.beq id' id) _ _ = _
  rw [br_eq]; simp
@[simp] theorem catch_rt (id : Nat) (tm : T V) (mk : List Nat) (M : Mem) : Rn.catch id (.rt tm mk M) = .rt tm mk M := (fun {p : Prop} (h : p) => h) rfl
noncomputable def St.done (s : St) (mk : List Nat) : Rn := St.bind .no (fun tm' M' => .nx tm' mk M') s
@[simp] theorem done_no (mk : List Nat) : St.done .no mk = .no := (fun {p : Prop} (h : p) => h) rfl
@[simp] theorem done_ok (mk : List Nat) (tm : T V) (M : Mem) : St.done (.ok tm M) mk = .nx tm mk M := (fun {p : Prop} (h : p) => h) rfl

noncomputable def run (L : Rec) (nt : Nat) (rnd : Option Nat) : CC → T V → List Nat → Mem → Rn
  | .skip, tm, mk, M => .nx tm mk M
  | .ops l, tm, mk, M => (opsE l L tm M).done mk
  | .draw ms l, tm, mk, M => (drawD L ms l none [] tm M).done mk
  | .seq a b, tm, mk, M => (run L nt rnd a tm mk M).andThen fun tm mk M => run L nt rnd b tm mk M
  | .cond x a b, tm, mk, M => evC Rn.no (CV.asBool .no fun t => br t (run L nt rnd a tm mk M) (run L nt rnd b tm mk M)) x tm
  | .block id c, tm, mk, M => (run L nt rnd c tm mk M).catch id
  | .loop c0 c, tm, mk, M => (run L nt rnd c tm mk M).andThen fun tm mk M => L.code (.loop c0) rnd nt tm mk M
  | .range g ps asg body, tm, mk, M => rangeA L rnd g ps asg body nt tm mk M
  | .exit id, tm, mk, M => .ex id tm mk M
  | .ret, tm, mk, M => .rt tm mk M
  | .no, _, _, _ => .no

section
variable {P : Program} {nt : Nat} {O : FuncId → Bool}
theorem run_comp (c : Code) : ∀ (cc : CC), comp P nt c = some cc → ∀ (rnd : Option Nat) (tm : T V) (mk : List Nat) (M : Mem), (lim P O).code c rnd nt tm mk M = run (lim P O) nt rnd cc tm mk M := by
  induction c with
  | skip => intro cc h rnd tm mk M; simp [comp] at h; subst h; rw [lim_code]; rfl
  | region pos ops draw =>
    intro cc h rnd tm mk M
    simp only [comp, Option.bind_eq_some_iff] at h
    obtain ⟨cs, hcs, h⟩ := h
    rw [lim_code]
    show St.bind Rn.no (fun tm' M' => Rn.nx tm' mk M') (br draw (drawR P ops nt (lim P O) tm M) (listR P ops nt (lim P O) tm M)) = _
    cases draw with
    | true =>
      simp only [cond_true] at h
      cases hp : planOk ops cs with
      | false => rw [hp] at h; simp at h
      | true =>
        rw [hp] at h; simp at h; subst h
        unfold drawR
        rw [hcs, oRec_some, hp, br_true, br_true, draw_of]
        rfl
    | false =>
      simp at h; subst h
      unfold listR
      rw [hcs]; rfl
  | seq a b iha ihb =>
    intro cc h rnd tm mk M
    simp only [comp, Option.bind_eq_some_iff] at h
    obtain ⟨x, hx, y, hy, h⟩ := h
    simp at h; subst h
    rw [lim_code]
    show Rn.andThen ((lim P O).code a rnd nt tm mk M) (fun tm mk M => (lim P O).code b rnd nt tm mk M) = Rn.andThen (run (lim P O) nt rnd x tm mk M) fun tm mk M => run (lim P O) nt rnd y tm mk M
    rw [iha x hx]; congr 1; funext tm mk M; exact ihb y hy _ _ _ _
  | cond x a b iha ihb =>
    intro cc h rnd tm mk M
    simp only [comp, Option.bind_eq_some_iff] at h
    obtain ⟨z, hz, x', hx, y, hy, h⟩ := h
    simp at h; subst h
    rw [lim_code]
    show oRec .no (fun x => evC .no (CV.asBool .no fun t => (lim P O).code (br t a b) rnd nt tm mk M) x tm) (arOf x) = evC Rn.no (CV.asBool .no fun t => br t (run (lim P O) nt rnd x' tm mk M) (run (lim P O) nt rnd y tm mk M)) z tm
    rw [hz, oRec_some]
    congr 2; funext t
    cases t
    · exact ihb y hy _ _ _ _
    · exact iha x' hx _ _ _ _
  | block id c ih =>
    intro cc h rnd tm mk M
    simp only [comp, Option.bind_eq_some_iff] at h
    obtain ⟨x, hx, h⟩ := h
    simp at h; subst h
    rw [lim_code]
    show Rn.catch id ((lim P O).code c rnd nt tm mk M) = Rn.catch id (run (lim P O) nt rnd x tm mk M)
    rw [ih x hx]
  | loop c ih =>
    intro cc h rnd tm mk M
    simp only [comp, Option.bind_eq_some_iff] at h
    obtain ⟨x, hx, h⟩ := h
    simp at h; subst h
    rw [lim_code]
    show Rn.andThen ((lim P O).code c rnd nt tm mk M) (fun tm mk M => (lim P O).code (.loop c) rnd nt tm mk M) = Rn.andThen (run (lim P O) nt rnd x tm mk M) _
    rw [ih x hx]
  | rangeFunc g ps asg body iha ihb =>
    intro cc h rnd tm mk M
    simp only [comp, Option.bind_eq_some_iff] at h
    obtain ⟨z, hz, h⟩ := h
    simp at h; subst h
    rw [lim_code]
    show oRec .no (fun g => rangeA (lim P O) rnd g ps.toList asg body nt tm mk M) (arOf g) = _
    rw [hz]; rfl
  | exit id => intro cc h rnd tm mk M; simp [comp] at h; subst h; rw [lim_code]; rfl
  | label => intro cc h rnd tm mk M; simp [comp] at h; subst h; rw [lim_code]; rfl
  | ret => intro cc h rnd tm mk M; simp [comp] at h; subst h; rw [lim_code]; rfl
  | scope => intro cc h rnd tm mk M; simp [comp] at h; subst h; rw [lim_code]; rfl
  | goto => intro cc h rnd tm mk M; simp [comp] at h; subst h; rw [lim_code]; rfl
  | refuse => intro cc h rnd tm mk M; simp [comp] at h; subst h; rw [lim_code]; rfl

/-! ### A call -/
noncomputable def leave (res : List AV) (r : Rn) : Out := Rn.rec (motive := fun _ => Out) .no (retE res) (fun _ _ _ _ => .no) (retE res) r
@[simp] theorem leave_no (res : List AV) : leave res .no = .no := (fun {p : Prop} (h : p) => h) rfl
@[simp] theorem leave_nx (res : List AV) (tm : T V) (mk : List Nat) (M : Mem) : leave res (.nx tm mk M) = retE res tm mk M := (fun {p : Prop} (h : p) => h) rfl
@[simp] theorem leave_rt (res : List AV) (tm : T V) (mk : List Nat) (M : Mem) : leave res (.rt tm mk M) = retE res tm mk M := (fun {p : Prop} (h : p) => h) rfl
@[simp] theorem leave_ex (res : List AV) (id : Nat) (tm : T V) (mk : List Nat) (M : Mem) : leave res (.ex id tm mk M) = .no := (fun {p : Prop} (h : p) => h) rfl
/-- What stands for a function. -/
def Body (P : Program) (f : FuncId) (cc : CC) (nt : Nat) (res : List AV) : Prop := ∃ c, cfOf P f = some ⟨c, nt, res⟩ ∧ comp P nt c = some cc
theorem call_eq {f : FuncId} {cc : CC} {nt : Nat} {res : List AV} (h : Body P f cc nt res) (ho : O f = false) (args : List V1) (hl : args.length ≤ nt) (M : Mem) :
    (lim P O).call f args M = leave res (run (lim P O) nt none cc (T.puts (args.map V.one) .lf 0) [] M) := by
  obtain ⟨c, hc, hcc⟩ := h
  rw [lim_call]
  unfold callA
  rw [ho, br_false]
  unfold callB
  rw [hc, oRec_some]
  have : Nat.ble args.length nt = true := by simpa using hl
  show br (Nat.ble args.length nt) (leave res ((lim P O).code c none nt (T.puts (args.map V.one) .lf 0) [] M)) Out.no = _
  rw [this, br_true, run_comp c cc hcc]
theorem loop_eq (c : Code) (x : CC) (h : comp P nt c = some x) (rnd : Option Nat) (tm : T V) (mk : List Nat) (M : Mem) :
    (lim P O).code (.loop c) rnd nt tm mk M = (run (lim P O) nt rnd x tm mk M).andThen fun tm mk M => (lim P O).code (.loop c) rnd nt tm mk M :=
  run_comp (.loop c) (.loop c x) (by simp [comp, h]) rnd tm mk M
end

/-! ### Places in code -/
def kidC : Nat → Code → Code
  | 0, .seq a _ => a
  | 1, .seq _ b => b
  | 0, .cond _ a _ => a
  | 1, .cond _ _ b => b
  | 0, .block _ c => c
  | 0, .loop c => c
  | 0, .rangeFunc _ _ a _ => a
  | 1, .rangeFunc _ _ _ b => b
  | _, c => c
def subC : List Nat → Code → Code
  | [], c => c
  | i :: r, c => subC r (kidC i c)
def bodyC (P : Program) (f : FuncId) : Code := ((P.funcs[f]?).bind (·.body)).getD .skip
end Go.Ab
