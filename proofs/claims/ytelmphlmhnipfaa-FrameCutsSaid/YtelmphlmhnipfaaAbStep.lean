/- One operation with its guard, calls too; the operations of a region one behind the other. No condition. -/
import Derived.Test.YtelmphlmhnipfaaAbOps8
import Derived.RangeFuncRecord
import Derived.LoopNIn
import Derived.OrdersIn
namespace Go.Ab
open Go.RowKit

/-- The fence: none, but for the round. -/
def Fn (ro : Option Nat) : Fence := { Fence.wide with round := ro }
theorem Fn_none : Fn none = Fence.wide := rfl
theorem Fn_inRound (ro : Option Nat) (l : Nat) : (Fn ro).inRound l = Fn (some l) := rfl

def FRel (σ : Sg) (rnd ro : Option Nat) : Prop := (rnd = none ∧ ro = none) ∨ ∃ l b, rnd = some l ∧ ro = some b ∧ σ l = some (b, 0, 1)
theorem FRel.mono {σ σ' : Sg} (h : Le σ σ') {rnd ro : Option Nat} (k : FRel σ rnd ro) : FRel σ' rnd ro := by
  rcases k with ⟨a, b⟩ | ⟨l, b, e1, e2, e3⟩
  · exact .inl ⟨a, b⟩
  · exact .inr ⟨l, b, e1, e2, h _ _ e3⟩

/-- What is asked of the program: any order of a region is met by the edges alone; no function with a body bears the one name that the model takes for itself. -/
structure Good (P : Program) : Prop where
  mixed : P.follows .mixedOrders = true
  names : ∀ (f : FuncId) (fn : Func), P.funcs[f]? = some fn → fn.body.isSome = true → (fn.name == "runtime.NumGoroutine") = false

/-- What an answer is worth. -/
def Ans (B : Nat) (w0 : World) (σ : Sg) (M : Mem) (v : V) (M' : Mem) (e : Ending) (w' : World) : Prop :=
  ∃ σ' c, e = .returned c ∧ Stp σ M σ' M' ∧ RM B w0 σ' M' w' ∧ RV σ' v c

def MK (σ : Sg) (mk : List Nat) (ds : List Deferred) : Prop := F2 (fun id d => ∃ b, σ id = some (b, 0, 1) ∧ d = { target := .collected b, args := #[] }) mk ds
theorem MK.mono {σ σ' : Sg} (h : Le σ σ') {mk : List Nat} {ds : List Deferred} (k : MK σ mk ds) : MK σ' mk ds := forall2_mono (fun _ _ ⟨b, e, f⟩ => ⟨b, h _ _ e, f⟩) k

/-- What is asked at the end of code, by how it was left. -/
def PostR (B : Nat) (w0 : World) (σ : Sg) (M : Mem) (nt : Nat) (Q : Exit → Act → World → Prop) : Rn → Prop
  | .no => False
  | .nx tm mk M' => ∀ σ' a' w', Stp σ M σ' M' → RM B w0 σ' M' w' → RT σ' tm a'.tmps → a'.tmps.size = nt → MK σ' mk a'.defers → Q .normal a' w'
  | .ex id tm mk M' => ∀ σ' a' w', Stp σ M σ' M' → RM B w0 σ' M' w' → RT σ' tm a'.tmps → a'.tmps.size = nt → MK σ' mk a'.defers → Q (.exit id) a' w'
  | .rt tm mk M' => ∀ σ' a' w', Stp σ M σ' M' → RM B w0 σ' M' w' → RT σ' tm a'.tmps → a'.tmps.size = nt → MK σ' mk a'.defers → Q .ret a' w'

/-- What is below is sound. -/
structure SoundR (P : Program) (k : Nat) (R : Rec) : Prop where
  code : ∀ (B : Nat) (w0 : World) (σ : Sg) (M : Mem) (w : World) (c : Code) (rnd ro : Option Nat) (nt : Nat) (tm : T V) (mk : List Nat) (a : Act) (n : Nat) (Q : Exit → Act → World → Prop),
    RM B w0 σ M w → RT σ tm a.tmps → a.tmps.size = nt → MK σ mk a.defers → FRel σ rnd ro → PostR B w0 σ M nt Q (R.code c rnd nt tm mk M) → c.wpIn (Fn ro) n P Q a w
  loop : ∀ (B : Nat) (w0 : World) (σ : Sg) (M : Mem) (w : World) (c : Code) (rnd ro : Option Nat) (nt : Nat) (tm : T V) (mk : List Nat) (a : Act) (n : Nat) (Q : Exit → Act → World → Prop),
    RM B w0 σ M w → RT σ tm a.tmps → a.tmps.size = nt → MK σ mk a.defers → FRel σ rnd ro → PostR B w0 σ M nt Q (R.code (.loop c) rnd nt tm mk M) → Code.roundsIn (Fn ro) n P c Q k a w
  call : ∀ (B : Nat) (w0 : World) (σ : Sg) (M : Mem) (w : World) (f : FuncId) (args : List V1) (vs : List Value) (v : V) (M' : Mem) (n : Nat),
    RM B w0 σ M w → F2 (R1 σ) args vs → R.call f args M = .ok v M' → (∃ (fn : Func) (c : Code), P.funcs[f]? = some fn ∧ fn.body = some c) ∧ CallsIn Fence.wide n P f ⟨vs⟩ w (Ans B w0 σ M v M')
  round : ∀ (B : Nat) (w0 : World) (σ : Sg) (M : Mem) (w : World) (l b : Nat) (args : List V1) (vs : List Value) (v : V) (M' : Mem) (n : Nat),
    RM B w0 σ M w → F2 (R1 σ) args vs → σ l = some (b, 0, 1) → R.round l args M = .ok v M' →
    ∃ fn tmps asg body, (Instr.yield b ⟨vs⟩).run P w = .ok (.round b fn tmps asg body) w ∧ RoundIn Fence.wide n P b fn tmps asg body w (Ans B w0 σ M v M')

section
variable {P : Program} {B : Nat} {w0 w : World} {σ : Sg} {M M' : Mem} {tm : T V} {v : V} {k : Nat} {R : Rec} {ro rnd : Option Nat} {n : Nat}

theorem evs_rel {ρ : Operand → Value} {xs : List Operand} {l : List AR} {vs : List V1} (hl : F2 (fun x a => arOf x = some a) xs l) (hx : ∀ x ∈ xs, Hd σ tm ρ x) (h : evs l tm = some vs) : F2 (R1 σ) vs (xs.map ρ) := by
  induction hl generalizing vs with
  | nil => have h : some [] = some vs := h; simp at h; subst h; exact .nil
  | @cons x a r s hxa hr ih =>
    have h : ev1 none (fun v => (evs s tm).bind fun vs => some (v :: vs)) a tm = some vs := h
    unfold ev1 at h
    cases he : a.ev tm with
    | none => rw [he] at h; simp at h
    | some u =>
      rw [he] at h
      cases u with
      | one y =>
        simp [V.as1, Option.bind_eq_some_iff] at h
        obtain ⟨m, hm, h⟩ := h
        subst h
        exact .cons ((hx x (by simp)).one hxa he) (ih (fun y hy => hx y (by simp [hy])) hm)
      | tup l => simp [V.as1] at h
      | undef => simp [V.as1] at h

theorem caps_rel {caps : List (Nat × Nat)} {cs : List Value} (h : F2 (fun p c => ∃ a, RA σ p.1 p.2 a ∧ c = .pointer (some a)) caps cs) : F2 (R1 σ) (caps.map capV) cs := by
  induction h with
  | nil => exact .nil
  | cons r _ ih =>
    obtain ⟨a, ra, rfl⟩ := r
    exact .cons (.c _ _ (.ptr _ _ _ ra)) ih

/-- An operation, carried out; the rest goes on behind it. -/
theorem oper_sound (hP : Good P) (hR : SoundR P k R) {o : Oper} {x : AX} {a : Act} {next : Act → World → Prop} {Q : Exit → Act → World → Prop} (ho : axOf P o.op = some x) (hx : ∀ y ∈ o.op.operands, Hd σ tm a.eval y) (hm : RM B w0 σ M w)
    (h : x.ev R tm M = .ok v M') (hn : ∀ σ' c w', Stp σ M σ' M' → RM B w0 σ' M' w' → RV σ' v c → next (a.put o.dst c) w') : o.wpIn (Fn ro) n P a w next Q := by
  refine ⟨fun _ _ => trivial, ?_⟩
  have plain : ∀ ao, aopOf P o.op = some ao → ao.ev tm M = .ok v M' → o.uponIn (Fn ro) n P a next Q ((o.semAt (Fn ro).round a.eval).run P w) := by
    intro ao ha he
    have hsem : o.semAt (Fn ro).round a.eval = execOp a.eval o := Oper.semAt_eq _ _ _ (fun c q => by rw [q] at ha; simp [aopOf] at ha)
    rw [hsem]
    obtain ⟨σ', c, w', hr, hs, hm', hv⟩ := aop_sound ha hx hm he
    rcases hr with hr | ⟨rfl, hr⟩
    · rw [hr]; exact hn _ _ _ hs hm' hv
    · rw [hr]; exact hn _ _ _ hs hm' hv
  cases hop : o.op with
  | call c =>
    cases hc : c.callee with
    | value f =>
      rw [hop] at ho hx
      simp only [axOf, hc, Option.bind_eq_some_iff] at ho
      obtain ⟨f', ef, xs, exs, ho⟩ := ho
      simp at ho; subst ho
      have hsem : o.semAt (Fn ro).round a.eval = execOp a.eval o := Oper.semAt_eq _ _ _ (fun c q => by rw [q] at hop; cases hop)
      rw [hsem]
      have hxf : Hd σ tm a.eval f := hx f (by simp [Op.operands, Call.operands, hc])
      have hxa : ∀ y ∈ c.args.toList, Hd σ tm a.eval y := fun y hy => hx y (by simp [Op.operands, Call.operands, hc]; exact .inr (by simpa using hy))
      have h : callE f' xs R tm M = .ok v M' := h
      obtain ⟨cv, hcv, h2⟩ := evC_ok h
      have rf := hxf.c ef hcv
      have hargs : ∀ vs, evs xs tm = some vs → F2 (R1 σ) vs (c.args.toList.map a.eval) := fun vs hvs => evs_rel (arsOf_map exs) hxa hvs
      have hmap : c.args.map a.eval = ⟨c.args.toList.map a.eval⟩ := by cases c.args; simp
      generalize hq : a.eval f = fv at rf
      cases cv <;> simp [CV.asFn] at h2
      case fn g caps =>
        obtain ⟨vs, hvs, h3⟩ := oRec_ok h2
        cases rf with
        | fn _ _ cs hcs =>
          obtain ⟨⟨fn, cd, hfn, hcd⟩, hcall⟩ := hR.call B w0 σ M w g (vs ++ caps.map capV) (c.args.toList.map a.eval ++ cs) v M' (n - 1) hm (forall2_append (hargs vs hvs) (caps_rel hcs)) h3
          have hname := hP.names g fn hfn (by rw [hcd]; rfl)
          have hrun : (execOp a.eval o).run P w = .ok (.enter g ⟨c.args.toList.map a.eval ++ cs⟩) w := by
            simp only [execOp, hop, resolve, hc, hq, Deferred.ofValue, invoke, Sem.run_bind, Sem.run_pure, Result.andThen_ok, callFunc, run_program, hfn, hname, hcd, hmap]
            simp
          rw [hrun]
          refine ⟨fun q => by simp [Fn, Fence.wide] at q, ?_⟩
          have hcall : CallsIn (Fn ro) (n - 1) P g ⟨c.args.toList.map a.eval ++ cs⟩ w (Ans B w0 σ M v M') := hcall
          refine hcall.mono ?_
          rintro e w' ⟨σ', c', rfl, hs, hm', hv⟩
          exact hn _ _ _ hs hm' hv
      case yld l =>
        obtain ⟨vs, hvs, h3⟩ := oRec_ok h2
        cases rf with
        | yld _ b hb =>
          obtain ⟨fn, tmps, asg, body, hy, hround⟩ := hR.round B w0 σ M w l b vs (c.args.toList.map a.eval) v M' (n - 1) hm (hargs vs hvs) hb h3
          have hrun : (execOp a.eval o).run P w = .ok (.round b fn tmps asg body) w := by
            simp only [execOp, hop, resolve, hc, hq, Deferred.ofValue, invoke, Sem.run_bind, Sem.run_pure, Result.andThen_ok, hmap]
            simp [hy]
          rw [hrun]
          refine ⟨fun q => by simp [Fn, Fence.wide] at q, ?_⟩
          have hround : RoundIn (Fn ro) (n - 1) P b fn tmps asg body w (Ans B w0 σ M v M') := hround
          refine hround.mono ?_
          rintro e w' ⟨σ', c', rfl, hs, hm', hv⟩
          exact hn _ _ _ hs hm' hv
    | invoke r m =>
      rw [hop] at ho
      simp [axOf, hc, aopOf] at ho
    | builtin b =>
      rw [hop] at ho
      simp only [axOf, hc, Option.bind_eq_some_iff] at ho
      obtain ⟨ao, hao, ho⟩ := ho
      simp at ho; subst ho
      exact plain ao (by rw [hop]; exact hao) h
  | _ =>
    rw [hop] at ho
    simp only [axOf, Option.bind_eq_some_iff] at ho
    obtain ⟨ao, hao, ho⟩ := ho
    simp at ho; subst ho
    exact plain ao (by rw [hop]; exact hao) h

/-- Is it wanted? Here and there. -/
theorem want_rel {ops : Array Oper} {o : Oper} {g : Option (Nat × Bool)} {tmps : Array Value} {b : Bool} (hg : guardOf ops o = some g) (hd : ∀ d want, g = some (d, want) → ∀ v, tm.get d = some v → RV σ v (tmps.getD d undef)) (h : wantG g tm = some b) :
    Region.wanted o (yielded ops tmps) = b := by
  unfold guardOf at hg
  unfold Region.wanted
  cases hq : o.guard with
  | none => rw [hq] at hg; simp at hg; subst hg; simp [wantG] at h; subst h; rfl
  | some jw =>
    obtain ⟨j, want⟩ := jw
    rw [hq] at hg
    simp only [Option.bind_eq_some_iff] at hg
    obtain ⟨d, hd1, hg⟩ := hg
    simp at hg; subst hg
    have h : oRec none (fun v => some (V.asC false (CV.asBool false (bSame want)) v)) (tm.get d) = some b := h
    cases hv : tm.get d with
    | none => rw [hv] at h; simp at h
    | some u =>
      rw [hv] at h
      simp at h
      have r := hd d want rfl u hv
      obtain ⟨oj, hoj, hdst⟩ := hd1
      simp only [yielded, hoj, hdst, Option.bind_some]
      by_cases hlt : d < tmps.size
      · have e2 : tmps[d]? = some (tmps.getD d undef) := by simp [hlt]
        rw [e2]
        generalize tmps.getD d undef = cc at r
        cases r with
        | one y c r => cases r with
          | c x c r =>
            cases r <;> simp [V.asC, CV.asBool] at h <;> subst h <;> simp
            rename_i b1
            rw [bSame_eq]
            cases b1 <;> cases want <;> rfl
          | agg xs cs r => simp [V.asC] at h; subst h; simp
        | tup xs cs r => simp [V.asC] at h; subst h; simp
        | undef => simp [V.asC] at h; subst h; simp [undef]
      · have e2 : tmps[d]? = none := Array.getElem?_eq_none (Nat.le_of_not_lt hlt)
        have e3 : tmps.getD d undef = undef := by simp [Array.getD, hlt]
        rw [e3] at r
        rw [e2]
        cases u with
        | one y => cases y with
          | c x => cases x <;> simp [V.asC, CV.asBool] at h <;> (try (subst h; rfl)); rename_i b1; exfalso; unfold undef at r; cases r with | one _ _ r => cases r with | c _ _ r => cases r
          | agg xs => simp [V.asC] at h; subst h; rfl
        | tup xs => simp [V.asC] at h; subst h; rfl
        | undef => simp [V.asC] at h; subst h; rfl

/-- An operation with its guard. -/
theorem co_sound (hP : Good P) (hR : SoundR P k R) {ops : Array Oper} {i nt : Nat} {o : Oper} {c : CO} {a : Act} {next : Act → World → Prop} {Q : Exit → Act → World → Prop} (hi : ops[i]? = some o) (hc : coOf P ops nt o = some c) (hx : ∀ y ∈ o.op.operands, Hd σ tm a.eval y)
    (hg : ∀ d want, c.guard = some (d, want) → ∀ v, tm.get d = some v → RV σ v (a.tmps.getD d undef)) (hm : RM B w0 σ M w)
    (h : c.ev R tm M = .ok v M') (hn : ∀ σ' u w', Stp σ M σ' M' → RM B w0 σ' M' w' → RV σ' v u → next (a.put o.dst u) w') : wpOpIn (Fn ro) n P ops Q i next a w := by
  simp only [coOf, Option.bind_eq_some_iff] at hc
  obtain ⟨g, hgo, x, hxo, hc⟩ := hc
  simp only [Bool.cond_eq_ite] at hc
  split at hc
  rotate_left
  · simp at hc
  simp at hc; subst hc
  obtain ⟨b, hb, h2⟩ := oRec_ok h
  have hw := want_rel (ops := ops) (o := o) hgo hg hb
  unfold wpOpIn
  rw [hi]
  cases b with
  | true =>
    rw [br_true] at h2
    simp only [hw, if_true]
    exact oper_sound hP hR hxo hx hm h2 hn
  | false =>
    rw [br_false] at h2
    simp at h2
    obtain ⟨rfl, rfl⟩ := h2
    simp only [hw]
    exact ⟨fun _ _ => trivial, hn σ _ w (.refl _ _) hm .undef⟩

theorem put_tmps {d : Option Tmp} {a : Act} {u : Value} {nt : Nat} (hz : a.tmps.size = nt) : (a.put d u).tmps.size = nt := by
  cases d <;> simp [Act.put, hz]
theorem put_defers {d : Option Tmp} {a : Act} {u : Value} : (a.put d u).defers = a.defers := by
  cases d <;> simp [Act.put]
theorem RT.putD {σ' : Sg} (hle : Le σ σ') {a : Act} (h : RT σ tm a.tmps) {d : Option Tmp} {u : Value} (hd : ∀ x, d = some x → x < a.tmps.size) (hv : RV σ' v u) : RT σ' (putD d v tm) (a.put d u).tmps := by
  cases d with
  | none => exact h.mono hle
  | some x => exact (h.mono hle).set (hd x rfl) hv
theorem RT.hd {a : Act} (h : RT σ tm a.tmps) (x : Operand) : Hd σ tm a.eval x := by
  intro ar v ha hv
  cases x with
  | tmp t => simp [arOf] at ha; subst ha; exact h t v hv
  | const c =>
    simp only [arOf, Option.bind_eq_some_iff] at ha
    obtain ⟨y, hy, ha⟩ := ha
    simp at ha; subst ha
    have hv : some (V.one y) = some v := hv
    simp at hv; subst hv
    exact .one _ _ (V1.of_rel σ hy)
  | global g => simp [arOf] at ha
  | func f =>
    simp [arOf] at ha; subst ha
    have hv : some (V.one (.c (.fn f []))) = some v := hv
    simp at hv; subst hv
    exact .one _ _ (.c _ _ (.fn _ _ _ .nil))

/-- The operations of a region in their order. -/
theorem ops_sound (hP : Good P) (hR : SoundR P k R) {ops : Array Oper} {nt : Nat} {Q : Exit → Act → World → Prop} : ∀ (l : List Oper) (j : Nat) (cs : List CO) (σ : Sg) (M : Mem) (tm tm' : T V) (M' : Mem) (a : Act) (w : World), ops.toList.drop j = l → cosOf P ops nt l = some cs →
    opsE cs R tm M = .ok tm' M' → RM B w0 σ M w → RT σ tm a.tmps → a.tmps.size = nt → (∀ σ' a' w', Stp σ M σ' M' → RM B w0 σ' M' w' → RT σ' tm' a'.tmps → a'.tmps.size = nt → a'.defers = a.defers → Q .normal a' w') →
    wpOpsIn (Fn ro) n P ops Q ((List.range ops.size).drop j) a w := by
  intro l
  induction l with
  | nil =>
    intro j cs σ M tm tm' M' a w hl hcs h hm ht hz hQ
    simp [cosOf] at hcs; subst hcs
    have h : St.ok tm M = .ok tm' M' := h
    simp at h; obtain ⟨rfl, rfl⟩ := h
    have : (List.range ops.size).drop j = [] := by
      have := congrArg List.length hl
      simp at this
      simp; omega
    rw [this]
    exact hQ σ a w (.refl _ _) hm ht hz rfl
  | cons o l ih =>
    intro j cs σ M tm tm' M' a w hl hcs h hm ht hz hQ
    simp only [cosOf, Option.bind_eq_some_iff] at hcs
    obtain ⟨c, hc, cs', hcs', hcs⟩ := hcs
    simp at hcs; subst hcs
    have hj : ops[j]? = some o := by
      have := congrArg (fun l => l[0]?) hl
      simpa using this
    have hlt : j < ops.size := (Array.getElem?_eq_some_iff.1 hj).1
    have hdrop : (List.range ops.size).drop j = j :: (List.range ops.size).drop (j + 1) := by
      rw [List.drop_eq_getElem_cons (by simpa using hlt)]
      simp
    rw [hdrop, wpOpsIn_cons]
    have h : Out.bind .no (fun v M' => opsE cs' R (putD c.dst v tm) M') (c.ev R tm M) = .ok tm' M' := h
    cases he : c.ev R tm M with
    | no => rw [he] at h; simp [Out.bind] at h
    | ok v M1 =>
      rw [he] at h
      have h : opsE cs' R (putD c.dst v tm) M1 = .ok tm' M' := h
      have hcd : c.dst = o.dst ∧ ∀ x, o.dst = some x → x < nt := by
        simp only [coOf, Option.bind_eq_some_iff, Bool.cond_eq_ite] at hc
        obtain ⟨g, _, x, _, hc⟩ := hc
        split at hc
        · rename_i hb
          simp at hc; subst hc
          refine ⟨rfl, fun x hx => ?_⟩
          rw [hx] at hb
          simpa [dstOk, Nat.blt_eq] using hb
        · simp at hc
      refine co_sound hP hR hj hc (fun y _ => ht.hd y) (fun d want _ v hv => ht d v hv) hm he (fun σ1 u w1 hs1 hm1 hv1 => ?_)
      rw [hcd.1] at h
      refine ih (j + 1) cs' σ1 M1 (putD o.dst v tm) tm' M' (a.put o.dst u) w1 ?_ hcs' h hm1 (ht.putD hs1.le (fun x hx => by rw [hz]; exact hcd.2 x hx) hv1) (put_tmps hz) (fun σ' a' w' hs hm' ht' hz' hd => ?_)
      · have := congrArg (List.drop 1) hl
        simpa [Nat.add_comm] using this
      · exact hQ σ' a' w' (hs1.trans hs) hm' ht' hz' (by rw [hd, put_defers])
end
end Go.Ab
