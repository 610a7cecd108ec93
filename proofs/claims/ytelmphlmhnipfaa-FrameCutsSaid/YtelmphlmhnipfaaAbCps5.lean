/- The run of code in continuation form, and that it comes to the same. No condition. -/
import Derived.Test.YtelmphlmhnipfaaAbCps4
namespace Go.Ab

section
variable {K : RK} {R : Rec}
/-- An operation with its guard. -/
noncomputable def CO.aV (c : CO) (K : RK) (tm : T V) (M : Mem) (k : KV) : Bool :=
  CO.rec (motive := fun _ => Bool) (fun g _ x => Option.rec (motive := fun _ => Bool) (x.aK K tm M k)
    (fun p => Prod.rec (motive := fun _ => Bool) (fun j want => T.getK false (fun v => br (V.asC false (CV.asBool false (bSame want)) v) (x.aK K tm M k) (k .undef M)) (pth j) tm) p) g) c
theorem aV_eq (h : SameR K R) (c : CO) (tm : T V) (M : Mem) (k : KV) : c.aV K tm M k = Out.bind false k (c.ev R tm M) := by
  obtain ⟨g, d, x⟩ := c
  cases g with
  | none => exact axK_eq h x tm M k
  | some p =>
    obtain ⟨j, want⟩ := p
    show T.getK false _ (pth j) tm = Out.bind false _ (CO.ev ⟨some (j, want), d, x⟩ R tm M)
    unfold CO.ev wantG
    rw [T.getK_eq]
    show oRec false _ (tm.get j) = Out.bind false _ (oRec .no (fun b => br b (x.ev R tm M) (.ok .undef M)) (oRec none _ (tm.get j)))
    cases tm.get j with
    | none => rfl
    | some v =>
      show br (V.asC false (CV.asBool false (bSame want)) v) _ _ = Out.bind false _ (br (V.asC false (CV.asBool false (bSame want)) v) _ _)
      rw [bind_br]
      simp only [axK_eq h]
      rfl
noncomputable def drawK (ms : List Nat) (l : List PI) : RK → Option Nat → List (PI × T V × V) → T V → Mem → (T V → Mem → Bool) → Bool :=
  List.rec (motive := fun _ => RK → Option Nat → List (PI × T V × V) → T V → Mem → (T V → Mem → Bool) → Bool) (fun _ last wl tm M k => br (again ms last M wl) (k tm M) false)
    (fun p _ ih K last wl tm M k =>
      br p.k.isEff
        (br (again ms last M wl) (p.c.aV K tm M fun v M' => putDK p.c.dst v tm fun tm' => ih K (some p.i) wl tm' M' k) false)
        (p.c.aV K tm M fun v M' => putDK p.c.dst v tm fun tm' => ih K last (br (p.k.isRead && is1 v) ((p, tm, v) :: wl) wl) tm' M' k)) l
theorem drawK_eq (h : SameR K R) (ms : List Nat) (l : List PI) : ∀ (last : Option Nat) (wl : List (PI × T V × V)) (tm : T V) (M : Mem) (k : T V → Mem → Bool),
    drawK ms l K last wl tm M k = St.bind false k (drawE ms l R last wl tm M) := by
  induction l with
  | nil =>
    intro last wl tm M k
    show br (again ms last M wl) (k tm M) false = St.bind false k (br (again ms last M wl) (.ok tm M) .no)
    cases again ms last M wl <;> rfl
  | cons p l ih =>
    intro last wl tm M k
    show br p.k.isEff (br (again ms last M wl) (p.c.aV K tm M fun v M' => putDK p.c.dst v tm fun tm' => drawK ms l K (some p.i) wl tm' M' k) false)
        (p.c.aV K tm M fun v M' => putDK p.c.dst v tm fun tm' => drawK ms l K last (br (p.k.isRead && is1 v) ((p, tm, v) :: wl) wl) tm' M' k) =
      St.bind false k (br p.k.isEff (br (again ms last M wl) (Out.bind .no (fun v M' => drawE ms l R (some p.i) wl (putD p.c.dst v tm) M') (p.c.ev R tm M)) .no)
        (Out.bind .no (fun v M' => drawE ms l R last (br (p.k.isRead && is1 v) ((p, tm, v) :: wl) wl) (putD p.c.dst v tm) M') (p.c.ev R tm M)))
    simp only [aV_eq h, putDK_eq, ih]
    cases p.k.isEff with
    | true =>
      cases again ms last M wl with
      | false => rfl
      | true => show Out.bind false _ (p.c.ev R tm M) = St.bind false k (Out.bind .no _ (p.c.ev R tm M)); cases p.c.ev R tm M <;> rfl
    | false => show Out.bind false _ (p.c.ev R tm M) = St.bind false k (Out.bind .no _ (p.c.ev R tm M)); cases p.c.ev R tm M <;> rfl
end

section
variable (P : Program) {K : RK} {R : Rec}
noncomputable def drawRK (ops : Array Oper) (nt : Nat) (K : RK) (tm : T V) (M : Mem) (k : T V → Mem → Bool) : Bool :=
  oRec false (fun cs => br (planOk ops cs) (drawK (masks ops) (planOf ops cs) K none [] tm M k) false) (cosOf P ops nt ops.toList)
noncomputable def listRK (ops : Array Oper) (nt : Nat) (K : RK) (tm : T V) (M : Mem) (k : T V → Mem → Bool) : Bool :=
  oRec false (fun cs => opsK cs K tm M k) (cosOf P ops nt ops.toList)
theorem drawRK_eq (h : SameR K R) (ops : Array Oper) (nt : Nat) (tm : T V) (M : Mem) (k : T V → Mem → Bool) : drawRK P ops nt K tm M k = St.bind false k (drawR P ops nt R tm M) := by
  unfold drawRK drawR
  cases cosOf P ops nt ops.toList with
  | none => rfl
  | some cs =>
    show br (planOk ops cs) _ false = St.bind false k (br (planOk ops cs) _ .no)
    cases planOk ops cs with
    | true => exact drawK_eq h _ _ _ _ _ _ _
    | false => rfl
theorem listRK_eq (h : SameR K R) (ops : Array Oper) (nt : Nat) (tm : T V) (M : Mem) (k : T V → Mem → Bool) : listRK P ops nt K tm M k = St.bind false k (listR P ops nt R tm M) := by
  unfold listRK listR
  cases cosOf P ops nt ops.toList with
  | none => rfl
  | some cs => exact opsK_eq h cs _ _ _

/-! ### Results -/
noncomputable def AV.aK (tm : T V) (M : Mem) (a : AV) (k : V1 → Bool) : Bool :=
  AV.rec (motive := fun _ => Bool) (fun n => T.getK false (V.as1 false k) (pth n) tm)
    (fun n => T.getK false (V.asC false (CV.asPtr false fun id off => M.loadK id off fun x => k (.c x))) (pth n) tm)
    (fun n s => T.getK false (V.asC false (CV.asPtr false fun id off => oRec false (fun l => k (.agg l)) (M.loads id off s))) (pth n) tm) a
theorem avK_eq (tm : T V) (M : Mem) (a : AV) (k : V1 → Bool) : a.aK tm M k = oRec false k (a.ev tm M) := by
  cases a with
  | t n =>
    show T.getK false _ (pth n) tm = oRec false k (oRec none (V.as1 none some) (tm.get n))
    rw [T.getK_eq]
    show oRec false _ (tm.get n) = _
    cases tm.get n with
    | none => rfl
    | some v => cases v <;> rfl
  | c1 n =>
    show T.getK false _ (pth n) tm = oRec false k (oRec none _ (tm.get n))
    rw [T.getK_eq]
    show oRec false _ (tm.get n) = _
    cases tm.get n with
    | none => rfl
    | some v => cases v with
      | one y => cases y with
        | agg _ => rfl
        | c c => cases c with
          | ptr id off =>
            show M.loadK id off _ = oRec false k (oRec none (fun x => some (.c x)) (M.load id off))
            rw [loadK_eq]; cases M.load id off <;> rfl
          | _ => rfl
      | tup _ => rfl
      | undef => rfl
  | cn n s =>
    show T.getK false _ (pth n) tm = oRec false k (oRec none _ (tm.get n))
    rw [T.getK_eq]
    show oRec false _ (tm.get n) = _
    cases tm.get n with
    | none => rfl
    | some v => cases v with
      | one y => cases y with
        | agg _ => rfl
        | c c => cases c with
          | ptr id off =>
            show oRec false _ (M.loads id off s) = oRec false k (oRec none (fun x => some (.agg x)) (M.loads id off s))
            cases M.loads id off s <;> rfl
          | _ => rfl
      | tup _ => rfl
      | undef => rfl
noncomputable def avsK (tm : T V) (M : Mem) (l : List AV) : (List V1 → Bool) → Bool :=
  List.rec (motive := fun _ => (List V1 → Bool) → Bool) (fun k => k []) (fun a _ ih k => a.aK tm M fun v => ih fun vs => k (v :: vs)) l
theorem avsK_eq (tm : T V) (M : Mem) (l : List AV) : ∀ k : List V1 → Bool, avsK tm M l k = oRec false k (avsE tm M l) := by
  induction l with
  | nil => intro k; rfl
  | cons a l ih =>
    intro k
    show a.aK tm M (fun v => avsK tm M l fun vs => k (v :: vs)) = oRec false k (oRec none (fun v => oRec none (fun vs => some (v :: vs)) (avsE tm M l)) (a.ev tm M))
    rw [avK_eq]
    cases a.ev tm M with
    | none => rfl
    | some v =>
      show avsK tm M l _ = oRec false k (oRec none (fun vs => some (v :: vs)) (avsE tm M l))
      rw [ih]; cases avsE tm M l <;> rfl
noncomputable def packK (l : List V1) (k : V → Bool) : Bool :=
  List.rec (motive := fun _ => Bool) (k (.tup [])) (fun v r _ => List.rec (motive := fun _ => Bool) (k (.one v)) (fun a s _ => k (.tup (v :: a :: s))) r) l
theorem packK_eq (l : List V1) (k : V → Bool) : packK l k = k (packA l) := by
  match l with
  | [] => rfl
  | [v] => rfl
  | v :: a :: s => rfl
noncomputable def retK (res : List AV) (k : KV) : KT := fun tm mk M =>
  List.rec (motive := fun _ => Bool) (avsK tm M res fun vs => packK vs fun v => k v M) (fun _ _ _ => Out.bind false k (retE res tm mk M)) mk
theorem retK_eq (res : List AV) (k : KV) (tm : T V) (mk : List Nat) (M : Mem) : retK res k tm mk M = Out.bind false k (retE res tm mk M) := by
  cases mk with
  | nil =>
    show avsK tm M res _ = Out.bind false k (oRec .no (fun M' => oRec .no _ (avsE tm M' res)) (some M))
    rw [avsK_eq]
    show oRec false _ (avsE tm M res) = Out.bind false k (oRec .no _ (avsE tm M res))
    cases avsE tm M res with
    | none => rfl
    | some vs => exact packK_eq vs fun v => k v M
  | cons => rfl
end
end Go.Ab
