/- The run in continuation form, and that it comes to the same. No condition. -/
import Derived.Test.YtelmphlmhnipfaaAbCps3b
namespace Go.Ab

noncomputable def oldO (f : T V → Mem → Out) (tm : T V) (M : Mem) (k : KV) : Bool := Out.bind false k (f tm M)
abbrev OpK := T V → Mem → KV → Bool
noncomputable def AOp.aK (a : AOp) : OpK :=
  AOp.rec (motive := fun _ => OpK) mvK pickK allocK boxK buildK bsliceK mksliceK
    ld1K ldnK stK nilckK ibinK shiftEK (fun op x y => oldO (sbinE op x y)) beqK nileqK (fun n s l x y => oldO (ageqE n s l x y)) (fun x => oldO (inegE x)) (fun x => oldO (invE x)) bnotK
    i2iK (fun x => oldO (s2sE x)) (fun x => oldO (s2bE x)) (fun x => oldO (b2sE x)) mkfnK (fun x lo hi => oldO (slSE x lo hi)) (fun es x lo hi mx => oldO (slVE es x lo hi mx)) (fun l s x lo hi => oldO (slAE l s x lo hi))
    faddrK fld1K fldnK iaddrAK iaddrSK (fun l s x i => oldO (idx1E l s x i)) (fun l s x i => oldO (idxnE l s x i)) idxSK extK lenK appK cpyK minEK a
theorem aK_eq (a : AOp) (tm : T V) (M : Mem) (k : KV) : a.aK tm M k = Out.bind false k (a.ev tm M) := by
  cases a
  case mv => exact mvK_eq ..
  case pick => exact pickK_eq ..
  case alloc z => exact allocK_eq z tm M k
  case box => exact boxK_eq ..
  case ld1 => exact ld1K_eq ..
  case st => exact stK_eq ..
  case nilck => exact nilckK_eq ..
  case ibin => exact ibinK_eq ..
  case shift => exact shiftEK_eq ..
  case beq => exact beqK_eq ..
  case nileq => exact nileqK_eq ..
  case bnot => exact bnotK_eq ..
  case i2i => exact i2iK_eq ..
  case faddr => exact faddrK_eq ..
  case fld1 => exact fld1K_eq ..
  case iaddrA => exact iaddrAK_eq ..
  case iaddrS => exact iaddrSK_eq ..
  case idxS => exact idxSK_eq ..
  case ext => exact extK_eq ..
  case len => exact lenK_eq ..
  case build => exact buildK_eq ..
  case bslice => exact bsliceK_eq ..
  case mkslice => exact mksliceK_eq ..
  case ldn => exact ldnK_eq ..
  case mkfn => exact mkfnK_eq ..
  case fldn => exact fldnK_eq ..
  case app s b x y => exact appK_eq s b x y tm M k
  case cpy => exact cpyK_eq ..
  case min => exact minEK_eq ..
  all_goals rfl

/-! ### What is asked of what is below -/
abbrev KT := T V → List Nat → Mem → Bool
inductive Req where
  | code (c : Code) (rnd : Option Nat) (nt : Nat) (tm : T V) (mk : List Nat) (M : Mem) (kn : KT) (ke : Nat → KT) (kr : KT)
  | call (f : FuncId) (args : List V1) (M : Mem) (k : KV)
  | round (l : Nat) (args : List V1) (M : Mem) (k : KV)
abbrev RK := Req → Bool
noncomputable def Rn.bind (kn : KT) (ke : Nat → KT) (kr : KT) (r : Rn) : Bool := Rn.rec (motive := fun _ => Bool) false kn ke kr r
structure SameR (K : RK) (R : Rec) : Prop where
  code : ∀ c rnd nt tm mk M kn ke kr, K (.code c rnd nt tm mk M kn ke kr) = Rn.bind kn ke kr (R.code c rnd nt tm mk M)
  call : ∀ f args M k, K (.call f args M k) = Out.bind false k (R.call f args M)
  round : ∀ l args M k, K (.round l args M k) = Out.bind false k (R.round l args M)

section
variable {K : RK} {R : Rec}
noncomputable def evsK (l : List AR) (tm : T V) : (List V1 → Bool) → Bool :=
  List.rec (motive := fun _ => (List V1 → Bool) → Bool) (fun k => k []) (fun x _ ih k => ev1K x tm fun v => ih fun vs => k (v :: vs)) l
theorem evsK_eq (tm : T V) (l : List AR) : ∀ k : List V1 → Bool, evsK l tm k = oRec false k (evs l tm) := by
  induction l with
  | nil => intro k; rfl
  | cons x l ih =>
    intro k
    show ev1K x tm (fun v => evsK l tm fun vs => k (v :: vs)) = oRec false k (ev1 none (fun v => (evs l tm).bind fun vs => some (v :: vs)) x tm)
    rw [← ev1K_eq]
    unfold ev1
    cases x.ev tm with
    | none => rfl
    | some v => cases v with
      | one y =>
        show evsK l tm _ = oRec false k ((evs l tm).bind _)
        rw [ih]
        cases evs l tm <;> rfl
      | tup _ => rfl
      | undef => rfl
noncomputable def callEK (f : AR) (args : List AR) (K : RK) : OpK := fun tm M k =>
  evCK f tm (CV.asFn false (fun g caps => evsK args tm fun xs => List.rec (motive := fun _ => Bool) (K (.call g xs M k)) (fun _ _ _ => K (.call g (xs ++ caps.map capV) M k)) caps) (fun l => evsK args tm fun xs => K (.round l xs M k)))
theorem callEK_eq (h : SameR K R) (f : AR) (args : List AR) (tm : T V) (M : Mem) (k : KV) : callEK f args K tm M k = Out.bind false k (callE f args R tm M) := by
  unfold callEK callE
  simp only [bind_evC, bind_asFn, bind_no, bind_oRec, evCK_eq, evsK_eq, ← h.round]
  congr 2; funext g caps
  congr 1; funext xs
  cases caps with
  | nil => rw [List.map_nil, List.append_nil]; exact h.call _ _ _ _
  | cons c r => exact h.call _ _ _ _
noncomputable def AX.aK (x : AX) : RK → OpK := AX.rec (motive := fun _ => RK → OpK) (fun a _ => a.aK) callEK x
theorem axK_eq (h : SameR K R) (x : AX) (tm : T V) (M : Mem) (k : KV) : x.aK K tm M k = Out.bind false k (x.ev R tm M) := by
  cases x with
  | op a => exact aK_eq a tm M k
  | call f args => exact callEK_eq h f args tm M k
noncomputable def putDK (d : Option Nat) (v : V) (tm : T V) (k : T V → Bool) : Bool := Option.rec (motive := fun _ => Bool) (k tm) (fun d => T.setK v (pth d) tm k) d
theorem putDK_eq (d : Option Nat) (v : V) (tm : T V) (k : T V → Bool) : putDK d v tm k = k (putD d v tm) := by
  cases d with
  | none => rfl
  | some d => exact T.setK_eq _ _ _ _
/-- An operation with its guard, its answer laid. -/
noncomputable def CO.aK (c : CO) (K : RK) (tm : T V) (M : Mem) (k : T V → Mem → Bool) : Bool :=
  CO.rec (motive := fun _ => Bool) (fun g d x => Option.rec (motive := fun _ => Bool) (x.aK K tm M fun v M' => putDK d v tm fun tm' => k tm' M')
    (fun p => Prod.rec (motive := fun _ => Bool) (fun j want => T.getK false (fun v => br (V.asC false (CV.asBool false (bSame want)) v) (x.aK K tm M fun v M' => putDK d v tm fun tm' => k tm' M') (putDK d .undef tm fun tm' => k tm' M)) (pth j) tm) p) g) c
theorem coK_eq (h : SameR K R) (c : CO) (tm : T V) (M : Mem) (k : T V → Mem → Bool) : c.aK K tm M k = Out.bind false (fun v M' => k (putD c.dst v tm) M') (c.ev R tm M) := by
  obtain ⟨g, d, x⟩ := c
  cases g with
  | none =>
    show x.aK K tm M _ = Out.bind false _ (x.ev R tm M)
    simp only [axK_eq h, putDK_eq]
  | some p =>
    obtain ⟨j, want⟩ := p
    show T.getK false _ (pth j) tm = Out.bind false _ (CO.ev ⟨some (j, want), d, x⟩ R tm M)
    unfold CO.ev wantG
    rw [T.getK_eq]
    show oRec false _ (tm.get j) = Out.bind false _ (oRec .no (fun b => br b (x.ev R tm M) (.ok .undef M)) (oRec none _ (tm.get j)))
    cases tm.get j with
    | none => rfl
    | some v =>
      show br (V.asC false (CV.asBool false (bSame want)) v) _ _ = Out.bind false _ (br (V.asC false (CV.asBool false (bSame want)) v) _ _)
      rw [bind_br]
      simp only [axK_eq h, putDK_eq]
      rfl
noncomputable def opsK (l : List CO) : RK → T V → Mem → (T V → Mem → Bool) → Bool :=
  List.rec (motive := fun _ => RK → T V → Mem → (T V → Mem → Bool) → Bool) (fun _ tm M k => k tm M) (fun c _ ih K tm M k => c.aK K tm M fun tm' M' => ih K tm' M' k) l
theorem opsK_eq (h : SameR K R) (l : List CO) : ∀ (tm : T V) (M : Mem) (k : T V → Mem → Bool), opsK l K tm M k = St.bind false k (opsE l R tm M) := by
  induction l with
  | nil => intro tm M k; rfl
  | cons c l ih =>
    intro tm M k
    show c.aK K tm M (fun tm' M' => opsK l K tm' M' k) = St.bind false k (Out.bind .no (fun v M' => opsE l R (putD c.dst v tm) M') (c.ev R tm M))
    rw [coK_eq h]
    cases c.ev R tm M with
    | no => rfl
    | ok v M' => exact ih _ _ _
end
end Go.Ab
