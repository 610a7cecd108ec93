/- The run of code, calls and rounds in continuation form, and that it comes to the same. No condition. -/
import Derived.Test.YtelmphlmhnipfaaAbCps5
namespace Go.Ab

/-! ### Blocks -/
noncomputable def Mem.blkK (M : Mem) (id : Nat) (f : Blk → Bool) : Bool := Mem.rec (motive := fun _ => Bool) (fun _ b => T.getK false f (pth id) b) M
theorem blkK_eq (M : Mem) (id : Nat) (f : Blk → Bool) : M.blkK id f = oRec false f (M.b.get id) := by cases M; exact T.getK_eq _ _ _ _
noncomputable def Mem.updK (M : Mem) (id : Nat) (x : Blk) (k : Mem → Bool) : Bool := Mem.rec (motive := fun _ => Bool) (fun nx b => T.setK x (pth id) b fun b' => k (.mk nx b')) M
theorem updK_eq (M : Mem) (id : Nat) (x : Blk) (k : Mem → Bool) : M.updK id x k = k (M.upd id x) := by cases M; exact T.setK_eq _ _ _ _
noncomputable def Mem.putK (M : Mem) (x : Blk) (k : Nat → Mem → Bool) : Bool :=
  Mem.rec (motive := fun _ => Bool) (fun nx b => T.setK x (pth nx) b fun b' => forceN (Nat.succ nx) fun nx' => k nx (.mk nx' b')) M
theorem memPutK_eq (M : Mem) (x : Blk) (k : Nat → Mem → Bool) : M.putK x k = k M.next (M.put x) := by
  cases M
  show T.setK _ _ _ _ = _
  rw [T.setK_eq, forceN_eq]; rfl

theorem bind_asLoop (k : V → Mem → Bool) (f : LoopState → Option Code → T V → Nat → List Tmp → Code → Code → Nat → Out) (x : Blk) :
    Out.bind false k (Blk.asLoop .no f x) = Blk.asLoop false (fun a b c d e g h i => Out.bind false k (f a b c d e g h i)) x := by cases x <;> rfl
theorem rn_oRec {α : Type} (kn : KT) (ke : Nat → KT) (kr : KT) (f : α → Rn) (o : Option α) : Rn.bind kn ke kr (oRec .no f o) = oRec false (fun a => Rn.bind kn ke kr (f a)) o := by cases o <;> rfl
theorem rn_asLoop (kn : KT) (ke : Nat → KT) (kr : KT) (f : LoopState → Option Code → T V → Nat → List Tmp → Code → Code → Nat → Rn) (x : Blk) :
    Rn.bind kn ke kr (Blk.asLoop .no f x) = Blk.asLoop false (fun a b c d e g h i => Rn.bind kn ke kr (f a b c d e g h i)) x := by cases x <;> rfl
theorem rn_asFn (kn : KT) (ke : Nat → KT) (kr : KT) (f : FuncId → List (Nat × Nat) → Rn) (g : Nat → Rn) (x : CV) :
    Rn.bind kn ke kr (CV.asFn .no f g x) = CV.asFn false (fun a b => Rn.bind kn ke kr (f a b)) (fun l => Rn.bind kn ke kr (g l)) x := by cases x <;> rfl
theorem rn_asBool (kn : KT) (ke : Nat → KT) (kr : KT) (f : Bool → Rn) (x : CV) : Rn.bind kn ke kr (CV.asBool .no f x) = CV.asBool false (fun a => Rn.bind kn ke kr (f a)) x := by cases x <;> rfl
theorem rn_evC (kn : KT) (ke : Nat → KT) (kr : KT) (f : CV → Rn) (x : AR) (tm : T V) : Rn.bind kn ke kr (evC .no f x tm) = evC false (fun c => Rn.bind kn ke kr (f c)) x tm := by
  unfold evC
  cases x.ev tm with
  | none => rfl
  | some v => cases v with
    | one y => cases y <;> rfl
    | tup _ => rfl
    | undef => rfl
theorem rn_br (kn : KT) (ke : Nat → KT) (kr : KT) (b : Bool) (x y : Rn) : Rn.bind kn ke kr (br b x y) = br b (Rn.bind kn ke kr x) (Rn.bind kn ke kr y) := by cases b <;> rfl
theorem rn_out (kn : KT) (ke : Nat → KT) (kr : KT) (f : V → Mem → Rn) (o : Out) : Rn.bind kn ke kr (Out.bind .no f o) = Out.bind false (fun v M => Rn.bind kn ke kr (f v M)) o := by cases o <;> rfl

section
variable (P : Program) {K : RK} {R : Rec}
/-! ### A call -/
noncomputable def putVK (xs : List V1) : T V → Nat → (T V → Bool) → Bool :=
  List.rec (motive := fun _ => T V → Nat → (T V → Bool) → Bool) (fun t _ k => k t) (fun x _ ih t i k => T.setK (.one x) (pth i) t fun t' => forceN (Nat.succ i) fun j => ih t' j k) xs
theorem putVK_eq (xs : List V1) : ∀ (t : T V) (i : Nat) (k : T V → Bool), putVK xs t i k = k (T.puts (xs.map V.one) t i) := by
  induction xs with
  | nil => intro t i k; rfl
  | cons x xs ih =>
    intro t i k
    show T.setK (.one x) (pth i) t (fun t' => forceN (Nat.succ i) fun j => putVK xs t' j k) = k (T.puts (xs.map V.one) (t.set i (.one x)) (i + 1))
    rw [T.setK_eq, forceN_eq, ih]; rfl
/-- Are there at most so many? -/
noncomputable def fitsK (k : Bool) (xs : List V1) : Nat → Bool :=
  List.rec (motive := fun _ => Nat → Bool) (fun _ => k) (fun _ _ ih n => Nat.rec (motive := fun _ => Bool) false (fun m _ => ih m) n) xs
theorem fitsK_eq (k : Bool) (xs : List V1) : ∀ n, fitsK k xs n = br (Nat.ble xs.length n) k false := by
  induction xs with
  | nil => intro n; cases n <;> rfl
  | cons x xs ih =>
    intro n
    cases n with
    | zero => rfl
    | succ n => exact ih n
noncomputable def runCF (K : RK) (args : List V1) (M : Mem) (k : KV) (c : CF) : Bool :=
  CF.rec (motive := fun _ => Bool) (fun code nt res => fitsK (putVK args .lf 0 fun tm => K (.code code none nt tm [] M (retK res k) (fun _ _ _ _ => false) (retK res k))) args nt) c
noncomputable def callBK (K : RK) (f : FuncId) (args : List V1) (M : Mem) (k : KV) : Bool := oRec false (runCF K args M k) (cfOf P f)
theorem callBK_eq (h : SameR K R) (f : FuncId) (args : List V1) (M : Mem) (k : KV) : callBK P K f args M k = Out.bind false k (callB P R f args M) := by
  unfold callBK callB
  cases cfOf P f with
  | none => rfl
  | some c =>
    cases c with
    | mk code nt res =>
      show fitsK _ args nt = Out.bind false k (br (Nat.ble args.length nt) _ .no)
      rw [fitsK_eq, putVK_eq, h.code]
      cases Nat.ble args.length nt with
      | false => rfl
      | true =>
        show Rn.bind _ _ _ (R.code code none nt (T.puts (args.map V.one) .lf 0) [] M) = Out.bind false k (Rn.rec .no (retE res) (fun _ _ _ _ => .no) (retE res) (R.code code none nt (T.puts (args.map V.one) .lf 0) [] M))
        cases R.code code none nt (T.puts (args.map V.one) .lf 0) [] M with
        | no => rfl
        | ex _ _ _ _ => rfl
        | nx tm mk M => exact retK_eq _ _ _ _ _
        | rt tm mk M => exact retK_eq _ _ _ _ _

noncomputable def callK (O : FuncId → Bool) (K : RK) (f : FuncId) (args : List V1) (M : Mem) (k : KV) : Bool :=
  br (O f) (oRec false (fun _ => List.rec (motive := fun _ => Bool) (k (.one (.c (.bool true))) M) (fun _ _ _ => false) args) (cfOf P f)) (callBK P K f args M k)
theorem callK_eq (O : FuncId → Bool) (h : SameR K R) (f : FuncId) (args : List V1) (M : Mem) (k : KV) : callK P O K f args M k = Out.bind false k (callA P O R f args M) := by
  unfold callK callA
  cases O f with
  | false => exact callBK_eq P h f args M k
  | true =>
    show oRec false _ (cfOf P f) = Out.bind false k (oRec .no _ (cfOf P f))
    rw [bind_oRec]
    congr 1; funext _
    cases args <;> rfl

/-! ### A round -/
noncomputable def endRoundK (l : Nat) (jump : Option Code) (ok : Bool) (k : KV) : KT := fun _ mk M =>
  List.rec (motive := fun _ => Bool) (M.blkK l (Blk.asLoop false fun _ _ tm nt ps asg body d => M.updK l (.loop (br ok .ready .done) jump tm nt ps asg body d) fun M' => k (.one (.c (.bool ok))) M')) (fun _ _ _ => false) mk
theorem endRoundK_eq (l : Nat) (jump : Option Code) (ok : Bool) (k : KV) (tm : T V) (mk : List Nat) (M : Mem) : endRoundK l jump ok k tm mk M = Out.bind false k (endRound l jump ok tm mk M) := by
  cases mk with
  | cons => rfl
  | nil =>
    show M.blkK l _ = Out.bind false k (oRec .no _ (M.b.get l))
    rw [blkK_eq, bind_oRec]
    simp only [bind_asLoop, bind_okc, updK_eq]
    rfl
noncomputable def midRoundK (K : RK) (l nt : Nat) (body : Code) (k : KV) : KT := fun tm mk M =>
  List.rec (motive := fun _ => Bool) (M.blkK l (Blk.asLoop false fun st pend tm' nt' ps asg body' d =>
    br (isReady st) (M.updK l (.loop .busy pend tm' nt' ps asg body' d) fun M' => K (.code body (some l) nt tm [] M' (endRoundK l none true k) (fun id => endRoundK l (some (.exit id)) false k) (endRoundK l (some .ret) false k))) false)) (fun _ _ _ => false) mk
theorem midRoundK_eq (h : SameR K R) (l nt : Nat) (body : Code) (k : KV) (tm : T V) (mk : List Nat) (M : Mem) : midRoundK K l nt body k tm mk M = Out.bind false k (midRound R l nt body tm mk M) := by
  cases mk with
  | cons => rfl
  | nil =>
    show M.blkK l _ = Out.bind false k (oRec .no _ (M.b.get l))
    rw [blkK_eq, bind_oRec]
    simp only [bind_asLoop, bind_br, updK_eq, h.code]
    show oRec false _ (M.b.get l) = oRec false _ (M.b.get l)
    congr 1; funext x; congr 1; funext st pend tm' nt' ps asg body' d
    congr 1
    cases R.code body (some l) nt tm [] (M.upd l (.loop .busy pend tm' nt' ps asg body' d)) with
    | no => rfl
    | nx tm mk M => exact endRoundK_eq _ _ _ _ _ _ _
    | ex id tm mk M => exact endRoundK_eq _ _ _ _ _ _ _
    | rt tm mk M => exact endRoundK_eq _ _ _ _ _ _ _
noncomputable def bindK (ps : List Tmp) : List V1 → T V → Nat → (T V → Bool) → Bool :=
  List.rec (motive := fun _ => List V1 → T V → Nat → (T V → Bool) → Bool) (fun vs tm _ k => List.rec (motive := fun _ => Bool) (k tm) (fun _ _ _ => false) vs)
    (fun t _ ih vs tm nt k => List.rec (motive := fun _ => Bool) false (fun v vs _ => br (Nat.blt t nt) (T.setK (.one v) (pth t) tm fun tm' => ih vs tm' nt k) false) vs) ps
theorem bindK_eq (ps : List Tmp) : ∀ (vs : List V1) (tm : T V) (nt : Nat) (k : T V → Bool), bindK ps vs tm nt k = oRec false k (bindA ps vs tm nt) := by
  induction ps with
  | nil => intro vs tm nt k; cases vs <;> rfl
  | cons t ps ih =>
    intro vs tm nt k
    cases vs with
    | nil => rfl
    | cons v vs =>
      show br (Nat.blt t nt) (T.setK (.one v) (pth t) tm fun tm' => bindK ps vs tm' nt k) false = oRec false k (br (Nat.blt t nt) (bindA ps vs (tm.set t (.one v)) nt) none)
      rw [T.setK_eq, ih]
      cases Nat.blt t nt <;> rfl
noncomputable def roundK (K : RK) (l : Nat) (args : List V1) (M : Mem) (k : KV) : Bool :=
  M.blkK l (Blk.asLoop false fun _ _ tm nt ps asg body _ => bindK ps args tm nt fun tm1 =>
    K (.code asg (some l) nt tm1 [] M (midRoundK K l nt body k) (fun _ _ _ _ => false) (fun _ _ _ => false)))
theorem roundK_eq (h : SameR K R) (l : Nat) (args : List V1) (M : Mem) (k : KV) : roundK K l args M k = Out.bind false k (roundA R l args M) := by
  unfold roundK roundA
  rw [blkK_eq, bind_oRec]
  simp only [bind_asLoop, bindK_eq, bind_oRec, h.code]
  congr 1; funext x; congr 1; funext st pend tm nt ps asg body d; congr 1; funext tm1
  cases R.code asg (some l) nt tm1 [] M with
  | no => rfl
  | nx tm mk M => exact midRoundK_eq h _ _ _ _ _ _ _
  | ex id tm mk M => rfl
  | rt tm mk M => rfl

/-! ### A range over a function -/
noncomputable def jumpK (pend : Option Code) (tm : T V) (mk : List Nat) (M : Mem) (kn : KT) (ke : Nat → KT) (kr : KT) : Bool :=
  Option.rec (motive := fun _ => Bool) (kn tm mk M) (fun c => Rn.bind kn ke kr (jumpE (some c) tm mk M)) pend
theorem jumpK_eq (pend : Option Code) (tm : T V) (mk : List Nat) (M : Mem) (kn : KT) (ke : Nat → KT) (kr : KT) : jumpK pend tm mk M kn ke kr = Rn.bind kn ke kr (jumpE pend tm mk M) := by cases pend <;> rfl
noncomputable def endRangeK (l : Nat) (tm : T V) (mk : List Nat) (M : Mem) (kn : KT) (ke : Nat → KT) (kr : KT) : Bool :=
  M.blkK l (Blk.asLoop false fun st pend tm' nt ps asg body d => br (isBusy st) false (M.updK l (.loop .exhausted pend tm' nt ps asg body d) fun M' => jumpK pend tm mk M' kn ke kr))
theorem endRangeK_eq (l : Nat) (tm : T V) (mk : List Nat) (M : Mem) (kn : KT) (ke : Nat → KT) (kr : KT) : endRangeK l tm mk M kn ke kr = Rn.bind kn ke kr (endRange l tm mk M) := by
  unfold endRangeK endRange
  rw [blkK_eq, rn_oRec]
  simp only [rn_asLoop, rn_br, updK_eq, jumpK_eq]
  rfl
noncomputable def range1K (K : RK) (g : AR) (ps : List Tmp) (asg body : Code) (nt : Nat) (tm : T V) (d : Nat) (mk : List Nat) (M : Mem) (kn : KT) (ke : Nat → KT) (kr : KT) : Bool :=
  evCK g tm (CV.asFn false (fun h caps => M.putK (.loop .ready none tm nt ps asg body d) fun l M1 => K (.call h (.c (.yld l) :: caps.map capV) M1 fun _ M' => endRangeK l tm mk M' kn ke kr)) (fun _ => false))
theorem range1K_eq (h : SameR K R) (g : AR) (ps : List Tmp) (asg body : Code) (nt : Nat) (tm : T V) (d : Nat) (mk : List Nat) (M : Mem) (kn : KT) (ke : Nat → KT) (kr : KT) :
    range1K K g ps asg body nt tm d mk M kn ke kr = Rn.bind kn ke kr (range1 R g ps asg body nt tm d mk M) := by
  unfold range1K range1
  rw [rn_evC, ← evCK_eq]
  simp only [rn_asFn, memPutK_eq, h.call, endRangeK_eq, rn_out]
  rfl
noncomputable def rangeK (K : RK) (rnd : Option Nat) (g : AR) (ps : List Tmp) (asg body : Code) (nt : Nat) (tm : T V) (mk : List Nat) (M : Mem) (kn : KT) (ke : Nat → KT) (kr : KT) : Bool :=
  Option.rec (motive := fun _ => Bool) (M.putK (.dfr true) fun d M' => range1K K g ps asg body nt tm d (d :: mk) M' kn ke kr)
    (fun l => M.blkK l (Blk.asLoop false fun _ _ _ _ _ _ _ d => range1K K g ps asg body nt tm d mk M kn ke kr)) rnd
theorem rangeK_eq (h : SameR K R) (rnd : Option Nat) (g : AR) (ps : List Tmp) (asg body : Code) (nt : Nat) (tm : T V) (mk : List Nat) (M : Mem) (kn : KT) (ke : Nat → KT) (kr : KT) :
    rangeK K rnd g ps asg body nt tm mk M kn ke kr = Rn.bind kn ke kr (rangeA R rnd g ps asg body nt tm mk M) := by
  cases rnd with
  | none =>
    unfold rangeK rangeA
    dsimp only
    rw [memPutK_eq]
    exact range1K_eq h _ _ _ _ _ _ _ _ _ _ _ _
  | some l =>
    show M.blkK l _ = Rn.bind kn ke kr (oRec .no _ (M.b.get l))
    rw [blkK_eq, rn_oRec]
    simp only [rn_asLoop, range1K_eq h]

/-! ### Code -/
abbrev CK' := Program → RK → Option Nat → Nat → T V → List Nat → Mem → KT → (Nat → KT) → KT → Bool
noncomputable def skipK : CK' := fun _ _ _ _ tm mk M kn _ _ => kn tm mk M
noncomputable def regionK (_ : Nat) (ops : Array Oper) (draw : Bool) : CK' := fun P K _ nt tm mk M kn _ _ =>
  br draw (drawRK P ops nt K tm M fun tm' M' => kn tm' mk M') (listRK P ops nt K tm M fun tm' M' => kn tm' mk M')
noncomputable def seqK (a b : Code) (_ _ : CK') : CK' := fun _ K rnd nt tm mk M kn ke kr => K (.code a rnd nt tm mk M (fun tm mk M => K (.code b rnd nt tm mk M kn ke kr)) ke kr)
noncomputable def condK (x : Operand) (a b : Code) (_ _ : CK') : CK' := fun _ K rnd nt tm mk M kn ke kr =>
  oRec false (fun x => evCK x tm (CV.asBool false fun t => br t (K (.code a rnd nt tm mk M kn ke kr)) (K (.code b rnd nt tm mk M kn ke kr)))) (arOf x)
noncomputable def blockK (id : Nat) (c : Code) (_ : CK') : CK' := fun _ K rnd nt tm mk M kn ke kr =>
  K (.code c rnd nt tm mk M kn (fun id' tm mk M => br (Nat.beq id' id) (kn tm mk M) (ke id' tm mk M)) kr)
noncomputable def loopK (c : Code) (_ : CK') : CK' := fun _ K rnd nt tm mk M kn ke kr => K (.code c rnd nt tm mk M (fun tm mk M => K (.code (.loop c) rnd nt tm mk M kn ke kr)) ke kr)
noncomputable def rngK (g : Operand) (ps : Array Tmp) (asg body : Code) (_ _ : CK') : CK' := fun _ K rnd nt tm mk M kn ke kr =>
  oRec false (fun g => rangeK K rnd g ps.toList asg body nt tm mk M kn ke kr) (arOf g)
noncomputable def exitK (id : Nat) : CK' := fun _ _ _ _ tm mk M _ ke _ => ke id tm mk M
noncomputable def nonK : CK' := fun _ _ _ _ _ _ _ _ _ _ => false
noncomputable def retCK : CK' := fun _ _ _ _ tm mk M _ _ kr => kr tm mk M
noncomputable def codeK (c : Code) : CK' :=
  Code.rec (motive := fun _ => CK') skipK regionK seqK condK blockK loopK rngK exitK (fun _ _ => nonK) (fun _ => skipK) (fun _ => nonK) retCK (fun _ => nonK) c
theorem codeK_eq (h : SameR K R) (c : Code) (rnd : Option Nat) (nt : Nat) (tm : T V) (mk : List Nat) (M : Mem) (kn : KT) (ke : Nat → KT) (kr : KT) :
    codeK c P K rnd nt tm mk M kn ke kr = Rn.bind kn ke kr (codeA P R c rnd nt tm mk M) := by
  cases c with
  | skip => rfl
  | region pos ops draw =>
    show br draw _ _ = Rn.bind kn ke kr (St.bind .no (fun tm' M' => .nx tm' mk M') (br draw (drawR P ops nt R tm M) (listR P ops nt R tm M)))
    rw [drawRK_eq P h, listRK_eq P h]
    cases draw with
    | true => show St.bind false _ (drawR P ops nt R tm M) = Rn.bind kn ke kr (St.bind .no _ (drawR P ops nt R tm M)); cases drawR P ops nt R tm M <;> rfl
    | false => show St.bind false _ (listR P ops nt R tm M) = Rn.bind kn ke kr (St.bind .no _ (listR P ops nt R tm M)); cases listR P ops nt R tm M <;> rfl
  | seq a b =>
    show K (.code a rnd nt tm mk M _ ke kr) = Rn.bind kn ke kr (Rn.rec .no (fun tm mk M => R.code b rnd nt tm mk M) .ex .rt (R.code a rnd nt tm mk M))
    simp only [h.code]
    cases R.code a rnd nt tm mk M <;> rfl
  | cond x a b =>
    show oRec false _ (arOf x) = Rn.bind kn ke kr (oRec .no _ (arOf x))
    rw [rn_oRec]
    simp only [rn_evC, rn_asBool, ← evCK_eq, h.code]
    congr 1; funext x; congr 1; funext v; congr 1; funext t
    cases t <;> rfl
  | block id c =>
    show K (.code c rnd nt tm mk M kn _ kr) = Rn.bind kn ke kr (Rn.rec .no .nx (fun id' tm mk M => br (Nat.beq id' id) (.nx tm mk M) (.ex id' tm mk M)) .rt (R.code c rnd nt tm mk M))
    rw [h.code]
    cases R.code c rnd nt tm mk M with
    | ex id' tm mk M => show br _ _ _ = Rn.bind kn ke kr (br (Nat.beq id' id) (.nx tm mk M) (.ex id' tm mk M)); rw [rn_br]; rfl
    | _ => rfl
  | loop c =>
    show K (.code c rnd nt tm mk M _ ke kr) = Rn.bind kn ke kr (Rn.rec .no (fun tm mk M => R.code (.loop c) rnd nt tm mk M) .ex .rt (R.code c rnd nt tm mk M))
    simp only [h.code]
    cases R.code c rnd nt tm mk M <;> rfl
  | rangeFunc g ps asg body =>
    show oRec false _ (arOf g) = Rn.bind kn ke kr (oRec .no _ (arOf g))
    rw [rn_oRec]
    simp only [rangeK_eq h]
  | exit id => rfl
  | scope => rfl
  | label => rfl
  | goto => rfl
  | ret => rfl
  | refuse => rfl

/-! ### The run -/
noncomputable def stepK (O : FuncId → Bool) (K : RK) : RK := fun q =>
  Req.rec (motive := fun _ => Bool) (fun c rnd nt tm mk M kn ke kr => codeK c P K rnd nt tm mk M kn ke kr) (fun f args M k => callK P O K f args M k) (fun l args M k => roundK K l args M k) q
noncomputable def runK (O : FuncId → Bool) (n : Nat) : RK := Nat.rec (motive := fun _ => RK) (fun _ => false) (fun _ K => stepK P O K) n
theorem runK_same (O : FuncId → Bool) : ∀ n, SameR (runK P O n) (runA P O n) := by
  intro n
  induction n with
  | zero => exact ⟨fun _ _ _ _ _ _ _ _ _ => rfl, fun _ _ _ _ => rfl, fun _ _ _ _ => rfl⟩
  | succ n ih =>
    exact ⟨fun c rnd nt tm mk M kn ke kr => codeK_eq P ih c rnd nt tm mk M kn ke kr, fun f args M k => callK_eq P O ih f args M k, fun l args M k => roundK_eq ih l args M k⟩
noncomputable def tellK : KV := fun v _ => V.asC false (CV.asBool false fun b => b) v
/-- Does a call without arguments answer true? In continuation form. -/
noncomputable def tellsTrue (O : FuncId → Bool) (n : Nat) (f : FuncId) : Bool := runK P O n (.call f [] M0 tellK)
theorem tellsTrue_eq (O : FuncId → Bool) (n : Nat) (f : FuncId) : tellsTrue P O n f = saysTrue P O n f := (runK_same P O n).call f [] M0 tellK
end
end Go.Ab
