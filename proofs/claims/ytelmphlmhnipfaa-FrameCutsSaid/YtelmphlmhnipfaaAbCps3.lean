/- The operations in continuation form, and that they come to the same. No condition. -/
import Derived.Test.YtelmphlmhnipfaaAbCps2
namespace Go.Ab

theorem beq_comm' (a b : Nat) : Nat.beq a b = Nat.beq b a := by
  rw [Bool.eq_iff_iff]
  exact ⟨fun h => by rw [Nat.eq_of_beq_eq_true h]; exact Nat.beq_refl _, fun h => by rw [Nat.eq_of_beq_eq_true h]; exact Nat.beq_refl _⟩
abbrev KV := V → Mem → Bool
noncomputable def mvK (x : AR) (tm : T V) (M : Mem) (k : KV) : Bool := evK x tm fun v => k v M
noncomputable def pickK (c a b : AR) (tm : T V) (M : Mem) (k : KV) : Bool := evCK c tm (CV.asBool false fun t => br t (evK a tm fun v => k v M) (evK b tm fun v => k v M))
noncomputable def ld1K (a : AR) (tm : T V) (M : Mem) (k : KV) : Bool := evCK a tm (CV.asPtr false fun id off => M.loadK id off fun x => k (.one (.c x)) M)
noncomputable def stK (s : Nat) (a x : AR) (tm : T V) (M : Mem) (k : KV) : Bool :=
  evCK a tm (CV.asPtr false fun id off => ev1K x tm fun y => V1.rec (motive := fun _ => Bool)
    (fun c => br (Nat.beq s 1) (storeK M id off 1 (T.setK c (pth off)) (k .undef)) false)
    (fun xs => br (Nat.beq xs.length s) (storeK M id off s (fun t => putsK xs t off) (k .undef)) false) y)
noncomputable def nilckK (x : AR) (tm : T V) (M : Mem) (k : KV) : Bool :=
  evCK x tm fun v => CV.rec (motive := fun _ => Bool) (fun _ => false) (fun _ _ => false) (fun _ => false) (fun _ _ => k (.one (.c v)) M) false (fun _ _ _ _ _ _ => false) false (fun _ _ => k (.one (.c v)) M) (fun _ => k (.one (.c v)) M) false false (fun _ => false) false v
noncomputable def ibinK (op : BinOp) (x y : AR) (tm : T V) (M : Mem) (k : KV) : Bool :=
  evCK x tm (CV.asInt false fun kx a => evCK y tm (CV.asInt false fun l b => br (kSame kx l) (intK op kx a b fun c => k (.one (.c c)) M) false))
noncomputable def shiftEK (op : BinOp) (x y : AR) (tm : T V) (M : Mem) (k : KV) : Bool :=
  evCK x tm (CV.asInt false fun kx a => evCK y tm (CV.asInt false fun _ b => br (ltI b 0) false (shiftKK op kx a b fun c => k (.one (.c c)) M)))
noncomputable def okBK (neg : Bool) (M : Mem) (k : KV) (b : Bool) : Bool := Bool.rec (motive := fun _ => Bool) (k (.one (.c (.bool neg))) M) (k (.one (.c (.bool (br neg false true)))) M) b
noncomputable def beqK (neg : Bool) (x y : AR) (tm : T V) (M : Mem) (k : KV) : Bool :=
  evCK x tm (CV.asBool false fun a => evCK y tm (CV.asBool false fun b => okBK neg M k (bSame a b)))
noncomputable def nileqK (neg : Bool) (n : NK) (x y : AR) (tm : T V) (M : Mem) (k : KV) : Bool :=
  evCK x tm fun a => evCK y tm fun b => oRec false (okBK neg M k) (nilEq n a b)
noncomputable def bnotK (x : AR) (tm : T V) (M : Mem) (k : KV) : Bool := evCK x tm (CV.asBool false fun b => Bool.rec (motive := fun _ => Bool) (k (.one (.c (.bool true))) M) (k (.one (.c (.bool false))) M) b)
noncomputable def i2iK (d : IntKind) (x : AR) (tm : T V) (M : Mem) (k : KV) : Bool := evCK x tm (CV.asInt false fun _ n => wrapK d n fun n => k (.one (.c (.int d n))) M)
noncomputable def faddrK (o : Nat) (x : AR) (tm : T V) (M : Mem) (k : KV) : Bool := evCK x tm (CV.asPtr false fun id off => forceN (Nat.add off o) fun n => k (.one (.c (.ptr id n))) M)
noncomputable def agK (x : AR) (tm : T V) (k : List CV → Bool) : Bool := evK x tm (V.asAgg false k)
noncomputable def fld1K (o : Nat) (x : AR) (tm : T V) (M : Mem) (k : KV) : Bool := agK x tm fun cs => oRec false (fun c => k (.one (.c c)) M) (cell1 cs o)
noncomputable def natK (i : AR) (tm : T V) (k : Nat → Bool) : Bool := evCK i tm (CV.asInt false fun _ n => Int.rec (motive := fun _ => Bool) k (fun _ => false) n)
noncomputable def iaddrAK (len s : Nat) (x i : AR) (tm : T V) (M : Mem) (k : KV) : Bool :=
  evCK x tm (CV.asPtr false fun id off => natK i tm fun i => br (Nat.blt i len) (forceN (Nat.add off (Nat.mul i s)) fun n => k (.one (.c (.ptr id n))) M) false)
noncomputable def iaddrSK (s : Nat) (x i : AR) (tm : T V) (M : Mem) (k : KV) : Bool :=
  evCK x tm (CV.asSlice false false fun id off len _ es _ => natK i tm fun i => br (Nat.blt i len) (br (Nat.beq s es) (forceN (Nat.add off (Nat.mul i s)) fun n => k (.one (.c (.ptr id n))) M) false) false)
noncomputable def lenK (str : Bool) (x : AR) (tm : T V) (M : Mem) (k : KV) : Bool :=
  evCK x tm (br str (CV.asStr false fun s => forceN s.length fun n => k (.one (.c (.int .i64 (.ofNat n)))) M)
    (CV.asSlice false (k (.one (.c (.int .i64 (.ofNat 0)))) M) fun _ _ n _ _ _ => k (.one (.c (.int .i64 (.ofNat n)))) M))
noncomputable def idxSK (x i : AR) (tm : T V) (M : Mem) (k : KV) : Bool :=
  evCK x tm (CV.asStr false fun s => natK i tm fun i => oRec false (fun b => forceN b fun b => k (.one (.c (.int .u8 (.ofNat b)))) M) (s[i]?))
noncomputable def extK (i : Nat) (x : AR) (tm : T V) (M : Mem) (k : KV) : Bool :=
  evK x tm (V.rec (motive := fun _ => Bool) (fun _ => false) (fun vs => oRec false (fun y => k (.one y) M) (vs[i]?)) false)
noncomputable def newK (M : Mem) (xs : List CV) (k : Nat → Mem → Bool) : Bool :=
  Mem.rec (motive := fun _ => Bool) (fun nx b => forceN xs.length fun n => putsK xs .lf 0 fun c => T.setK (.cells n c true) (pth nx) b fun b' => forceN (Nat.succ nx) fun nx' => k nx (.mk nx' b')) M
theorem newK_eq (M : Mem) (xs : List CV) (k : Nat → Mem → Bool) : newK M xs k = k M.next (M.new xs) := by
  cases M with
  | mk nx b =>
    show (forceN xs.length fun n => putsK xs .lf 0 fun c => T.setK (.cells n c true) (pth nx) b fun b' => forceN (Nat.succ nx) fun nx' => k nx (.mk nx' b')) = _
    rw [forceN_eq, putsK_eq, T.setK_eq, forceN_eq]; rfl
noncomputable def layK (M : Mem) (cs : List CV) (v : Nat → CV) (k : KV) : Bool := newK M cs fun id M' => k (.one (.c (v id))) M'
theorem bind_lay (k : KV) (M : Mem) (cs : List CV) (v : Nat → CV) : Out.bind false k (lay M cs v) = layK M cs v k := (newK_eq M cs fun id M' => k (.one (.c (v id))) M').symm
noncomputable def allocK (z : List CV) (_ : T V) (M : Mem) (k : KV) : Bool := layK M z ptr0 k
noncomputable def boxK (x : AR) (tm : T V) (M : Mem) (k : KV) : Bool := ev1K x tm fun v => layK M v.cells ptr0 k

theorem mvK_eq (x : AR) (tm : T V) (M : Mem) (k : KV) : mvK x tm M k = Out.bind false k (mvE x tm M) := by
  unfold mvK mvE; rw [evK_eq, bind_okV]
theorem pickK_eq (c a b : AR) (tm : T V) (M : Mem) (k : KV) : pickK c a b tm M k = Out.bind false k (pickE c a b tm M) := by
  unfold pickK pickE
  simp only [bind_evC, bind_asBool, bind_no, bind_okV, evCK_eq]
  congr 2; funext t; cases t <;> exact evK_eq _ _ _
theorem ld1K_eq (a : AR) (tm : T V) (M : Mem) (k : KV) : ld1K a tm M k = Out.bind false k (ld1E a tm M) := by
  unfold ld1K ld1E
  simp only [bind_evC, bind_asPtr, bind_no, bind_okO, evCK_eq, loadK_eq]
theorem stK_eq (s : Nat) (a x : AR) (tm : T V) (M : Mem) (k : KV) : stK s a x tm M k = Out.bind false k (stE s a x tm M) := by
  unfold stK stE
  simp only [bind_evC, bind_asPtr, bind_ev1, bind_no, bind_br, bind_oRec, bind_ok, evCK_eq, ev1K_eq]
  congr 2; funext id off; congr 1; funext y
  cases y with
  | c c =>
    show br (Nat.beq s 1) _ false = br (Nat.beq 1 s) _ false
    rw [storeK_eq M id off [c] _ 1 _ rfl (fun t k => T.setK_eq _ _ _ _), beq_comm' s 1]; rfl
  | agg xs =>
    show br (Nat.beq xs.length s) _ false = br (Nat.beq xs.length s) _ false
    rw [br_eq, br_eq]
    split
    · next h => rw [storeK_eq M id off xs _ s _ (Nat.eq_of_beq_eq_true h).symm (fun t k => putsK_eq _ _ _ _)]; rfl
    · rfl
theorem nilckK_eq (x : AR) (tm : T V) (M : Mem) (k : KV) : nilckK x tm M k = Out.bind false k (nilckE x tm M) := by
  unfold nilckK nilckE
  simp only [bind_evC, evCK_eq]
  congr 1; funext v; cases v <;> rfl
theorem ibinK_eq (op : BinOp) (x y : AR) (tm : T V) (M : Mem) (k : KV) : ibinK op x y tm M k = Out.bind false k (ibinE op x y tm M) := by
  unfold ibinK ibinE
  simp only [bind_evC, bind_asInt, bind_no, bind_br, bind_okO, evCK_eq, intK_eq]
theorem shiftEK_eq (op : BinOp) (x y : AR) (tm : T V) (M : Mem) (k : KV) : shiftEK op x y tm M k = Out.bind false k (shiftE op x y tm M) := by
  unfold shiftEK shiftE
  simp only [bind_evC, bind_asInt, bind_no, bind_br, bind_okO, evCK_eq, shiftKK_eq, ltI_eq]
theorem okBK_eq (neg : Bool) (M : Mem) (k : KV) (b : Bool) : okBK neg M k b = Out.bind false k (okB neg M b) := by cases b <;> cases neg <;> rfl
theorem beqK_eq (neg : Bool) (x y : AR) (tm : T V) (M : Mem) (k : KV) : beqK neg x y tm M k = Out.bind false k (beqE neg x y tm M) := by
  unfold beqK beqE
  simp only [bind_evC, bind_asBool, bind_no, evCK_eq, okBK_eq]
theorem nileqK_eq (neg : Bool) (n : NK) (x y : AR) (tm : T V) (M : Mem) (k : KV) : nileqK neg n x y tm M k = Out.bind false k (nileqE neg n x y tm M) := by
  unfold nileqK nileqE
  simp only [bind_evC, bind_oRec, bind_no, evCK_eq, show okBK neg M k = fun b => Out.bind false k (okB neg M b) from funext fun b => okBK_eq neg M k b]
theorem bnotK_eq (x : AR) (tm : T V) (M : Mem) (k : KV) : bnotK x tm M k = Out.bind false k (bnotE x tm M) := by
  unfold bnotK bnotE
  simp only [bind_evC, bind_asBool, bind_no, bind_okc, evCK_eq]
  congr 2; funext b; cases b <;> rfl
theorem i2iK_eq (d : IntKind) (x : AR) (tm : T V) (M : Mem) (k : KV) : i2iK d x tm M k = Out.bind false k (i2iE d x tm M) := by
  unfold i2iK i2iE
  simp only [bind_evC, bind_asInt, bind_no, bind_okc, evCK_eq, wrapK_eq]
theorem faddrK_eq (o : Nat) (x : AR) (tm : T V) (M : Mem) (k : KV) : faddrK o x tm M k = Out.bind false k (faddrE o x tm M) := by
  unfold faddrK faddrE
  simp only [bind_evC, bind_asPtr, bind_no, bind_okc, evCK_eq, forceN_eq]; rfl
theorem agK_eq (x : AR) (tm : T V) (k : List CV → Bool) : agK x tm k = oRec false (V.asAgg false k) (x.ev tm) := evK_eq _ _ _
theorem fld1K_eq (o : Nat) (x : AR) (tm : T V) (M : Mem) (k : KV) : fld1K o x tm M k = Out.bind false k (fld1E o x tm M) := by
  unfold fld1K fld1E
  simp only [bind_oRec, bind_asAgg, bind_no, bind_okO, agK_eq]
theorem natK_eq (i : AR) (tm : T V) (k : KV) (f : Nat → Out) : Out.bind false k (nat' f i tm) = natK i tm fun n => Out.bind false k (f n) := by
  unfold nat' natK
  simp only [bind_evC, bind_asInt, bind_no, bind_oRec, evCK_eq]
  congr 1; funext c; cases c with
  | int kx n => cases n <;> rfl
  | _ => rfl
theorem iaddrAK_eq (len s : Nat) (x i : AR) (tm : T V) (M : Mem) (k : KV) : iaddrAK len s x i tm M k = Out.bind false k (iaddrAE len s x i tm M) := by
  unfold iaddrAK iaddrAE
  simp only [bind_evC, bind_asPtr, bind_no, natK_eq, bind_br, bind_okc, evCK_eq, forceN_eq]; rfl
theorem iaddrSK_eq (s : Nat) (x i : AR) (tm : T V) (M : Mem) (k : KV) : iaddrSK s x i tm M k = Out.bind false k (iaddrSE s x i tm M) := by
  unfold iaddrSK iaddrSE
  simp only [bind_evC, bind_asSlice, bind_no, natK_eq, bind_br, bind_okc, evCK_eq, forceN_eq]
  congr 2; funext id off len cap es opn; congr 1; funext i
  cases Nat.blt i len <;> rfl
theorem lenK_eq (str : Bool) (x : AR) (tm : T V) (M : Mem) (k : KV) : lenK str x tm M k = Out.bind false k (lenE str x tm M) := by
  unfold lenK lenE
  simp only [bind_evC, evCK_eq]
  congr 1; funext c; cases str <;> cases c <;> rfl
theorem idxSK_eq (x i : AR) (tm : T V) (M : Mem) (k : KV) : idxSK x i tm M k = Out.bind false k (idxSE x i tm M) := by
  unfold idxSK idxSE
  simp only [bind_evC, bind_asStr, bind_no, natK_eq, bind_oRec, bind_okc, evCK_eq, forceN_eq]
theorem extK_eq (i : Nat) (x : AR) (tm : T V) (M : Mem) (k : KV) : extK i x tm M k = Out.bind false k (extE i x tm M) := by
  unfold extK extE
  rw [evK_eq, bind_oRec]
  cases x.ev tm with
  | none => rfl
  | some v => cases v with
    | one _ => rfl
    | undef => rfl
    | tup vs => show oRec false _ _ = Out.bind false k (oRec .no _ _); rw [bind_oRec]; rfl
theorem allocK_eq (z : List CV) (tm : T V) (M : Mem) (k : KV) : allocK z tm M k = Out.bind false k (allocE z tm M) := (bind_lay k M z ptr0).symm
theorem boxK_eq (x : AR) (tm : T V) (M : Mem) (k : KV) : boxK x tm M k = Out.bind false k (boxE x tm M) := by
  unfold boxK boxE
  simp only [bind_ev1, bind_lay, ev1K_eq]
end Go.Ab
