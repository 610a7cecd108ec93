/- The operations in continuation form, and that they come to the same. No condition. -/
import Derived.Test.YtelmphlmhnipfaaAbCps1
namespace Go.Ab

section
variable {β : Type}
theorem bind_no (k : V → Mem → Bool) : Out.bind false k .no = false := rfl
theorem bind_ok (k : V → Mem → Bool) (v : V) (M : Mem) : Out.bind false k (.ok v M) = k v M := rfl
theorem bind_okc (k : V → Mem → Bool) (x : CV) (M : Mem) : Out.bind false k (okc x M) = k (.one (.c x)) M := rfl
theorem bind_oRec {α : Type} (k : V → Mem → Bool) (d : Out) (f : α → Out) (o : Option α) : Out.bind false k (oRec d f o) = oRec (Out.bind false k d) (fun a => Out.bind false k (f a)) o := by cases o <;> rfl
theorem bind_okO (k : V → Mem → Bool) (o : Option CV) (M : Mem) : Out.bind false k (okO o M) = oRec false (fun x => k (.one (.c x)) M) o := by cases o <;> rfl
theorem bind_okV (k : V → Mem → Bool) (o : Option V) (M : Mem) : Out.bind false k (okV o M) = oRec false (fun x => k x M) o := by cases o <;> rfl
theorem bind_br (k : V → Mem → Bool) (b : Bool) (x y : Out) : Out.bind false k (br b x y) = br b (Out.bind false k x) (Out.bind false k y) := by cases b <;> rfl
theorem bind_asInt (k : V → Mem → Bool) (d : Out) (f : IntKind → Int → Out) (x : CV) : Out.bind false k (CV.asInt d f x) = CV.asInt (Out.bind false k d) (fun a b => Out.bind false k (f a b)) x := by cases x <;> rfl
theorem bind_asBool (k : V → Mem → Bool) (d : Out) (f : Bool → Out) (x : CV) : Out.bind false k (CV.asBool d f x) = CV.asBool (Out.bind false k d) (fun a => Out.bind false k (f a)) x := by cases x <;> rfl
theorem bind_asStr (k : V → Mem → Bool) (d : Out) (f : List Nat → Out) (x : CV) : Out.bind false k (CV.asStr d f x) = CV.asStr (Out.bind false k d) (fun a => Out.bind false k (f a)) x := by cases x <;> rfl
theorem bind_asPtr (k : V → Mem → Bool) (d : Out) (f : Nat → Nat → Out) (x : CV) : Out.bind false k (CV.asPtr d f x) = CV.asPtr (Out.bind false k d) (fun a b => Out.bind false k (f a b)) x := by cases x <;> rfl
theorem bind_asSlice (k : V → Mem → Bool) (d e : Out) (f : Nat → Nat → Nat → Nat → Nat → Bool → Out) (x : CV) :
    Out.bind false k (CV.asSlice d e f x) = CV.asSlice (Out.bind false k d) (Out.bind false k e) (fun a b c g h i => Out.bind false k (f a b c g h i)) x := by cases x <;> rfl
theorem bind_asFn (k : V → Mem → Bool) (d : Out) (f : FuncId → List (Nat × Nat) → Out) (g : Nat → Out) (x : CV) :
    Out.bind false k (CV.asFn d f g x) = CV.asFn (Out.bind false k d) (fun a b => Out.bind false k (f a b)) (fun l => Out.bind false k (g l)) x := by cases x <;> rfl
theorem bind_evC (k : V → Mem → Bool) (f : CV → Out) (x : AR) (tm : T V) : Out.bind false k (evC .no f x tm) = evC false (fun c => Out.bind false k (f c)) x tm := by
  unfold evC
  cases x.ev tm with
  | none => rfl
  | some v => cases v with
    | one y => cases y <;> rfl
    | tup _ => rfl
    | undef => rfl
theorem bind_ev1 (k : V → Mem → Bool) (f : V1 → Out) (x : AR) (tm : T V) : Out.bind false k (ev1 .no f x tm) = ev1 false (fun c => Out.bind false k (f c)) x tm := by
  unfold ev1
  cases x.ev tm with
  | none => rfl
  | some v => cases v <;> rfl
theorem bind_asAgg (k : V → Mem → Bool) (f : List CV → Out) (v : V) : Out.bind false k (V.asAgg .no f v) = V.asAgg false (fun c => Out.bind false k (f c)) v := by
  cases v with
  | one y => cases y <;> rfl
  | tup _ => rfl
  | undef => rfl
end

/-! ### What an operand is -/
noncomputable def evK (x : AR) (tm : T V) (k : V → Bool) : Bool := AR.rec (motive := fun _ => Bool) (fun n => T.getK false k (pth n) tm) (fun v => k (.one v)) x
theorem evK_eq (x : AR) (tm : T V) (k : V → Bool) : evK x tm k = oRec false k (x.ev tm) := by
  cases x with
  | t n => exact T.getK_eq _ _ _ _
  | v y => rfl
noncomputable def evCK (x : AR) (tm : T V) (k : CV → Bool) : Bool := evK x tm (V.asC false k)
theorem evCK_eq (x : AR) (tm : T V) (k : CV → Bool) : evC false k x tm = evCK x tm k := (evK_eq _ _ _).symm
noncomputable def ev1K (x : AR) (tm : T V) (k : V1 → Bool) : Bool := evK x tm (V.as1 false k)
theorem ev1K_eq (x : AR) (tm : T V) (k : V1 → Bool) : ev1 false k x tm = ev1K x tm k := (evK_eq _ _ _).symm

/-! ### Memory -/
noncomputable def Mem.loadK (M : Mem) (id off : Nat) (k : CV → Bool) : Bool :=
  Mem.rec (motive := fun _ => Bool) (fun _ b => T.getK false (Blk.asCells false fun n c _ => br (Nat.blt off n) (T.getK false k (pth off) c) false) (pth id) b) M
theorem loadK_eq (M : Mem) (id off : Nat) (k : CV → Bool) : M.loadK id off k = oRec false k (M.load id off) := by
  cases M with
  | mk nx b =>
    show T.getK false _ (pth id) b = _
    rw [T.getK_eq]
    show oRec false _ (b.get id) = oRec false k (oRec none _ (b.get id))
    cases b.get id with
    | none => rfl
    | some x => cases x with
      | cells n c wr =>
        show br (Nat.blt off n) (T.getK false k (pth off) c) false = oRec false k (br (Nat.blt off n) (c.get off) none)
        cases Nat.blt off n with
        | true => exact T.getK_eq _ _ _ _
        | false => rfl
      | _ => rfl
noncomputable def putsK (xs : List CV) : T CV → Nat → (T CV → Bool) → Bool :=
  List.rec (motive := fun _ => T CV → Nat → (T CV → Bool) → Bool) (fun t _ k => k t) (fun x _ ih t i k => T.setK x (pth i) t fun t' => forceN (Nat.succ i) fun j => ih t' j k) xs
theorem putsK_eq (xs : List CV) : ∀ (t : T CV) (i : Nat) (k : T CV → Bool), putsK xs t i k = k (T.puts xs t i) := by
  induction xs with
  | nil => intro t i k; rfl
  | cons x xs ih =>
    intro t i k
    show T.setK x (pth i) t (fun t' => forceN (Nat.succ i) fun j => putsK xs t' j k) = k (T.puts xs (t.set i x) (i + 1))
    rw [T.setK_eq, forceN_eq, ih]; rfl
/-- One thing, or so many. -/
noncomputable def storeK (M : Mem) (id off n : Nat) (put : T CV → (T CV → Bool) → Bool) (k : Mem → Bool) : Bool :=
  Mem.rec (motive := fun _ => Bool) (fun nx b => T.getK false (Blk.asCells false fun m c wr => br wr (br (Nat.ble (off + n) m) (put c fun c' => T.setK (.cells m c' true) (pth id) b fun b' => k (.mk nx b')) false) false) (pth id) b) M
theorem storeK_eq (M : Mem) (id off : Nat) (xs : List CV) (put : T CV → (T CV → Bool) → Bool) (n : Nat) (k : Mem → Bool) (hn : n = xs.length) (hp : ∀ c k, put c k = k (T.puts xs c off)) :
    storeK M id off n put k = oRec false k (M.stores id off xs) := by
  subst hn
  cases M with
  | mk nx b =>
    show T.getK false _ (pth id) b = _
    rw [T.getK_eq]
    show oRec false _ (b.get id) = oRec false k (oRec none _ (b.get id))
    cases b.get id with
    | none => rfl
    | some x => cases x with
      | cells n c wr =>
        show br wr (br (Nat.ble (off + xs.length) n) (put c _) false) false = oRec false k (br (wr && Nat.ble (off + xs.length) n) _ none)
        rw [hp]
        cases wr with
        | false => rfl
        | true => cases Nat.ble (off + xs.length) n with
          | false => rfl
          | true => exact T.setK_eq _ _ _ _
      | _ => rfl
end Go.Ab
