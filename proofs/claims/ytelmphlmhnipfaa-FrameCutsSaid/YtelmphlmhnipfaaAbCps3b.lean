/- More operations in continuation form (runs of cells, appends, builds), and that they come to the same. No condition. -/
import Derived.Test.YtelmphlmhnipfaaAbCps3
namespace Go.Ab

/-! ### Runs of cells -/
noncomputable def getsK (t : T CV) (n : Nat) : Nat → (List CV → Bool) → Bool :=
  Nat.rec (motive := fun _ => Nat → (List CV → Bool) → Bool) (fun _ k => k [])
    (fun _ ih i k => T.getK false (fun x => forceN (Nat.succ i) fun j => ih j fun xs => k (x :: xs)) (pth i) t) n
theorem getsK_eq (t : T CV) (n : Nat) : ∀ (i : Nat) (k : List CV → Bool), getsK t n i k = oRec false k (t.gets n i) := by
  induction n with
  | zero => intro i k; rfl
  | succ n ih =>
    intro i k
    show T.getK false (fun x => forceN (Nat.succ i) fun j => getsK t n j fun xs => k (x :: xs)) (pth i) t = oRec false k ((t.get i).bind fun x => (t.gets n (i + 1)).bind fun xs => some (x :: xs))
    rw [T.getK_eq]
    show oRec false _ (t.get i) = _
    cases t.get i with
    | none => rfl
    | some x =>
      show forceN (Nat.succ i) (fun j => getsK t n j fun xs => k (x :: xs)) = oRec false k ((t.gets n (i + 1)).bind fun xs => some (x :: xs))
      rw [forceN_eq, ih]
      show oRec false _ (t.gets n (i + 1)) = _
      cases t.gets n (i + 1) <;> rfl
noncomputable def Mem.loadsK (M : Mem) (id off n : Nat) (k : List CV → Bool) : Bool :=
  Mem.rec (motive := fun _ => Bool) (fun _ b => T.getK false (Blk.asCells false fun m c _ => br (Nat.ble (off + n) m) (getsK c n off k) false) (pth id) b) M
theorem loadsK_eq (M : Mem) (id off n : Nat) (k : List CV → Bool) : M.loadsK id off n k = oRec false k (M.loads id off n) := by
  cases M with
  | mk nx b =>
    show T.getK false _ (pth id) b = _
    rw [T.getK_eq]
    show oRec false _ (b.get id) = oRec false k (oRec none _ (b.get id))
    cases b.get id with
    | none => rfl
    | some x => cases x with
      | cells m c wr =>
        show br (Nat.ble (off + n) m) (getsK c n off k) false = oRec false k (br (Nat.ble (off + n) m) (c.gets n off) none)
        rw [getsK_eq]
        cases Nat.ble (off + n) m <;> rfl
      | _ => rfl
noncomputable def ldnK (s : Nat) (a : AR) (tm : T V) (M : Mem) (k : KV) : Bool := evCK a tm (CV.asPtr false fun id off => M.loadsK id off s fun l => k (.one (.agg l)) M)
theorem ldnK_eq (s : Nat) (a : AR) (tm : T V) (M : Mem) (k : KV) : ldnK s a tm M k = Out.bind false k (ldnE s a tm M) := by
  unfold ldnK ldnE
  simp only [bind_evC, bind_asPtr, bind_no, bind_oRec, evCK_eq, loadsK_eq, bind_ok]

noncomputable def takeK (l : List CV) : Nat → (List CV → Bool) → Bool :=
  List.rec (motive := fun _ => Nat → (List CV → Bool) → Bool) (fun _ k => k []) (fun x _ ih n k => Nat.rec (motive := fun _ => Bool) (k []) (fun m _ => ih m fun xs => k (x :: xs)) n) l
theorem takeK_eq (l : List CV) : ∀ (n : Nat) (k : List CV → Bool), takeK l n k = k (l.take n) := by
  induction l with
  | nil => intro n k; cases n <;> rfl
  | cons x l ih =>
    intro n k
    cases n with
    | zero => rfl
    | succ n => exact ih n _
noncomputable def dropK (l : List CV) : Nat → (List CV → Bool) → Bool :=
  List.rec (motive := fun _ => Nat → (List CV → Bool) → Bool) (fun _ k => k []) (fun x r ih n k => Nat.rec (motive := fun _ => Bool) (k (x :: r)) (fun m _ => ih m k) n) l
theorem dropK_eq (l : List CV) : ∀ (n : Nat) (k : List CV → Bool), dropK l n k = k (l.drop n) := by
  induction l with
  | nil => intro n k; cases n <;> rfl
  | cons x l ih =>
    intro n k
    cases n with
    | zero => rfl
    | succ n => exact ih n _
/-- At least so many? -/
noncomputable def hasK (k : Bool) (xs : List CV) : Nat → Bool :=
  List.rec (motive := fun _ => Nat → Bool) (fun n => Nat.rec (motive := fun _ => Bool) k (fun _ _ => false) n) (fun _ _ ih n => Nat.rec (motive := fun _ => Bool) k (fun m _ => ih m) n) xs
theorem hasK_eq (k : Bool) (xs : List CV) : ∀ n, hasK k xs n = br (Nat.ble n xs.length) k false := by
  induction xs with
  | nil => intro n; cases n <;> rfl
  | cons x xs ih =>
    intro n
    cases n with
    | zero => rfl
    | succ n => exact ih n
noncomputable def cellnK (cs : List CV) (o s : Nat) (M : Mem) (k : KV) : Bool := hasK (dropK cs o fun l => takeK l s fun xs => k (.one (.agg xs)) M) cs (o + s)
theorem cellnK_eq (cs : List CV) (o s : Nat) (M : Mem) (k : KV) : cellnK cs o s M k = Out.bind false k (celln cs o s M) := by
  unfold cellnK celln
  rw [hasK_eq, dropK_eq, takeK_eq, bind_br]; rfl
noncomputable def fldnK (o s : Nat) (x : AR) (tm : T V) (M : Mem) (k : KV) : Bool := agK x tm fun cs => cellnK cs o s M k
theorem fldnK_eq (o s : Nat) (x : AR) (tm : T V) (M : Mem) (k : KV) : fldnK o s x tm M k = Out.bind false k (fldnE o s x tm M) := by
  unfold fldnK fldnE
  rw [agK_eq, bind_oRec]
  simp only [bind_asAgg, cellnK_eq]; rfl

/-! ### Values put together -/
noncomputable def putAtL (l : List CV) : Nat → List CV → (List CV → Bool) → Bool :=
  List.rec (motive := fun _ => Nat → List CV → (List CV → Bool) → Bool)
    (fun _ _ k => k [])
    (fun y r ih n xs k => List.rec (motive := fun _ => Bool) (k (y :: r)) (fun x xs' _ => Nat.rec (motive := fun _ => Bool) (ih 0 xs' fun l => k (x :: l)) (fun m _ => ih m (x :: xs') fun l => k (y :: l)) n) xs) l
noncomputable def putAtK (xs l : List CV) (n : Nat) (k : List CV → Bool) : Bool := putAtL l n xs k
theorem putAt_nil (l : List CV) (n : Nat) : putAt l n [] = l := by cases l <;> cases n <;> rfl
theorem putAtK_eq (l : List CV) : ∀ (xs : List CV) (n : Nat) (k : List CV → Bool), putAtK xs l n k = k (putAt l n xs) := by
  induction l with
  | nil => intro xs n k; cases xs <;> rfl
  | cons y r ih =>
    intro xs n k
    cases xs with
    | nil => rw [putAt_nil]; rfl
    | cons x xs =>
      cases n with
      | zero =>
        show putAtK xs r 0 (fun l => k (x :: l)) = k (x :: putAt r 0 xs)
        exact ih xs 0 _
      | succ n =>
        show putAtK (x :: xs) r n (fun l => k (y :: l)) = k (y :: putAt r n (x :: xs))
        exact ih (x :: xs) n _
noncomputable def lenNK (l : List CV) (n : Nat) (t : Bool) : Bool := br (Nat.beq l.length n) t false
noncomputable def fillK (ps : List (Nat × Nat × AR)) : T V → List CV → (List CV → Bool) → Bool :=
  List.rec (motive := fun _ => T V → List CV → (List CV → Bool) → Bool) (fun _ cs k => k cs)
    (fun p _ ih tm cs k => ev1K p.2.2 tm fun v => br (Nat.beq v.cells.length p.2.1) (hasK (putAtK v.cells cs p.1 fun cs' => ih tm cs' k) cs (p.1 + p.2.1)) false) ps
theorem fillK_eq (ps : List (Nat × Nat × AR)) (tm : T V) : ∀ (cs : List CV) (k : List CV → Bool), fillK ps tm cs k = oRec false k (fillE ps tm cs) := by
  induction ps with
  | nil => intro cs k; rfl
  | cons p ps ih =>
    intro cs k
    show ev1K p.2.2 tm (fun v => br (Nat.beq v.cells.length p.2.1) (hasK (putAtK v.cells cs p.1 fun cs' => fillK ps tm cs' k) cs (p.1 + p.2.1)) false) =
      oRec false k (ev1 none (fun v => br (Nat.beq v.cells.length p.2.1 && Nat.ble (p.1 + p.2.1) cs.length) (fillE ps tm (putAt cs p.1 v.cells)) none) p.2.2 tm)
    rw [← ev1K_eq]
    unfold ev1
    cases p.2.2.ev tm with
    | none => rfl
    | some v => cases v with
      | one y =>
        show br (Nat.beq y.cells.length p.2.1) (hasK (putAtK y.cells cs p.1 fun cs' => fillK ps tm cs' k) cs (p.1 + p.2.1)) false = oRec false k (br (Nat.beq y.cells.length p.2.1 && Nat.ble (p.1 + p.2.1) cs.length) (fillE ps tm (putAt cs p.1 y.cells)) none)
        rw [hasK_eq, putAtK_eq, ih]
        cases Nat.beq y.cells.length p.2.1 with
        | false => rfl
        | true => cases Nat.ble (p.1 + p.2.1) cs.length <;> rfl
      | tup _ => rfl
      | undef => rfl
noncomputable def buildK (z : List CV) (ps : List (Nat × Nat × AR)) (tm : T V) (M : Mem) (k : KV) : Bool := fillK ps tm z fun cs => k (.one (.agg cs)) M
theorem buildK_eq (z : List CV) (ps : List (Nat × Nat × AR)) (tm : T V) (M : Mem) (k : KV) : buildK z ps tm M k = Out.bind false k (buildE z ps tm M) := by
  unfold buildK buildE
  rw [fillK_eq, bind_oRec]; rfl
noncomputable def bsliceK (s len : Nat) (z : List CV) (ps : List (Nat × Nat × AR)) (tm : T V) (M : Mem) (k : KV) : Bool := fillK ps tm (repA z len) fun cs => layK M cs (sl0 len len s) k
theorem bsliceK_eq (s len : Nat) (z : List CV) (ps : List (Nat × Nat × AR)) (tm : T V) (M : Mem) (k : KV) : bsliceK s len z ps tm M k = Out.bind false k (bsliceE s len z ps tm M) := by
  unfold bsliceK bsliceE
  rw [fillK_eq, bind_oRec]
  congr 1; funext cs; exact (bind_lay _ _ _ _).symm
noncomputable def repK (z : List CV) (n : Nat) : (List CV → Bool) → Bool := Nat.rec (motive := fun _ => (List CV → Bool) → Bool) (fun k => k []) (fun _ ih k => ih fun l => putFrontK z l k) n
where putFrontK (z : List CV) : List CV → (List CV → Bool) → Bool := List.rec (motive := fun _ => List CV → (List CV → Bool) → Bool) (fun l k => k l) (fun x _ ih l k => ih l fun l => k (x :: l)) z
theorem putFrontK_eq (z : List CV) : ∀ (l : List CV) (k : List CV → Bool), repK.putFrontK z l k = k (z ++ l) := by
  induction z with
  | nil => intro l k; rfl
  | cons x z ih => intro l k; exact ih l _
theorem repK_eq (z : List CV) (n : Nat) : ∀ k : List CV → Bool, repK z n k = k (repA z n) := by
  induction n with
  | zero => intro k; rfl
  | succ n ih => intro k; exact (ih _).trans (putFrontK_eq _ _ _)
noncomputable def mksliceK (s bytes : Nat) (z : List CV) (l c : AR) (tm : T V) (M : Mem) (k : KV) : Bool :=
  evCK l tm (CV.asInt false fun _ l => oRec false (fun l => evCK c tm (CV.asInt false fun _ c => oRec false (fun c =>
    br (Nat.ble l c && Nat.ble (c * bytes) 4294967296 && Nat.ble c 4294967296) (repK z c fun cs => layK M cs (sl0 l c s) k) false) (natOf c))) (natOf l))
theorem mksliceK_eq (s bytes : Nat) (z : List CV) (l c : AR) (tm : T V) (M : Mem) (k : KV) : mksliceK s bytes z l c tm M k = Out.bind false k (mksliceE s bytes z l c tm M) := by
  unfold mksliceK mksliceE
  simp only [bind_evC, bind_asInt, bind_no, bind_oRec, bind_br, evCK_eq, repK_eq, bind_lay]

/-! ### Appends -/
noncomputable def bytesK (b : List Nat) (k : List CV → Bool) : Bool := List.rec (motive := fun _ => (List CV → Bool) → Bool) (fun k => k []) (fun x _ ih k => ih fun l => k (.int .u8 (.ofNat x) :: l)) b k
theorem bytesK_eq (b : List Nat) : ∀ k : List CV → Bool, bytesK b k = k (bytesOf b) := by
  induction b with
  | nil => intro k; rfl
  | cons x b ih => intro k; exact ih _
noncomputable def firstK (M : Mem) (s : Nat) (k : Nat → List CV → Bool) (x : CV) : Bool :=
  CV.rec (motive := fun _ => Bool) (fun _ => false) (fun _ _ => false) (fun b => br (Nat.beq s 1) (forceN b.length fun n => bytesK b (k n)) false) (fun _ _ => false) false
    (fun id off len _ es _ => br (Nat.beq s es) (forceN (Nat.mul len s) fun m => M.loadsK id off m (k len)) false) (k 0 []) (fun _ _ => false) (fun _ => false) false false (fun _ => false) false x
theorem firstK_eq (M : Mem) (s : Nat) (f : Nat → List CV → Out) (k : KV) (x : CV) : Out.bind false k (firstE M s f x) = firstK M s (fun n l => Out.bind false k (f n l)) x := by
  cases x with
  | str b =>
    show Out.bind false k (br (Nat.beq s 1) (f b.length (bytesOf b)) .no) = br (Nat.beq s 1) (forceN b.length fun n => bytesK b _) false
    rw [bind_br, forceN_eq, bytesK_eq]; rfl
  | slice id off len cap es opn =>
    show Out.bind false k (br (Nat.beq s es) (oRec .no (f len) (M.loads id off (len * s))) .no) = br (Nat.beq s es) (forceN (Nat.mul len s) fun m => M.loadsK id off m _) false
    rw [bind_br, forceN_eq, loadsK_eq, bind_oRec]; rfl
  | _ => rfl
noncomputable def catK (a : List CV) : List CV → (List CV → Bool) → Bool := repK.putFrontK a
noncomputable def growK (M : Mem) (cs : List CV) (need s : Nat) (k : KV) : Bool := br (Nat.ble need 4294967296) (layK M cs (slO need need s) k) false
theorem growK_eq (M : Mem) (cs : List CV) (need s : Nat) (k : KV) : Out.bind false k (grow M cs need s) = growK M cs need s k := by
  unfold grow growK; rw [bind_br, bind_lay]; rfl
noncomputable def killK (M : Mem) (id : Nat) (k : Mem → Bool) : Bool := Mem.rec (motive := fun _ => Bool) (fun nx b => T.setK .dead (pth id) b fun b' => k (.mk nx b')) M
theorem killK_eq (M : Mem) (id : Nat) (k : Mem → Bool) : killK M id k = k (M.upd id .dead) := by cases M; exact T.setK_eq _ _ _ _
noncomputable def Mem.getBK (M : Mem) (id : Nat) (f : Blk → Bool) : Bool := Mem.rec (motive := fun _ => Bool) (fun _ b => T.getK false f (pth id) b) M
theorem getBK_eq (M : Mem) (id : Nat) (f : Blk → Bool) : M.getBK id f = oRec false f (M.b.get id) := by cases M; exact T.getK_eq _ _ _ _
noncomputable def app1K (M : Mem) (s n : Nat) (new : List CV) (k : KV) (id off len cap : Nat) (es : Nat) (opn : Bool) : Bool :=
  br (Nat.beq s es) (forceN (Nat.add len n) fun need => forceN (Nat.mul len s) fun m => forceN (Nat.add off m) fun at' =>
    br (Nat.ble need cap)
      (storeK M id at' new.length (fun t => putsK new t at') fun M' => k (.one (.c (.slice id off need cap es opn))) M')
      (M.getBK id (Blk.asCells false fun mm c wr =>
          br opn
            (br (wr && Nat.beq mm at') (getsK c m off fun old => catK old new fun cs => killK M id fun M' => growK M' cs need s k) false)
            (br (Nat.ble at' mm) (getsK c m off fun old => catK old new fun cs => growK M cs need s k) false)))) false
theorem app1K_eq (M : Mem) (s n : Nat) (new : List CV) (k : KV) (id off len cap : Nat) (es : Nat) (opn : Bool) :
    Out.bind false k (app1 M s n new id off len cap es opn) = app1K M s n new k id off len cap es opn := by
  unfold app1 app1K
  simp only [forceN_eq, bind_br, bind_no, bind_oRec, bind_okc]
  rw [storeK_eq M id (Nat.add off (Nat.mul len s)) new (fun t => putsK new t (Nat.add off (Nat.mul len s))) new.length _ rfl (fun c k => putsK_eq _ _ _ _)]
  rw [getBK_eq]
  congr 1; congr 1; congr 1; funext x
  cases x with
  | cells mm c wr =>
    show Out.bind false k (br opn _ _) = br opn _ _
    simp only [bind_br, bind_no, bind_oRec, growK_eq, getsK_eq, catK, putFrontK_eq, killK_eq]
    rfl
  | _ => rfl
noncomputable def appK (s _bytes : Nat) (x y : AR) (tm : T V) (M : Mem) (k : KV) : Bool :=
  evCK x tm fun a => evCK y tm (firstK M s fun n new => CV.asSlice false (br (Nat.beq n 0) (k (.one (.c .nils)) M) (growK M new n s k)) (app1K M s n new k) a)
theorem appK_eq (s bytes : Nat) (x y : AR) (tm : T V) (M : Mem) (k : KV) : appK s bytes x y tm M k = Out.bind false k (appE s bytes x y tm M) := by
  unfold appK appE
  simp only [bind_evC, firstK_eq, bind_asSlice, bind_br, bind_no, bind_okc, growK_eq, app1K_eq, evCK_eq]
noncomputable def cpyK (s : Nat) (x y : AR) (tm : T V) (M : Mem) (k : KV) : Bool :=
  evCK x tm fun a => evCK y tm (firstK M s fun n new =>
    CV.asSlice false (k (.one (.c (.int .i64 (.ofNat 0)))) M) (fun id off len _ es _ => br (Nat.beq s es) (forceN (Nat.min n len) fun mn => takeK new (mn * s) fun xs =>
      storeK M id off xs.length (fun t => putsK xs t off) fun M' => k (.one (.c (.int .i64 (.ofNat mn)))) M') false) a)
theorem cpyK_eq (s : Nat) (x y : AR) (tm : T V) (M : Mem) (k : KV) : cpyK s x y tm M k = Out.bind false k (cpyE s x y tm M) := by
  unfold cpyK cpyE
  simp only [bind_evC, firstK_eq, bind_asSlice, bind_br, bind_no, bind_okc, bind_oRec, evCK_eq, forceN_eq, takeK_eq]
  congr 2; funext a; congr 2; funext n new
  congr 1; funext id off len c es o
  congr 1
  rw [storeK_eq M id off (new.take (Nat.min n len * s)) _ _ _ rfl (fun c k => putsK_eq _ _ _ _)]
noncomputable def minEK (x y : AR) (tm : T V) (M : Mem) (k : KV) : Bool :=
  evCK x tm (CV.asInt false fun i a => evCK y tm (CV.asInt false fun _ b => br (ltI b a) (k (.one (.c (.int i b))) M) (k (.one (.c (.int i a))) M)))
theorem minEK_eq (x y : AR) (tm : T V) (M : Mem) (k : KV) : minEK x y tm M k = Out.bind false k (minE x y tm M) := by
  unfold minEK minE
  simp only [bind_evC, bind_asInt, bind_no, bind_okc, evCK_eq, ltI_eq]
  congr 2; funext i a; congr 2; funext _ b
  cases decide (b < a) <;> rfl
noncomputable def evpsK (l : List AR) (tm : T V) : (List (Nat × Nat) → Bool) → Bool :=
  List.rec (motive := fun _ => (List (Nat × Nat) → Bool) → Bool) (fun k => k []) (fun x _ ih k => evCK x tm (CV.asPtr false fun a b => ih fun vs => k ((a, b) :: vs))) l
theorem evpsK_eq (tm : T V) (l : List AR) : ∀ k : List (Nat × Nat) → Bool, evpsK l tm k = oRec false k (evps l tm) := by
  induction l with
  | nil => intro k; rfl
  | cons x l ih =>
    intro k
    show evCK x tm (CV.asPtr false fun a b => evpsK l tm fun vs => k ((a, b) :: vs)) = oRec false k (evC none (CV.asPtr none fun a b => (evps l tm).bind fun vs => some ((a, b) :: vs)) x tm)
    rw [← evCK_eq]
    unfold evC
    cases x.ev tm with
    | none => rfl
    | some v => cases v with
      | one y => cases y with
        | c c => cases c with
          | ptr a b =>
            show evpsK l tm _ = oRec false k ((evps l tm).bind _)
            rw [ih]; cases evps l tm <;> rfl
          | _ => rfl
        | agg _ => rfl
      | tup _ => rfl
      | undef => rfl
noncomputable def mkfnK (f : FuncId) (caps : List AR) (tm : T V) (M : Mem) (k : KV) : Bool := evpsK caps tm fun cs => k (.one (.c (.fn f cs))) M
theorem mkfnK_eq (f : FuncId) (caps : List AR) (tm : T V) (M : Mem) (k : KV) : mkfnK f caps tm M k = Out.bind false k (mkfnE f caps tm M) := by
  unfold mkfnK mkfnE
  rw [evpsK_eq, bind_oRec]; rfl
end Go.Ab
