/- The operations in continuation form, and that they come to the same. No condition. -/
import Derived.Test.YtelmphlmhnipfaaAbTrie
namespace Go.Ab

/-! ### Numbers, forced -/
noncomputable def forceN (n : Nat) (k : Nat → Bool) : Bool := Nat.rec (motive := fun _ => Bool) false (fun m _ => k m) (Nat.succ n)
theorem forceN_eq (n : Nat) (k : Nat → Bool) : forceN n k = k n := rfl
noncomputable def forceI (n : Int) (k : Int → Bool) : Bool := Int.rec (motive := fun _ => Bool) (fun m => forceN m fun m => k (.ofNat m)) (fun m => forceN m fun m => k (.negSucc m)) n
theorem forceI_eq (n : Int) (k : Int → Bool) : forceI n k = k n := by cases n <;> rfl
noncomputable def forceB (b : Bool) (k : Bool → Bool) : Bool := Bool.rec (motive := fun _ => Bool) (k false) (k true) b
theorem forceB_eq (b : Bool) (k : Bool → Bool) : forceB b k = k b := by cases b <;> rfl

/-- A number that fits whatever the sign: below it nothing is wrapped. -/
noncomputable def limK (k : IntKind) : Nat :=
  IntKind.rec (motive := fun _ => Nat) 128 32768 2147483648 9223372036854775808 256 65536 4294967296 18446744073709551616 k
noncomputable def negK (k : IntKind) : Nat :=
  IntKind.rec (motive := fun _ => Nat) 128 32768 2147483648 9223372036854775808 0 0 0 0 k
theorem wrap_nat (k : IntKind) (m : Nat) (h : m < limK k) : k.wrap (Int.ofNat m) = Int.ofNat m := by
  cases k <;> simp [limK] at h <;> simp [IntKind.wrap, IntKind.bits, IntKind.signed] <;> omega
theorem wrap_neg (k : IntKind) (m : Nat) (h : m < negK k) : k.wrap (Int.negSucc m) = Int.negSucc m := by
  have e : Int.negSucc m = -(m : Int) - 1 := by omega
  generalize Int.negSucc m = n at e ⊢
  cases k <;> simp [negK] at h <;> simp [IntKind.wrap, IntKind.bits, IntKind.signed] <;> omega
noncomputable def wrapN (k : IntKind) (n : Nat) (c : Int → Bool) : Bool :=
  forceN n fun n => br (Nat.blt n (limK k)) (c (.ofNat n)) (forceI (k.wrap (.ofNat n)) c)
theorem wrapN_eq (k : IntKind) (n : Nat) (c : Int → Bool) : wrapN k n c = c (k.wrap (.ofNat n)) := by
  unfold wrapN
  rw [forceN_eq, forceI_eq, br_eq]
  split
  · next h => rw [wrap_nat k n (Eq.mp Nat.blt_eq h)]
  · rfl
noncomputable def wrapK (k : IntKind) (n : Int) (c : Int → Bool) : Bool :=
  Int.rec (motive := fun _ => Bool) (fun m => wrapN k m c) (fun m => forceN m fun m => br (Nat.blt m (negK k)) (c (.negSucc m)) (forceI (k.wrap (.negSucc m)) c)) n
theorem wrapK_eq (k : IntKind) (n : Int) (c : Int → Bool) : wrapK k n c = c (k.wrap n) := by
  cases n with
  | ofNat m => exact wrapN_eq k m c
  | negSucc m =>
    show forceN m (fun m => br (Nat.blt m (negK k)) (c (.negSucc m)) (forceI (k.wrap (.negSucc m)) c)) = _
    rw [forceN_eq, forceI_eq, br_eq]
    split
    · next h => rw [wrap_neg k m (Eq.mp Nat.blt_eq h)]
    · rfl

abbrev IK := IntKind → Int → Int → (CV → Bool) → Bool
/-- By two numbers: both not below nothing; else otherwise. -/
noncomputable def nn (f : Nat → Nat → Bool) (d : Bool) (x y : Int) : Bool :=
  Int.rec (motive := fun _ => Bool) (fun a => Int.rec (motive := fun _ => Bool) (fun b => f a b) (fun _ => d) y) (fun _ => d) x
theorem nn_eq (f : Nat → Nat → Bool) (d r : Bool) (x y : Int) (hd : d = r) (hf : ∀ a b, x = .ofNat a → y = .ofNat b → f a b = r) : nn f d x y = r := by
  cases x with
  | ofNat a => cases y with
    | ofNat b => exact hf a b rfl rfl
    | negSucc b => exact hd
  | negSucc a => exact hd
noncomputable def addK : IK := fun k x y c => nn (fun a b => wrapN k (Nat.add a b) fun n => c (.int k n)) (wrapK k (x + y) fun n => c (.int k n)) x y
noncomputable def subK : IK := fun k x y c =>
  nn (fun a b => br (Nat.ble b a) (wrapN k (Nat.sub a b) fun n => c (.int k n)) (wrapK k (x - y) fun n => c (.int k n))) (wrapK k (x - y) fun n => c (.int k n)) x y
noncomputable def mulK : IK := fun k x y c => nn (fun a b => wrapN k (Nat.mul a b) fun n => c (.int k n)) (wrapK k (x * y) fun n => c (.int k n)) x y
noncomputable def quoK : IK := fun k x y c =>
  nn (fun a b => br (Nat.beq b 0) false (wrapN k (Nat.div a b) fun n => c (.int k n))) (br (iSame y 0) false (wrapK k (x.tdiv y) fun n => c (.int k n))) x y
noncomputable def remK : IK := fun k x y c =>
  nn (fun a b => br (Nat.beq b 0) false (forceN (Nat.mod a b) fun n => c (.int k (.ofNat n)))) (br (iSame y 0) false (forceI (x.tmod y) fun n => c (.int k n))) x y
noncomputable def cmpK (f : Int → Int → Bool) (g : Nat → Nat → Bool) : IK := fun _ x y c =>
  nn (fun a b => forceB (g a b) fun t => c (.bool t)) (forceB (f x y) fun t => c (.bool t)) x y
noncomputable def oldK (f : IntKind → Int → Int → Option CV) : IK := fun k x y c => oRec false c (f k x y)
noncomputable def bitK (f : IntKind → Int → Int → Option CV) (g : Nat → Nat → Nat) : IK := fun k x y c =>
  nn (fun a b => br (Nat.blt a (limK k) && Nat.blt b (limK k)) (forceN (g a b) fun n => c (.int k (.ofNat n))) (oRec false c (f k x y))) (oRec false c (f k x y)) x y
theorem addK_eq (k : IntKind) (x y : Int) (c : CV → Bool) : addK k x y c = oRec false c (addF k x y) := by
  refine nn_eq _ _ _ _ _ (wrapK_eq _ _ _) fun a b hx hy => ?_
  subst hx hy; exact wrapN_eq _ _ _
theorem mulK_eq (k : IntKind) (x y : Int) (c : CV → Bool) : mulK k x y c = oRec false c (mulF k x y) := by
  refine nn_eq _ _ _ _ _ (wrapK_eq _ _ _) fun a b hx hy => ?_
  subst hx hy; exact wrapN_eq _ _ _
theorem subK_eq (k : IntKind) (x y : Int) (c : CV → Bool) : subK k x y c = oRec false c (subF k x y) := by
  refine nn_eq _ _ _ _ _ (wrapK_eq _ _ _) fun a b hx hy => ?_
  subst hx hy
  rw [br_eq]
  split
  · next h =>
    have h : b ≤ a := Eq.mp Nat.ble_eq h
    rw [wrapN_eq]
    show c _ = c _
    congr 3
    show ((a - b : Nat) : Int) = (a : Int) - (b : Int)
    omega
  · exact wrapK_eq _ _ _
theorem quoK_eq (k : IntKind) (x y : Int) (c : CV → Bool) : quoK k x y c = oRec false c (quoF k x y) := by
  refine nn_eq _ _ _ _ _ ?_ fun a b hx hy => ?_
  · unfold quoF; rw [wrapK_eq, br_eq, br_eq]; split <;> rfl
  · subst hx hy
    unfold quoF
    show br (Nat.beq b 0) _ _ = oRec false c (br (Nat.beq b 0) _ _)
    rw [wrapN_eq, br_eq, br_eq]; split <;> rfl
theorem remK_eq (k : IntKind) (x y : Int) (c : CV → Bool) : remK k x y c = oRec false c (remF k x y) := by
  refine nn_eq _ _ _ _ _ ?_ fun a b hx hy => ?_
  · unfold remF; rw [forceI_eq, br_eq, br_eq]; split <;> rfl
  · subst hx hy
    unfold remF
    show br (Nat.beq b 0) _ _ = oRec false c (br (Nat.beq b 0) _ _)
    rw [forceN_eq, br_eq, br_eq]; split <;> rfl
theorem cmpK_eq {f : Int → Int → Bool} {g : Nat → Nat → Bool} (k : IntKind) (x y : Int) (c : CV → Bool) (h : ∀ a b, g a b = f (.ofNat a) (.ofNat b)) : cmpK f g k x y c = c (.bool (f x y)) := by
  refine nn_eq _ _ _ _ _ (forceB_eq _ _) fun a b hx hy => ?_
  subst hx hy; rw [forceB_eq, h]

def ltI : Int → Int → Bool
  | .ofNat a, .ofNat b => Nat.blt a b
  | .ofNat _, .negSucc _ => false
  | .negSucc _, .ofNat _ => true
  | .negSucc a, .negSucc b => Nat.blt b a
theorem ltI_eq (x y : Int) : ltI x y = decide (x < y) := by
  rw [Bool.eq_iff_iff, decide_eq_true_iff]
  cases x <;> cases y <;> simp [ltI, Nat.blt_eq] <;> omega
def leI (x y : Int) : Bool := !ltI y x
theorem leI_eq (x y : Int) : leI x y = decide (x ≤ y) := by
  rw [leI, ltI_eq, Bool.eq_iff_iff]; simp
def gN (a b : Nat) : Bool := Nat.blt b a
def geN (a b : Nat) : Bool := Nat.ble b a
def neN (a b : Nat) : Bool := !Nat.beq a b
def neI (a b : Int) : Bool := !iSame a b
def gtI (a b : Int) : Bool := ltI b a
def geI (a b : Int) : Bool := leI b a
theorem eqlK_eq (k : IntKind) (x y : Int) (c : CV → Bool) : cmpK iSame Nat.beq k x y c = oRec false c (eqlF k x y) := cmpK_eq _ _ _ _ fun _ _ => rfl
theorem neqK_eq (k : IntKind) (x y : Int) (c : CV → Bool) : cmpK neI neN k x y c = oRec false c (neqF k x y) := cmpK_eq _ _ _ _ fun _ _ => rfl
theorem lssK_eq (k : IntKind) (x y : Int) (c : CV → Bool) : cmpK ltI Nat.blt k x y c = oRec false c (lssF k x y) := by
  exact (cmpK_eq (f := ltI) (g := Nat.blt) k x y c fun _ _ => rfl).trans (by rw [ltI_eq]; rfl)
theorem gtrK_eq (k : IntKind) (x y : Int) (c : CV → Bool) : cmpK gtI gN k x y c = oRec false c (gtrF k x y) := by
  exact (cmpK_eq (f := gtI) (g := gN) k x y c fun _ _ => rfl).trans (by rw [gtI, ltI_eq]; rfl)
theorem leI_nat (a b : Nat) : Nat.ble a b = leI (.ofNat a) (.ofNat b) := by
  rw [leI_eq, Bool.eq_iff_iff, decide_eq_true_iff, Nat.ble_eq]
  exact (Int.ofNat_le (m := a) (n := b)).symm
theorem leqK_eq (k : IntKind) (x y : Int) (c : CV → Bool) : cmpK leI Nat.ble k x y c = oRec false c (leqF k x y) := by
  rw [cmpK_eq _ _ _ _ leI_nat, leI_eq]; rfl
theorem geqK_eq (k : IntKind) (x y : Int) (c : CV → Bool) : cmpK geI geN k x y c = oRec false c (geqF k x y) := by
  rw [cmpK_eq _ _ _ _ fun a b => leI_nat b a, geI, leI_eq]; rfl
theorem lim_two (k : IntKind) : limK k = 2 ^ (if k.signed then k.bits - 1 else k.bits) ∧ (if k.signed then k.bits - 1 else k.bits) ≤ k.bits := by
  cases k <;> simp [limK, IntKind.signed, IntKind.bits]
theorem ofInt_nat (w a : Nat) (h : a < 2 ^ w) : BitVec.ofInt w (Int.ofNat a) = BitVec.ofNatLT a h := by
  apply BitVec.eq_of_toNat_eq
  simp only [BitVec.toNat_ofInt, BitVec.toNat_ofNatLT]
  have : ((Int.ofNat a) % ((2 ^ w : Nat) : Int)) = Int.ofNat (a % 2 ^ w) := rfl
  rw [this, Nat.mod_eq_of_lt h]; rfl
theorem bitK_eq {f : IntKind → Int → Int → Option CV} {g : Nat → Nat → Nat} (k : IntKind) (x y : Int) (c : CV → Bool)
    (hg : ∀ a b w, a < 2 ^ w → b < 2 ^ w → g a b < 2 ^ w)
    (h : ∀ a b, a < 2 ^ k.bits → b < 2 ^ k.bits → f k (.ofNat a) (.ofNat b) = some (.int k (k.wrap (.ofNat (g a b))))) : bitK f g k x y c = oRec false c (f k x y) := by
  refine nn_eq _ _ _ _ _ rfl fun a b hx hy => ?_
  subst hx hy
  rw [br_eq]
  split
  · next q =>
    rw [Bool.and_eq_true, Nat.blt_eq, Nat.blt_eq] at q
    obtain ⟨e1, e2⟩ := lim_two k
    have hp : limK k ≤ 2 ^ k.bits := by rw [e1]; exact Nat.pow_le_pow_right (by omega) e2
    have hq := hg a b _ (e1 ▸ q.1) (e1 ▸ q.2)
    rw [forceN_eq, h a b (by omega) (by omega), wrap_nat k _ (by rw [e1]; exact hq)]; rfl
  · rfl
theorem andK_eq (k : IntKind) (x y : Int) (c : CV → Bool) : bitK andF Nat.land k x y c = oRec false c (andF k x y) :=
  bitK_eq _ _ _ _ (fun a b w ha _ => Nat.lt_of_le_of_lt Nat.and_le_left ha) fun a b ha hb => by
    unfold andF; rw [ofInt_nat _ _ ha, ofInt_nat _ _ hb]; rfl
theorem orK_eq (k : IntKind) (x y : Int) (c : CV → Bool) : bitK orF Nat.lor k x y c = oRec false c (orF k x y) :=
  bitK_eq _ _ _ _ (fun a b w ha hb => Nat.or_lt_two_pow ha hb) fun a b ha hb => by
    unfold orF; rw [ofInt_nat _ _ ha, ofInt_nat _ _ hb]; rfl
theorem xorK_eq (k : IntKind) (x y : Int) (c : CV → Bool) : bitK xorF Nat.xor k x y c = oRec false c (xorF k x y) :=
  bitK_eq _ _ _ _ (fun a b w ha hb => Nat.xor_lt_two_pow ha hb) fun a b ha hb => by
    unfold xorF; rw [ofInt_nat _ _ ha, ofInt_nat _ _ hb]; rfl
noncomputable def bitsN (k : IntKind) : Nat := IntKind.rec (motive := fun _ => Nat) 8 16 32 64 8 16 32 64 k
theorem bitsN_eq (k : IntKind) : bitsN k = k.bits := by cases k <;> rfl
noncomputable def shlK : IK := fun k x y c =>
  nn (fun a s => br (Nat.ble s (bitsN k)) (wrapN k (Nat.shiftLeft a s) fun n => c (.int k n)) (oRec false c (shlF k x y))) (oRec false c (shlF k x y)) x y
noncomputable def shrK : IK := fun k x y c =>
  nn (fun a s => br (Nat.ble s (bitsN k)) (forceN (Nat.shiftRight a s) fun n => c (.int k (.ofNat n))) (oRec false c (shrF k x y))) (oRec false c (shrF k x y)) x y
theorem shlK_eq (k : IntKind) (x y : Int) (c : CV → Bool) : shlK k x y c = oRec false c (shlF k x y) := by
  refine nn_eq _ _ _ _ _ rfl fun a s hx hy => ?_
  subst hx hy
  rw [br_eq]
  split
  · next q =>
    rw [Nat.ble_eq, bitsN_eq] at q
    rw [wrapN_eq]
    show c _ = c _
    congr 3
    show ((a <<< s : Nat) : Int) = (a : Int) * 2 ^ (min s k.bits)
    rw [Nat.min_eq_left q, Nat.shiftLeft_eq]; simp
  · rfl
theorem shrK_eq (k : IntKind) (x y : Int) (c : CV → Bool) : shrK k x y c = oRec false c (shrF k x y) := by
  refine nn_eq _ _ _ _ _ rfl fun a s hx hy => ?_
  subst hx hy
  rw [br_eq]
  split
  · next q =>
    rw [Nat.ble_eq, bitsN_eq] at q
    rw [forceN_eq]
    show c _ = c _
    congr 2
    show ((a >>> s : Nat) : Int) = (a : Int).fdiv (2 ^ (min s k.bits))
    rw [Nat.min_eq_left q, Nat.shiftRight_eq_div_pow, Int.fdiv_eq_ediv_of_nonneg _ (Int.pow_nonneg (by decide)), Int.natCast_ediv, Int.natCast_pow]; rfl
  · rfl
noncomputable def noK : IK := fun _ _ _ _ => false
noncomputable def intK (op : BinOp) : IK :=
  BinOp.rec (motive := fun _ => IK) addK subK mulK quoK remK (bitK andF Nat.land) (bitK orF Nat.lor) (bitK xorF Nat.xor) noK noK (oldK andNotF)
    (cmpK iSame Nat.beq) (cmpK neI neN) (cmpK ltI Nat.blt) (cmpK leI Nat.ble) (cmpK gtI gN) (cmpK geI geN) op
theorem intK_eq (op : BinOp) (k : IntKind) (x y : Int) (c : CV → Bool) : intK op k x y c = oRec false c (intF op k x y) := by
  cases op
  · exact addK_eq ..
  · exact subK_eq ..
  · exact mulK_eq ..
  · exact quoK_eq ..
  · exact remK_eq ..
  · exact andK_eq ..
  · exact orK_eq ..
  · exact xorK_eq ..
  · rfl
  · rfl
  · rfl
  · exact eqlK_eq k x y c
  · exact neqK_eq k x y c
  · exact lssK_eq k x y c
  · exact leqK_eq k x y c
  · exact gtrK_eq k x y c
  · exact geqK_eq k x y c
noncomputable def shiftKK (op : BinOp) : IK :=
  BinOp.rec (motive := fun _ => IK) noK noK noK noK noK noK noK noK shlK shrK noK noK noK noK noK noK noK op
theorem shiftKK_eq (op : BinOp) (k : IntKind) (x y : Int) (c : CV → Bool) : shiftKK op k x y c = oRec false c (shiftF op k x y) := by
  cases op
  case shl => exact shlK_eq ..
  case shr => exact shrK_eq ..
  all_goals rfl
end Go.Ab
