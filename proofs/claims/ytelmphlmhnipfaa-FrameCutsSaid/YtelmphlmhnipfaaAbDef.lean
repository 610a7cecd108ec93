/- The definitions of a machine without open choices: an evaluator of the model's code over a memory of its own, laid out so that Lean's kernel runs it. No condition. -/
import GoSem.Step
import Derived.CallsIn
namespace Go.Ab

/-! ### A map from numbers: a tree with eight ways -/
inductive D8 where | d0 | d1 | d2 | d3 | d4 | d5 | d6 | d7
inductive O8 (γ : Type) : Type where
  | mk (c0 c1 c2 c3 c4 c5 c6 c7 : γ) : O8 γ
inductive T (α : Type) : Type where
  | lf : T α
  | nd (v : Option α) (cs : O8 (T α)) : T α

/-- By a truth value. -/
noncomputable def br {β : Type} (b : Bool) (x y : β) : β := Bool.rec (motive := fun _ => β) y x b

noncomputable def O8.s0 {γ β : Type} (k : γ → β) (o : O8 γ) : β := O8.rec (motive := fun _ => β) (fun c _ _ _ _ _ _ _ => k c) o
noncomputable def O8.s1 {γ β : Type} (k : γ → β) (o : O8 γ) : β := O8.rec (motive := fun _ => β) (fun _ c _ _ _ _ _ _ => k c) o
noncomputable def O8.s2 {γ β : Type} (k : γ → β) (o : O8 γ) : β := O8.rec (motive := fun _ => β) (fun _ _ c _ _ _ _ _ => k c) o
noncomputable def O8.s3 {γ β : Type} (k : γ → β) (o : O8 γ) : β := O8.rec (motive := fun _ => β) (fun _ _ _ c _ _ _ _ => k c) o
noncomputable def O8.s4 {γ β : Type} (k : γ → β) (o : O8 γ) : β := O8.rec (motive := fun _ => β) (fun _ _ _ _ c _ _ _ => k c) o
noncomputable def O8.s5 {γ β : Type} (k : γ → β) (o : O8 γ) : β := O8.rec (motive := fun _ => β) (fun _ _ _ _ _ c _ _ => k c) o
noncomputable def O8.s6 {γ β : Type} (k : γ → β) (o : O8 γ) : β := O8.rec (motive := fun _ => β) (fun _ _ _ _ _ _ c _ => k c) o
noncomputable def O8.s7 {γ β : Type} (k : γ → β) (o : O8 γ) : β := O8.rec (motive := fun _ => β) (fun _ _ _ _ _ _ _ c => k c) o
/-- The part that a digit names. -/
noncomputable def O8.sel {γ β : Type} (d : D8) : (γ → β) → O8 γ → β :=
  D8.rec (motive := fun _ => (γ → β) → O8 γ → β) O8.s0 O8.s1 O8.s2 O8.s3 O8.s4 O8.s5 O8.s6 O8.s7 d
noncomputable def O8.p0 {γ β : Type} (x : γ) (k : O8 γ → β) (o : O8 γ) : β := O8.rec (motive := fun _ => β) (fun _ c1 c2 c3 c4 c5 c6 c7 => k (.mk x c1 c2 c3 c4 c5 c6 c7)) o
noncomputable def O8.p1 {γ β : Type} (x : γ) (k : O8 γ → β) (o : O8 γ) : β := O8.rec (motive := fun _ => β) (fun c0 _ c2 c3 c4 c5 c6 c7 => k (.mk c0 x c2 c3 c4 c5 c6 c7)) o
noncomputable def O8.p2 {γ β : Type} (x : γ) (k : O8 γ → β) (o : O8 γ) : β := O8.rec (motive := fun _ => β) (fun c0 c1 _ c3 c4 c5 c6 c7 => k (.mk c0 c1 x c3 c4 c5 c6 c7)) o
noncomputable def O8.p3 {γ β : Type} (x : γ) (k : O8 γ → β) (o : O8 γ) : β := O8.rec (motive := fun _ => β) (fun c0 c1 c2 _ c4 c5 c6 c7 => k (.mk c0 c1 c2 x c4 c5 c6 c7)) o
noncomputable def O8.p4 {γ β : Type} (x : γ) (k : O8 γ → β) (o : O8 γ) : β := O8.rec (motive := fun _ => β) (fun c0 c1 c2 c3 _ c5 c6 c7 => k (.mk c0 c1 c2 c3 x c5 c6 c7)) o
noncomputable def O8.p5 {γ β : Type} (x : γ) (k : O8 γ → β) (o : O8 γ) : β := O8.rec (motive := fun _ => β) (fun c0 c1 c2 c3 c4 _ c6 c7 => k (.mk c0 c1 c2 c3 c4 x c6 c7)) o
noncomputable def O8.p6 {γ β : Type} (x : γ) (k : O8 γ → β) (o : O8 γ) : β := O8.rec (motive := fun _ => β) (fun c0 c1 c2 c3 c4 c5 _ c7 => k (.mk c0 c1 c2 c3 c4 c5 x c7)) o
noncomputable def O8.p7 {γ β : Type} (x : γ) (k : O8 γ → β) (o : O8 γ) : β := O8.rec (motive := fun _ => β) (fun c0 c1 c2 c3 c4 c5 c6 _ => k (.mk c0 c1 c2 c3 c4 c5 c6 x)) o
/-- With another part. -/
noncomputable def O8.put {γ β : Type} (d : D8) : γ → (O8 γ → β) → O8 γ → β :=
  D8.rec (motive := fun _ => γ → (O8 γ → β) → O8 γ → β) O8.p0 O8.p1 O8.p2 O8.p3 O8.p4 O8.p5 O8.p6 O8.p7 d
def T.lf8 {α : Type} : O8 (T α) := .mk .lf .lf .lf .lf .lf .lf .lf .lf

noncomputable def digOf (r : Nat) : D8 :=
  br (Nat.blt r 4) (br (Nat.blt r 2) (br (Nat.beq r 0) .d0 .d1) (br (Nat.beq r 2) .d2 .d3)) (br (Nat.blt r 6) (br (Nat.beq r 4) .d4 .d5) (br (Nat.beq r 6) .d6 .d7))
/-- The way to a place. -/
noncomputable def pthF (fuel : Nat) : Nat → List D8 :=
  Nat.rec (motive := fun _ => Nat → List D8) (fun _ => []) (fun _ ih n => br (Nat.beq n 0) [] (digOf (Nat.mod (Nat.sub n 1) 8) :: ih (Nat.div (Nat.sub n 1) 8))) fuel
noncomputable def pth (n : Nat) : List D8 := pthF (Nat.succ n) n
noncomputable def T.sp {α β : Type} (a : β) (k : Option α → O8 (T α) → β) (t : T α) : β :=
  T.rec (motive_1 := fun _ => β) (motive_2 := fun _ => Unit) a (fun v cs _ => k v cs) (fun _ _ _ _ _ _ _ _ _ _ _ _ _ _ _ _ => ()) t
noncomputable def oRec {α β : Type} (d : β) (k : α → β) (o : Option α) : β := Option.rec (motive := fun _ => β) d k o
/-- What stands at a place: handed on. -/
noncomputable def T.getK {α β : Type} (d : β) (k : α → β) (p : List D8) : T α → β :=
  List.rec (motive := fun _ => T α → β) (fun t => T.sp d (fun v _ => oRec d k v) t) (fun b _ ih t => T.sp d (fun _ cs => O8.sel b ih cs) t) p
noncomputable def T.get {α : Type} (t : T α) (n : Nat) : Option α := T.getK none some (pth n) t
/-- With something at a place: handed on. -/
noncomputable def T.setK {α β : Type} (v : α) (p : List D8) : T α → (T α → β) → β :=
  List.rec (motive := fun _ => T α → (T α → β) → β) (fun t k => T.sp (k (.nd (some v) T.lf8)) (fun _ cs => k (.nd (some v) cs)) t)
    (fun b _ ih t k => T.sp (ih .lf fun x => O8.put b x (fun cs => k (.nd none cs)) T.lf8) (fun m cs => O8.sel b (fun c => ih c fun x => O8.put b x (fun cs => k (.nd m cs)) cs) cs) t) p
noncomputable def T.set {α : Type} (t : T α) (n : Nat) (v : α) : T α := T.setK v (pth n) t fun x => x

/-- A list, from a place on. -/
noncomputable def T.puts {α : Type} (l : List α) : T α → Nat → T α :=
  List.rec (motive := fun _ => T α → Nat → T α) (fun t _ => t) (fun x _ ih t i => ih (t.set i x) (i + 1)) l
/-- A number of things from a place on. -/
noncomputable def T.gets {α : Type} (t : T α) (n : Nat) : Nat → Option (List α) :=
  Nat.rec (motive := fun _ => Nat → Option (List α)) (fun _ => some [])
    (fun _ ih i => (t.get i).bind fun x => (ih (i + 1)).bind fun xs => some (x :: xs)) n

/-! ### Values -/
inductive CV where
  | bool (b : Bool)
  | int (k : IntKind) (n : Int)
  | str (s : List Nat)
  | ptr (id off : Nat)
  | nilp
  | slice (id off len cap es : Nat) (opn : Bool)
  | nils
  | fn (f : FuncId) (caps : List (Nat × Nat))
  | yld (l : Nat)
  | nilf
  | nili
  | map (id : Nat)
  | nilm

inductive V1 where
  | c (x : CV)
  | agg (xs : List CV)

inductive V where
  | one (x : V1)
  | tup (xs : List V1)
  | undef

/-- By what a cell's value is: a number; else otherwise. -/
noncomputable def CV.asInt {β : Type} (d : β) (k : IntKind → Int → β) (x : CV) : β :=
  CV.rec (motive := fun _ => β) (fun _ => d) k (fun _ => d) (fun _ _ => d) d (fun _ _ _ _ _ _ => d) d (fun _ _ => d) (fun _ => d) d d (fun _ => d) d x
noncomputable def CV.asBool {β : Type} (d : β) (k : Bool → β) (x : CV) : β :=
  CV.rec (motive := fun _ => β) k (fun _ _ => d) (fun _ => d) (fun _ _ => d) d (fun _ _ _ _ _ _ => d) d (fun _ _ => d) (fun _ => d) d d (fun _ => d) d x
noncomputable def CV.asStr {β : Type} (d : β) (k : List Nat → β) (x : CV) : β :=
  CV.rec (motive := fun _ => β) (fun _ => d) (fun _ _ => d) k (fun _ _ => d) d (fun _ _ _ _ _ _ => d) d (fun _ _ => d) (fun _ => d) d d (fun _ => d) d x
noncomputable def CV.asPtr {β : Type} (d : β) (k : Nat → Nat → β) (x : CV) : β :=
  CV.rec (motive := fun _ => β) (fun _ => d) (fun _ _ => d) (fun _ => d) k d (fun _ _ _ _ _ _ => d) d (fun _ _ => d) (fun _ => d) d d (fun _ => d) d x
noncomputable def CV.asSlice {β : Type} (d e : β) (k : Nat → Nat → Nat → Nat → Nat → Bool → β) (x : CV) : β :=
  CV.rec (motive := fun _ => β) (fun _ => d) (fun _ _ => d) (fun _ => d) (fun _ _ => d) d k e (fun _ _ => d) (fun _ => d) d d (fun _ => d) d x
noncomputable def CV.asFn {β : Type} (d : β) (k : FuncId → List (Nat × Nat) → β) (y : Nat → β) (x : CV) : β :=
  CV.rec (motive := fun _ => β) (fun _ => d) (fun _ _ => d) (fun _ => d) (fun _ _ => d) d (fun _ _ _ _ _ _ => d) d k y d d (fun _ => d) d x
noncomputable def V.as1 {β : Type} (d : β) (k : V1 → β) (v : V) : β := V.rec (motive := fun _ => β) k (fun _ => d) d v
noncomputable def V.asC {β : Type} (d : β) (k : CV → β) (v : V) : β := V.rec (motive := fun _ => β) (fun x => V1.rec (motive := fun _ => β) k (fun _ => d) x) (fun _ => d) d v
noncomputable def V.asAgg {β : Type} (d : β) (k : List CV → β) (v : V) : β := V.rec (motive := fun _ => β) (fun x => V1.rec (motive := fun _ => β) (fun _ => d) k x) (fun _ => d) d v

def kSame : IntKind → IntKind → Bool
  | .i8, .i8 | .i16, .i16 | .i32, .i32 | .i64, .i64 | .u8, .u8 | .u16, .u16 | .u32, .u32 | .u64, .u64 => true
  | _, _ => false
def bSame (a b : Bool) : Bool := match a, b with | true, true | false, false => true | _, _ => false
def iSame : Int → Int → Bool
  | .ofNat a, .ofNat b => Nat.beq a b
  | .negSucc a, .negSucc b => Nat.beq a b
  | _, _ => false
def nsSame : List Nat → List Nat → Bool
  | [], [] => true
  | a :: r, b :: s => Nat.beq a b && nsSame r s
  | _, _ => false
def capsSame : List (Nat × Nat) → List (Nat × Nat) → Bool
  | [], [] => true
  | (a, b) :: r, (c, d) :: s => Nat.beq a c && Nat.beq b d && capsSame r s
  | _, _ => false
def CV.same : CV → CV → Bool
  | .bool a, .bool b => bSame a b
  | .int k a, .int l b => kSame k l && iSame a b
  | .str a, .str b => nsSame a b
  | .ptr a b, .ptr c d => Nat.beq a c && Nat.beq b d
  | .nilp, .nilp | .nils, .nils | .nilm, .nilm | .nilf, .nilf | .nili, .nili => true
  | .slice a b c d e f, .slice a' b' c' d' e' f' => Nat.beq a a' && Nat.beq b b' && Nat.beq c c' && Nat.beq d d' && Nat.beq e e' && bSame f f'
  | .map a, .map b => Nat.beq a b
  | .fn f c, .fn g d => Nat.beq f g && capsSame c d
  | .yld a, .yld b => Nat.beq a b
  | _, _ => false
def csSame : List CV → List CV → Bool
  | [], [] => true
  | a :: r, b :: s => a.same b && csSame r s
  | _, _ => false
def V.same : V → V → Bool
  | .one (.c a), .one (.c b) => a.same b
  | .one (.agg a), .one (.agg b) => csSame a b
  | _, _ => false

/-- A cell's value out of the model's constants. -/
def CV.of : Value → Option CV
  | .bool b => some (.bool b)
  | .int k n => some (.int k n)
  | .string s => some (.str (s.data.toList.map (·.toNat)))
  | .pointer none => some .nilp
  | .slice none 0 0 => some .nils
  | .map none => some .nilm
  | .nilFunc => some .nilf
  | .nilIface => some .nili
  | _ => none
def CV.ofList : List Value → Option (List CV)
  | [] => some []
  | v :: r => (CV.of v).bind fun x => (CV.ofList r).bind fun xs => some (x :: xs)
def V1.of : Value → Option V1
  | .agg cs => (CV.ofList cs.toList).bind fun xs => some (.agg xs)
  | v => (CV.of v).bind fun x => some (.c x)
def V1.cells : V1 → List CV
  | .c x => [x]
  | .agg xs => xs

/-! ### Memory -/
inductive Blk where
  | cells (n : Nat) (c : T CV) (wr : Bool)
  | loop (st : LoopState) (pend : Option Code) (tm : T V) (nt : Nat) (ps : List Tmp) (assign body : Code) (d : Nat)
  | dfr (opn : Bool)
  | dead

structure Mem where
  next : Nat
  b : T Blk

noncomputable def Blk.asCells {β : Type} (d : β) (k : Nat → T CV → Bool → β) (b : Blk) : β :=
  Blk.rec (motive := fun _ => β) k (fun _ _ _ _ _ _ _ _ => d) (fun _ => d) d b
noncomputable def Blk.asLoop {β : Type} (d : β) (k : LoopState → Option Code → T V → Nat → List Tmp → Code → Code → Nat → β) (b : Blk) : β :=
  Blk.rec (motive := fun _ => β) (fun _ _ _ => d) k (fun _ => d) d b
noncomputable def Blk.asDfr {β : Type} (d : β) (k : Bool → β) (b : Blk) : β :=
  Blk.rec (motive := fun _ => β) (fun _ _ _ => d) (fun _ _ _ _ _ _ _ _ => d) k d b

noncomputable def Mem.load (M : Mem) (id off : Nat) : Option CV :=
  oRec none (Blk.asCells none fun n c _ => br (Nat.blt off n) (c.get off) none) (M.b.get id)
noncomputable def Mem.loads (M : Mem) (id off k : Nat) : Option (List CV) :=
  oRec none (Blk.asCells none fun n c _ => br (Nat.ble (off + k) n) (c.gets k off) none) (M.b.get id)
noncomputable def Mem.stores (M : Mem) (id off : Nat) (xs : List CV) : Option Mem :=
  oRec none (Blk.asCells none fun n c wr => br (wr && Nat.ble (off + xs.length) n) (some ⟨M.next, M.b.set id (.cells n (T.puts xs c off) true)⟩) none) (M.b.get id)
noncomputable def Mem.put (M : Mem) (b : Blk) : Mem := ⟨M.next + 1, M.b.set M.next b⟩
noncomputable def Mem.new (M : Mem) (xs : List CV) : Mem := M.put (.cells xs.length (T.puts xs .lf 0) true)
noncomputable def Mem.upd (M : Mem) (id : Nat) (b : Blk) : Mem := ⟨M.next, M.b.set id b⟩

/-- What an operation comes to. -/
inductive Out where
  | no
  | ok (v : V) (M : Mem)
noncomputable def Out.bind {β : Type} (d : β) (k : V → Mem → β) (o : Out) : β := Out.rec (motive := fun _ => β) d k o

/-! ### Operations, as they are carried out -/
inductive AR where
  | t (n : Nat)
  | v (x : V1)
noncomputable def getE (n : Nat) (tm : T V) : Option V := tm.get n
def valE (x : V1) (_ : T V) : Option V := some (.one x)
noncomputable def AR.ev (x : AR) : T V → Option V := AR.rec (motive := fun _ => T V → Option V) getE valE x

noncomputable def evC {β : Type} (d : β) (k : CV → β) (x : AR) (tm : T V) : β := oRec d (V.asC d k) (x.ev tm)
noncomputable def ev1 {β : Type} (d : β) (k : V1 → β) (x : AR) (tm : T V) : β := oRec d (V.as1 d k) (x.ev tm)

noncomputable def evs : List AR → T V → Option (List V1) :=
  List.rec (motive := fun _ => T V → Option (List V1)) (fun _ => some []) (fun x _ ih tm => ev1 none (fun v => (ih tm).bind fun vs => some (v :: vs)) x tm)
noncomputable def evcs : List AR → T V → Option (List CV) :=
  List.rec (motive := fun _ => T V → Option (List CV)) (fun _ => some []) (fun x _ ih tm => evC none (fun v => (ih tm).bind fun vs => some (v :: vs)) x tm)
noncomputable def evps : List AR → T V → Option (List (Nat × Nat)) :=
  List.rec (motive := fun _ => T V → Option (List (Nat × Nat))) (fun _ => some []) (fun x _ ih tm => evC none (CV.asPtr none fun a b => (ih tm).bind fun vs => some ((a, b) :: vs)) x tm)

/-- Replace from a place on. -/
def putAt : List CV → Nat → List CV → List CV
  | l, _, [] => l
  | [], _, _ => []
  | _ :: r, 0, x :: xs => x :: putAt r 0 xs
  | y :: r, i + 1, xs => y :: putAt r i xs
noncomputable def fillE : List (Nat × Nat × AR) → T V → List CV → Option (List CV) :=
  List.rec (motive := fun _ => T V → List CV → Option (List CV)) (fun _ cs => some cs)
    (fun p _ ih tm cs => ev1 none (fun v => br (Nat.beq v.cells.length p.2.1 && Nat.ble (p.1 + p.2.1) cs.length) (ih tm (putAt cs p.1 v.cells)) none) p.2.2 tm)
def repA (z : List CV) : Nat → List CV
  | 0 => []
  | n + 1 => z ++ repA z n

def addF (k : IntKind) (x y : Int) : Option CV := some (.int k (k.wrap (x + y)))
def subF (k : IntKind) (x y : Int) : Option CV := some (.int k (k.wrap (x - y)))
def mulF (k : IntKind) (x y : Int) : Option CV := some (.int k (k.wrap (x * y)))
noncomputable def quoF (k : IntKind) (x y : Int) : Option CV := br (iSame y 0) none (some (.int k (k.wrap (x.tdiv y))))
noncomputable def remF (k : IntKind) (x y : Int) : Option CV := br (iSame y 0) none (some (.int k (x.tmod y)))
def andF (k : IntKind) (x y : Int) : Option CV := some (.int k (k.wrap (BitVec.ofInt k.bits x &&& BitVec.ofInt k.bits y).toNat))
def orF (k : IntKind) (x y : Int) : Option CV := some (.int k (k.wrap (BitVec.ofInt k.bits x ||| BitVec.ofInt k.bits y).toNat))
def xorF (k : IntKind) (x y : Int) : Option CV := some (.int k (k.wrap (BitVec.ofInt k.bits x ^^^ BitVec.ofInt k.bits y).toNat))
def andNotF (k : IntKind) (x y : Int) : Option CV := some (.int k (k.wrap (BitVec.ofInt k.bits x &&& ~~~ BitVec.ofInt k.bits y).toNat))
def eqlF (_ : IntKind) (x y : Int) : Option CV := some (.bool (iSame x y))
def neqF (_ : IntKind) (x y : Int) : Option CV := some (.bool (!iSame x y))
def lssF (_ : IntKind) (x y : Int) : Option CV := some (.bool (decide (x < y)))
def leqF (_ : IntKind) (x y : Int) : Option CV := some (.bool (decide (x ≤ y)))
def gtrF (_ : IntKind) (x y : Int) : Option CV := some (.bool (decide (y < x)))
def geqF (_ : IntKind) (x y : Int) : Option CV := some (.bool (decide (y ≤ x)))
def noF (_ : IntKind) (_ _ : Int) : Option CV := none
noncomputable def intF (op : BinOp) : IntKind → Int → Int → Option CV :=
  BinOp.rec (motive := fun _ => IntKind → Int → Int → Option CV) addF subF mulF quoF remF andF orF xorF noF noF andNotF eqlF neqF lssF leqF gtrF geqF op
def shlF (k : IntKind) (x y : Int) : Option CV := some (.int k (k.wrap (x * 2 ^ (min y.toNat k.bits))))
def shrF (k : IntKind) (x y : Int) : Option CV := some (.int k (x.fdiv (2 ^ (min y.toNat k.bits))))
noncomputable def shiftF (op : BinOp) : IntKind → Int → Int → Option CV :=
  BinOp.rec (motive := fun _ => IntKind → Int → Int → Option CV) noF noF noF noF noF noF noF noF shlF shrF noF noF noF noF noF noF noF op

def nsLess : List Nat → List Nat → Bool
  | _, [] => false
  | [], _ :: _ => true
  | a :: x, b :: y => Nat.blt a b || (Nat.beq a b && nsLess x y)
def sAddF (x y : List Nat) : Option CV := cond (Nat.blt (x.length + y.length) 4294967296) (some (.str (x ++ y))) none
def sEqlF (x y : List Nat) : Option CV := some (.bool (nsSame x y))
def sNeqF (x y : List Nat) : Option CV := some (.bool (!nsSame x y))
def sLssF (x y : List Nat) : Option CV := some (.bool (nsLess x y))
def sLeqF (x y : List Nat) : Option CV := some (.bool (nsLess x y || nsSame x y))
def sGtrF (x y : List Nat) : Option CV := some (.bool (!(nsLess x y || nsSame x y)))
def sGeqF (x y : List Nat) : Option CV := some (.bool (!nsLess x y))
def sNoF (_ _ : List Nat) : Option CV := none
noncomputable def strF (op : BinOp) : List Nat → List Nat → Option CV :=
  BinOp.rec (motive := fun _ => List Nat → List Nat → Option CV) sAddF sNoF sNoF sNoF sNoF sNoF sNoF sNoF sNoF sNoF sNoF sEqlF sNeqF sLssF sLeqF sGtrF sGeqF op

/-- Two flat values, cell by cell: a truth value, a number, a text. -/
inductive CK where | b | i | s
def cellEq (k : CK) (x y : CV) : Option Bool :=
  match k, x, y with
  | .b, .bool a, .bool b => some (bSame a b)
  | .i, .int k a, .int l b => cond (kSame k l) (some (iSame a b)) none
  | .s, .str a, .str b => some (nsSame a b)
  | _, _, _ => none
def flatEq : List (Nat × CK) → List CV → List CV → Option Bool
  | [], _, _ => some true
  | (o, k) :: r, xs, ys => (xs[o]?).bind fun x => (ys[o]?).bind fun y => (cellEq k x y).bind fun b => cond b (flatEq r xs ys) (some false)

/-- Is one of two nil? (Both may be.) -/
inductive NK where | p | s | m | f
def nilEq : NK → CV → CV → Option Bool
  | .p, .nilp, .nilp | .s, .nils, .nils | .f, .nilf, .nilf | .m, .nilm, .nilm => some true
  | .p, .nilp, .ptr _ _ | .p, .ptr _ _, .nilp | .s, .nils, .slice .. | .s, .slice .., .nils | .f, .nilf, .fn _ _ | .f, .fn _ _, .nilf | .m, .nilm, .map _ | .m, .map _, .nilm => some false
  | _, _, _ => none

def negF (k : IntKind) (n : Int) : CV := .int k (k.wrap (0 - n))
def invF (k : IntKind) (n : Int) : CV := .int k (k.wrap (BitVec.ofInt k.bits (if k.signed then -1 else k.max) ^^^ BitVec.ofInt k.bits n).toNat)

def bytesOf (s : List Nat) : List CV := s.map fun b => .int .u8 (Int.ofNat b)
def bytesBack : List CV → Option (List Nat)
  | [] => some []
  | .int .u8 (.ofNat n) :: r => cond (Nat.blt n 256) ((bytesBack r).bind fun l => some (n :: l)) none
  | _ => none

def natOf : Int → Option Nat
  | .ofNat n => some n
  | _ => none

inductive AOp where
  | mv (x : AR)
  | pick (c a b : AR)
  | alloc (z : List CV)
  | box (x : AR)
  | build (z : List CV) (ps : List (Nat × Nat × AR))
  | bslice (s len : Nat) (z : List CV) (ps : List (Nat × Nat × AR))
  | mkslice (s bytes : Nat) (z : List CV) (l c : AR)
  | ld1 (a : AR)
  | ldn (s : Nat) (a : AR)
  | st (s : Nat) (a x : AR)
  | nilck (x : AR)
  | ibin (op : BinOp) (x y : AR)
  | shift (op : BinOp) (x y : AR)
  | sbin (op : BinOp) (x y : AR)
  | beq (neg : Bool) (x y : AR)
  | nileq (neg : Bool) (k : NK) (x y : AR)
  | ageq (neg : Bool) (s : Nat) (l : List (Nat × CK)) (x y : AR)
  | ineg (x : AR)
  | inv (x : AR)
  | bnot (x : AR)
  | i2i (k : IntKind) (x : AR)
  | s2s (x : AR)
  | s2b (x : AR)
  | b2s (x : AR)
  | mkfn (f : FuncId) (caps : List AR)
  | slS (x : AR) (lo hi : Option AR)
  | slV (es : Nat) (x : AR) (lo hi mx : Option AR)
  | slA (len s : Nat) (x : AR) (lo hi : Option AR)
  | faddr (off : Nat) (x : AR)
  | fld1 (off : Nat) (x : AR)
  | fldn (off s : Nat) (x : AR)
  | iaddrA (len s : Nat) (x i : AR)
  | iaddrS (s : Nat) (x i : AR)
  | idx1 (len s : Nat) (x i : AR)
  | idxn (len s : Nat) (x i : AR)
  | idxS (x i : AR)
  | ext (i : Nat) (x : AR)
  | len (str : Bool) (x : AR)
  | app (s bytes : Nat) (x y : AR)
  | cpy (s : Nat) (x y : AR)
  | min (x y : AR)

noncomputable def okc (x : CV) (M : Mem) : Out := .ok (.one (.c x)) M
noncomputable def okO (o : Option CV) (M : Mem) : Out := oRec .no (fun x => okc x M) o
noncomputable def okV (o : Option V) (M : Mem) : Out := oRec .no (fun v => .ok v M) o

noncomputable def mvE (x : AR) (tm : T V) (M : Mem) : Out := okV (x.ev tm) M
noncomputable def pickE (c a b : AR) (tm : T V) (M : Mem) : Out := evC .no (CV.asBool .no fun t => okV ((br t a b).ev tm) M) c tm
/-- What lays a block: its cells, and the value by the block's number. -/
noncomputable def lay (M : Mem) (cs : List CV) (v : Nat → CV) : Out := okc (v M.next) (M.new cs)
def ptr0 (id : Nat) : CV := .ptr id 0
noncomputable def allocE (z : List CV) (_ : T V) (M : Mem) : Out := lay M z ptr0
noncomputable def boxE (x : AR) (tm : T V) (M : Mem) : Out := ev1 .no (fun v => lay M v.cells ptr0) x tm
noncomputable def buildE (z : List CV) (ps : List (Nat × Nat × AR)) (tm : T V) (M : Mem) : Out := oRec .no (fun cs => .ok (.one (.agg cs)) M) (fillE ps tm z)
def sl0 (len cap s : Nat) (id : Nat) : CV := .slice id 0 len cap s false
noncomputable def bsliceE (s len : Nat) (z : List CV) (ps : List (Nat × Nat × AR)) (tm : T V) (M : Mem) : Out :=
  oRec .no (fun cs => lay M cs (sl0 len len s)) (fillE ps tm (repA z len))
noncomputable def mksliceE (s bytes : Nat) (z : List CV) (l c : AR) (tm : T V) (M : Mem) : Out :=
  evC .no (CV.asInt .no fun _ l => oRec .no (fun l => evC .no (CV.asInt .no fun _ c => oRec .no (fun c =>
    br (Nat.ble l c && Nat.ble (c * bytes) 4294967296 && Nat.ble c 4294967296) (lay M (repA z c) (sl0 l c s)) .no) (natOf c)) c tm) (natOf l)) l tm
noncomputable def ld1E (a : AR) (tm : T V) (M : Mem) : Out := evC .no (CV.asPtr .no fun id off => okO (M.load id off) M) a tm
noncomputable def ldnE (s : Nat) (a : AR) (tm : T V) (M : Mem) : Out := evC .no (CV.asPtr .no fun id off => oRec .no (fun l => .ok (.one (.agg l)) M) (M.loads id off s)) a tm
noncomputable def stE (s : Nat) (a x : AR) (tm : T V) (M : Mem) : Out :=
  evC .no (CV.asPtr .no fun id off => ev1 .no (fun y => br (Nat.beq y.cells.length s) (oRec .no (fun M' => .ok .undef M') (M.stores id off y.cells)) .no) x tm) a tm
noncomputable def nilckE (x : AR) (tm : T V) (M : Mem) : Out :=
  evC .no (fun v => CV.rec (motive := fun _ => Out) (fun _ => .no) (fun _ _ => .no) (fun _ => .no) (fun _ _ => okc v M) .no (fun _ _ _ _ _ _ => .no) .no (fun _ _ => okc v M) (fun _ => okc v M) .no .no (fun _ => .no) .no v) x tm
noncomputable def ibinE (op : BinOp) (x y : AR) (tm : T V) (M : Mem) : Out :=
  evC .no (CV.asInt .no fun k a => evC .no (CV.asInt .no fun l b => br (kSame k l) (okO (intF op k a b) M) .no) y tm) x tm
noncomputable def shiftE (op : BinOp) (x y : AR) (tm : T V) (M : Mem) : Out :=
  evC .no (CV.asInt .no fun k a => evC .no (CV.asInt .no fun _ b => br (decide (b < 0)) .no (okO (shiftF op k a b) M)) y tm) x tm
noncomputable def sbinE (op : BinOp) (x y : AR) (tm : T V) (M : Mem) : Out :=
  evC .no (CV.asStr .no fun a => evC .no (CV.asStr .no fun b => okO (strF op a b) M) y tm) x tm
noncomputable def okB (neg : Bool) (M : Mem) (b : Bool) : Out := okc (.bool (br neg (!b) b)) M
noncomputable def beqE (neg : Bool) (x y : AR) (tm : T V) (M : Mem) : Out :=
  evC .no (CV.asBool .no fun a => evC .no (CV.asBool .no fun b => okB neg M (bSame a b)) y tm) x tm
noncomputable def nileqE (neg : Bool) (k : NK) (x y : AR) (tm : T V) (M : Mem) : Out :=
  evC .no (fun a => evC .no (fun b => oRec .no (okB neg M) (nilEq k a b)) y tm) x tm
noncomputable def ageqE (neg : Bool) (s : Nat) (l : List (Nat × CK)) (x y : AR) (tm : T V) (M : Mem) : Out :=
  oRec .no (V.asAgg .no fun a => oRec .no (V.asAgg .no fun b => br (Nat.beq a.length s && Nat.beq b.length s) (oRec .no (okB neg M) (flatEq l a b)) .no) (y.ev tm)) (x.ev tm)
noncomputable def inegE (x : AR) (tm : T V) (M : Mem) : Out := evC .no (CV.asInt .no fun k n => okc (negF k n) M) x tm
noncomputable def invE (x : AR) (tm : T V) (M : Mem) : Out := evC .no (CV.asInt .no fun k n => okc (invF k n) M) x tm
noncomputable def bnotE (x : AR) (tm : T V) (M : Mem) : Out := evC .no (CV.asBool .no fun b => okc (.bool (br b false true)) M) x tm
noncomputable def i2iE (k : IntKind) (x : AR) (tm : T V) (M : Mem) : Out := evC .no (CV.asInt .no fun _ n => okc (.int k (k.wrap n)) M) x tm
noncomputable def s2sE (x : AR) (tm : T V) (M : Mem) : Out := evC .no (CV.asStr .no fun s => okc (.str s) M) x tm
def slO (len cap s : Nat) (id : Nat) : CV := .slice id 0 len cap s true
noncomputable def s2bE (x : AR) (tm : T V) (M : Mem) : Out := evC .no (CV.asStr .no fun s => lay M (bytesOf s) (slO s.length s.length 1)) x tm
noncomputable def b2sE (x : AR) (tm : T V) (M : Mem) : Out :=
  evC .no (CV.asSlice .no (okc (.str []) M) fun id off len _ es _ => br (Nat.beq es 1) (oRec .no (fun l => oRec .no (fun b => okc (.str b) M) (bytesBack l)) (M.loads id off len)) .no) x tm
noncomputable def mkfnE (f : FuncId) (caps : List AR) (tm : T V) (M : Mem) : Out := oRec .no (fun cs => okc (.fn f cs) M) (evps caps tm)
/-- A bound of a slice's expression, at most so great. -/
noncomputable def bnd (k : Nat → Out) (x : Option AR) (dflt top : Nat) (tm : T V) : Out :=
  oRec (k dflt) (fun o => evC .no (CV.asInt .no fun _ n => oRec .no (fun n => br (Nat.ble n top) (k n) .no) (natOf n)) o tm) x
noncomputable def slSE (x : AR) (lo hi : Option AR) (tm : T V) (M : Mem) : Out :=
  evC .no (CV.asStr .no fun s => bnd (fun h => bnd (fun l => okc (.str ((s.drop l).take (h - l))) M) lo 0 h tm) hi s.length s.length tm) x tm
noncomputable def slVE (es : Nat) (x : AR) (lo hi mx : Option AR) (tm : T V) (M : Mem) : Out :=
  evC .no (CV.asSlice .no (br mx.isSome .no (bnd (fun h => bnd (fun _ => okc .nils M) lo 0 h tm) hi 0 0 tm)) fun id off len cap es' opn =>
    br (Nat.beq es es' && !(mx.isSome && (hi.isNone || (opn && Nat.beq cap 0)))) (bnd (fun m => bnd (fun h => br (Nat.ble h m) (bnd (fun l =>
      okc (.slice id (br (Nat.beq m l && (mx.isSome || !opn)) off (off + l * es)) (h - l) (m - l) es (opn && !mx.isSome)) M) lo 0 h tm) .no) hi len m tm) mx cap cap tm) .no) x tm
noncomputable def slAE (len s : Nat) (x : AR) (lo hi : Option AR) (tm : T V) (M : Mem) : Out :=
  evC .no (CV.asPtr .no fun id off => bnd (fun h => bnd (fun l => okc (.slice id (br (Nat.beq len l) off (off + l * s)) (h - l) (len - l) s false) M) lo 0 h tm) hi len len tm) x tm
noncomputable def faddrE (o : Nat) (x : AR) (tm : T V) (M : Mem) : Out := evC .no (CV.asPtr .no fun id off => okc (.ptr id (off + o)) M) x tm
def cell1 (cs : List CV) (o : Nat) : Option CV := cs[o]?
noncomputable def celln (cs : List CV) (o s : Nat) (M : Mem) : Out := br (Nat.ble (o + s) cs.length) (.ok (.one (.agg ((cs.drop o).take s))) M) .no
noncomputable def fld1E (o : Nat) (x : AR) (tm : T V) (M : Mem) : Out := oRec .no (V.asAgg .no fun cs => okO (cell1 cs o) M) (x.ev tm)
noncomputable def fldnE (o s : Nat) (x : AR) (tm : T V) (M : Mem) : Out := oRec .no (V.asAgg .no fun cs => celln cs o s M) (x.ev tm)
noncomputable def nat' (k : Nat → Out) (i : AR) (tm : T V) : Out := evC .no (CV.asInt .no fun _ n => oRec .no k (natOf n)) i tm
noncomputable def iaddrAE (len s : Nat) (x i : AR) (tm : T V) (M : Mem) : Out :=
  evC .no (CV.asPtr .no fun id off => nat' (fun i => br (Nat.blt i len) (okc (.ptr id (off + i * s)) M) .no) i tm) x tm
noncomputable def iaddrSE (s : Nat) (x i : AR) (tm : T V) (M : Mem) : Out :=
  evC .no (CV.asSlice .no .no fun id off len _ es _ => nat' (fun i => br (Nat.blt i len && Nat.beq s es) (okc (.ptr id (off + i * s)) M) .no) i tm) x tm
noncomputable def idx1E (len s : Nat) (x i : AR) (tm : T V) (M : Mem) : Out :=
  oRec .no (V.asAgg .no fun cs => nat' (fun i => br (Nat.blt i len) (okO (cell1 cs (i * s)) M) .no) i tm) (x.ev tm)
noncomputable def idxnE (len s : Nat) (x i : AR) (tm : T V) (M : Mem) : Out :=
  oRec .no (V.asAgg .no fun cs => nat' (fun i => br (Nat.blt i len) (celln cs (i * s) s M) .no) i tm) (x.ev tm)
noncomputable def idxSE (x i : AR) (tm : T V) (M : Mem) : Out :=
  evC .no (CV.asStr .no fun s => nat' (fun i => oRec .no (fun b => okc (.int .u8 (Int.ofNat b)) M) (s[i]?)) i tm) x tm
noncomputable def extE (i : Nat) (x : AR) (tm : T V) (M : Mem) : Out :=
  oRec .no (V.rec (motive := fun _ => Out) (fun _ => .no) (fun vs => oRec .no (fun y => .ok (.one y) M) (vs[i]?)) .no) (x.ev tm)
noncomputable def lenE (str : Bool) (x : AR) (tm : T V) (M : Mem) : Out :=
  evC .no (br str (CV.asStr .no fun s => okc (.int .i64 (Int.ofNat s.length)) M) (CV.asSlice .no (okc (.int .i64 (Int.ofNat 0)) M) fun _ _ n _ _ _ => okc (.int .i64 (Int.ofNat n)) M)) x tm

/-- The cells of what is appended or copied, and how many things they are. -/
noncomputable def firstE (M : Mem) (s : Nat) (k : Nat → List CV → Out) (x : CV) : Out :=
  CV.rec (motive := fun _ => Out) (fun _ => .no) (fun _ _ => .no) (fun b => br (Nat.beq s 1) (k b.length (bytesOf b)) .no) (fun _ _ => .no) .no
    (fun id off len _ es _ => br (Nat.beq s es) (oRec .no (k len) (M.loads id off (len * s))) .no) (k 0 []) (fun _ _ => .no) (fun _ => .no) .no .no (fun _ => .no) .no x
noncomputable def grow (M : Mem) (cs : List CV) (need s : Nat) : Out := br (Nat.ble need 4294967296) (lay M cs (slO need need s)) .no
noncomputable def app1 (M : Mem) (s n : Nat) (new : List CV) (id off len cap : Nat) (es : Nat) (opn : Bool) : Out :=
  br (Nat.beq s es)
    (br (Nat.ble (len + n) cap)
      (oRec .no (fun M' => okc (.slice id off (len + n) cap es opn) M') (M.stores id (off + len * s) new))
      (oRec .no (Blk.asCells .no fun m c wr =>
          br opn
            (br (wr && Nat.beq m (off + len * s)) (oRec .no (fun old => grow (M.upd id .dead) (old ++ new) (len + n) s) (c.gets (len * s) off)) .no)
            (br (Nat.ble (off + len * s) m) (oRec .no (fun old => grow M (old ++ new) (len + n) s) (c.gets (len * s) off)) .no)) (M.b.get id))) .no
noncomputable def appE (s _bytes : Nat) (x y : AR) (tm : T V) (M : Mem) : Out :=
  evC .no (fun a => evC .no (firstE M s fun n new =>
    CV.asSlice .no (br (Nat.beq n 0) (okc .nils M) (grow M new n s)) (app1 M s n new) a) y tm) x tm
noncomputable def cpyE (s : Nat) (x y : AR) (tm : T V) (M : Mem) : Out :=
  evC .no (fun a => evC .no (firstE M s fun n new =>
    CV.asSlice .no (okc (.int .i64 0) M) (fun id off len _ es _ => br (Nat.beq s es)
      (oRec .no (fun M' => okc (.int .i64 (Int.ofNat (Nat.min n len))) M') (M.stores id off (new.take (Nat.min n len * s)))) .no) a) y tm) x tm
noncomputable def minE (x y : AR) (tm : T V) (M : Mem) : Out :=
  evC .no (CV.asInt .no fun k a => evC .no (CV.asInt .no fun _ b => okc (.int k (br (decide (b < a)) b a)) M) y tm) x tm

noncomputable def AOp.ev (a : AOp) : T V → Mem → Out :=
  AOp.rec (motive := fun _ => T V → Mem → Out) mvE pickE allocE boxE buildE bsliceE mksliceE ld1E ldnE stE nilckE ibinE shiftE sbinE beqE nileqE ageqE inegE invE bnotE
    i2iE s2sE s2bE b2sE mkfnE slSE slVE slAE faddrE fld1E fldnE iaddrAE iaddrSE idx1E idxnE idxSE extE lenE appE cpyE minE a

/-! ### From the model's operations -/
section
variable (P : Program)
noncomputable def szOf (t : TypeId) : Option Nat := (P.info? t).map (·.size)
def descAgg : TypeDesc → Bool
  | .struct _ | .array _ _ => true
  | _ => false
noncomputable def aggT (t : TypeId) : Option Bool := (P.underlying t).map descAgg
noncomputable def zeroT (t : TypeId) : Option V1 := (P.info? t).bind fun i => i.zero.bind V1.of
noncomputable def elemT (t : TypeId) : Option TypeId := (P.underlying t).bind fun d => match d with | .slice e => some e | _ => none

def arOf : Operand → Option AR
  | .tmp t => some (.t t)
  | .const v => (V1.of v).bind fun x => some (.v x)
  | .global _ => none
  | .func f => some (.v (.c (.fn f [])))
def arsOf : List Operand → Option (List AR)
  | [] => some []
  | x :: r => (arOf x).bind fun a => (arsOf r).bind fun l => some (a :: l)
def aroOf : Option Operand → Option (Option AR)
  | none => some none
  | some x => (arOf x).bind fun a => some (some a)
noncomputable def placeA (d : TypeDesc) (i : Nat) : Option (Nat × Nat) :=
  match d with
  | .struct fs => (fs[i]?).bind fun f => (szOf P f.type).bind fun s => some (f.offset, s)
  | .array _ e => (szOf P e).bind fun s => some (i * s, s)
  | _ => none
noncomputable def sizedT (d : TypeDesc) : Bool :=
  match d with
  | .struct fs => fs.toList.all fun f => (szOf P f.type).isSome
  | .array _ e => (szOf P e).isSome
  | _ => false
noncomputable def partsOf (pl : Nat → Option (Nat × Nat)) : List (Nat × Operand) → Option (List (Nat × Nat × AR))
  | [] => some []
  | (i, x) :: r => (pl i).bind fun p => (arOf x).bind fun a => (partsOf pl r).bind fun l => some ((p.1, p.2, a) :: l)

/-- How two values of a type are held against each other, cell by cell. -/
noncomputable def flatFs (rec : TypeId → Nat → Option (List (Nat × CK))) (o s : Nat) : List Field → Option (List (Nat × CK))
  | [] => some []
  | f :: r => (szOf P f.type).bind fun n => cond (f.name == "_" || !(Nat.blt 0 n && Nat.ble (f.offset + n) s)) none
      ((rec f.type (o + f.offset)).bind fun a => (flatFs rec o s r).bind fun b => some (a ++ b))
noncomputable def flatT : (depth : Nat) → TypeId → Nat → Option (List (Nat × CK))
  | 0, _, _ => none
  | d + 1, t, o => (P.underlying t).bind fun u => match u with
    | .bool => some [(o, .b)]
    | .int _ => some [(o, .i)]
    | .string => some [(o, .s)]
    | .struct fs => (szOf P t).bind fun s => cond (P.stoodInHeld t) none (flatFs P (flatT d) o s fs.toList)
    | _ => none

noncomputable def eqOf (neg : Bool) (t : TypeId) (x y : AR) : Option AOp :=
  (P.underlying t).bind fun u => match u with
    | .bool => some (.beq neg x y)
    | .pointer _ => some (.nileq neg .p x y)
    | .slice _ => some (.nileq neg .s x y)
    | .map _ _ => some (.nileq neg .m x y)
    | .func _ _ _ => some (.nileq neg .f x y)
    | .struct _ | .array _ _ => cond (P.eqGuardType P.depth t) none ((szOf P t).bind fun s => (flatT P 20 t 0).bind fun l => some (.ageq neg s l x y))
    | _ => none
noncomputable def binOf (op : BinOp) (t : TypeId) (x y : AR) : Option AOp :=
  match op with
  | .shl | .shr => some (.shift op x y)
  | _ => (P.underlying t).bind fun u => match u with
    | .int _ => some (.ibin op x y)
    | .string => some (.sbin op x y)
    | _ => match op with
      | .eql => eqOf P false t x y
      | .neq => eqOf P true t x y
      | _ => none

noncomputable def builtinOf (b : Builtin) (ts : List TypeId) (xs : List AR) : Option AOp :=
  match b, ts, xs with
  | .len, t :: _, x :: _ => (P.underlying t).bind fun u => match u with
    | .string => some (.len true x)
    | .slice _ => some (.len false x)
    | _ => none
  | .append, [t, u], [x, y] => (elemT P t).bind fun e => (P.info? e).bind fun i => (P.underlying u).bind fun d => match d with
    | .string | .slice _ => cond (Nat.beq i.size 0 || Nat.ble 512 i.bytes) none ((zeroT P e).bind fun z => cond (Nat.beq z.cells.length i.size) (some (.app i.size i.bytes x y)) none)
    | _ => none
  | .copy, t :: _, [x, y] => (elemT P t).bind fun e => (szOf P e).bind fun s => cond (Nat.beq s 0) none (some (.cpy s x y))
  | .min, _, [x, y] => some (.min x y)
  | _, _, _ => none

/-- An operation that calls nothing, as it is carried out. -/
noncomputable def aopOf (op : Op) : Option AOp :=
  match op with
  | .move x | .assign x => (arOf x).bind fun x => some (.mv x)
  | .pick c a b => (arOf c).bind fun c => (arOf a).bind fun a => (arOf b).bind fun b => some (.pick c a b)
  | .alloc e => (zeroT P e).bind fun z => some (.alloc z.cells)
  | .box _ x => (arOf x).bind fun x => some (.box x)
  | .build t parts => (zeroT P t).bind fun z => (P.underlying t).bind fun d => cond (descAgg d && sizedT P d)
      ((partsOf (placeA P d) parts.toList).bind fun ps => some (.build z.cells ps)) none
  | .buildSlice t len parts => (elemT P t).bind fun e => (szOf P e).bind fun s => cond (Nat.beq s 0 || Nat.ble 16777216 (len * s)) none
      ((zeroT P e).bind fun z => cond (Nat.beq z.cells.length s) ((partsOf (fun i => some (i * s, s)) parts.toList).bind fun ps => some (.bslice s len z.cells ps)) none)
  | .makeSlice t l c => (elemT P t).bind fun e => (P.info? e).bind fun i => cond (Nat.beq i.size 0) none ((zeroT P e).bind fun z => cond (Nat.beq z.cells.length i.size)
      ((arOf l).bind fun l => (arOf c).bind fun c => some (.mkslice i.size i.bytes z.cells l c)) none)
  | .load t a => (aggT P t).bind fun g => (szOf P t).bind fun s => (arOf a).bind fun a => some (cond g (.ldn s a) (.ld1 a))
  | .store t a x => (szOf P t).bind fun s => (arOf a).bind fun a => (arOf x).bind fun x => some (.st s a x)
  | .nilCheck x => (arOf x).bind fun x => some (.nilck x)
  | .binOp op t x y _ => (arOf x).bind fun x => (arOf y).bind fun y => binOf P op t x y
  | .unOp op _ x => (arOf x).bind fun x => match op with
      | .neg => some (.ineg x)
      | .xor => some (.inv x)
      | .not => some (.bnot x)
      | _ => none
  | .convert s d x => (P.underlying s).bind fun u => (P.underlying d).bind fun v => (arOf x).bind fun x => match u, v with
      | .int _, .int k => some (.i2i k x)
      | .string, .string => some (.s2s x)
      | .string, .slice e => (P.underlying e).bind fun w => match w with | .int .u8 => some (.s2b x) | _ => none
      | .slice e, .string => (P.underlying e).bind fun w => match w with | .int .u8 => some (.b2s x) | _ => none
      | _, _ => none
  | .makeFunc (.func f) first caps => cond first.toList.isEmpty ((arsOf caps.toList).bind fun l => some (.mkfn f l)) none
  | .slice t x lo hi mx => (P.underlying t).bind fun u => (arOf x).bind fun x => (aroOf lo).bind fun lo => (aroOf hi).bind fun hi => (aroOf mx).bind fun mx => match u, mx with
      | .string, none => some (.slS x lo hi)
      | .slice e, mx => (szOf P e).bind fun s => some (.slV s x lo hi mx)
      | .array n e, none => (szOf P e).bind fun s => some (.slA n s x lo hi)
      | _, _ => none
  | .fieldAddr s x f => (P.underlying s).bind fun d => (arOf x).bind fun x => match d with
      | .struct fs => (fs[f]?).bind fun f => (szOf P f.type).bind fun s => cond (Nat.beq s 0) none (some (.faddr f.offset x))
      | _ => none
  | .field t x f => (P.underlying t).bind fun d => (arOf x).bind fun x => match d with
      | .struct fs => (fs[f]?).bind fun f => (aggT P f.type).bind fun g => (szOf P f.type).bind fun s => some (cond g (.fldn f.offset s x) (.fld1 f.offset x))
      | _ => none
  | .indexAddr t x i => (P.underlying t).bind fun d => (arOf x).bind fun x => (arOf i).bind fun i => match d with
      | .array len e => (szOf P e).bind fun s => some (.iaddrA len s x i)
      | .slice e => (szOf P e).bind fun s => some (.iaddrS s x i)
      | _ => none
  | .index t x i => (P.underlying t).bind fun d => (arOf x).bind fun x => (arOf i).bind fun i => match d with
      | .array len e => (aggT P e).bind fun g => (szOf P e).bind fun s => some (cond g (.idxn len s x i) (.idx1 len s x i))
      | .string => some (.idxS x i)
      | _ => none
  | .extract x i => (arOf x).bind fun x => some (.ext i x)
  | .call c => match c.callee with
      | .builtin b => (arsOf c.args.toList).bind fun xs => builtinOf P b c.argTypes.toList xs
      | _ => none
  | _ => none

/-- An operation with its guard (a temporary and what it must be), and where its answer goes. -/
inductive AX where
  | op (a : AOp)
  | call (f : AR) (args : List AR)
structure CO where
  guard : Option (Nat × Bool)
  dst : Option Nat
  x : AX
noncomputable def axOf (op : Op) : Option AX :=
  match op with
  | .call c => match c.callee with
    | .value f => (arOf f).bind fun f => (arsOf c.args.toList).bind fun xs => some (.call f xs)
    | _ => (aopOf P op).bind fun a => some (.op a)
  | _ => (aopOf P op).bind fun a => some (.op a)
def guardOf (ops : Array Oper) (o : Oper) : Option (Option (Nat × Bool)) :=
  match o.guard with
  | none => some none
  | some (j, want) => ((ops[j]?).bind (·.dst)).bind fun d => some (some (d, want))
def dstOk : Option Nat → Nat → Bool
  | none, _ => true
  | some d, nt => Nat.blt d nt
noncomputable def coOf (ops : Array Oper) (nt : Nat) (o : Oper) : Option CO :=
  (guardOf ops o).bind fun g => (axOf P o.op).bind fun x => cond (dstOk o.dst nt) (some ⟨g, o.dst, x⟩) none
noncomputable def cosOf (ops : Array Oper) (nt : Nat) : List Oper → Option (List CO)
  | [] => some []
  | o :: r => (coOf P ops nt o).bind fun c => (cosOf ops nt r).bind fun l => some (c :: l)
end

/-! ### The run of code -/
inductive Rn where
  | no
  | nx (tm : T V) (mk : List Nat) (M : Mem)
  | ex (id : Nat) (tm : T V) (mk : List Nat) (M : Mem)
  | rt (tm : T V) (mk : List Nat) (M : Mem)
inductive St where
  | no
  | ok (tm : T V) (M : Mem)
noncomputable def St.bind {β : Type} (d : β) (k : T V → Mem → β) (o : St) : β := St.rec (motive := fun _ => β) d k o

/-- What is done below: code, within a round or not; a call; a round. -/
structure Rec where
  code : Code → Option Nat → Nat → T V → List Nat → Mem → Rn
  call : FuncId → List V1 → Mem → Out
  round : Nat → List V1 → Mem → Out

def capV (c : Nat × Nat) : V1 := .c (.ptr c.1 c.2)
noncomputable def callE (f : AR) (args : List AR) (R : Rec) (tm : T V) (M : Mem) : Out :=
  evC .no (CV.asFn .no (fun g caps => oRec .no (fun xs => R.call g (xs ++ caps.map capV) M) (evs args tm)) (fun l => oRec .no (fun xs => R.round l xs M) (evs args tm))) f tm
noncomputable def opE (a : AOp) (_ : Rec) (tm : T V) (M : Mem) : Out := a.ev tm M
noncomputable def AX.ev (x : AX) : Rec → T V → Mem → Out := AX.rec (motive := fun _ => Rec → T V → Mem → Out) opE callE x

noncomputable def putD (d : Option Nat) (v : V) (tm : T V) : T V := oRec tm (fun d => tm.set d v) d
/-- Is it wanted? -/
noncomputable def wantG (g : Option (Nat × Bool)) (tm : T V) : Option Bool :=
  oRec (some true) (fun p => oRec none (fun v => some (V.asC false (CV.asBool false (bSame p.2)) v)) (tm.get p.1)) g
noncomputable def CO.ev (c : CO) (R : Rec) (tm : T V) (M : Mem) : Out :=
  oRec .no (fun b => br b (c.x.ev R tm M) (.ok .undef M)) (wantG c.guard tm)

noncomputable def opsE : List CO → Rec → T V → Mem → St :=
  List.rec (motive := fun _ => Rec → T V → Mem → St) (fun _ tm M => .ok tm M)
    (fun c _ ih R tm M => Out.bind .no (fun v M' => ih R (putD c.dst v tm) M') (c.ev R tm M))

/-! A region that draws its order. -/
inductive Kind where | pure | read | alloc | eff
def Kind.isEff : Kind → Bool | .eff => true | _ => false
def Kind.isRead : Kind → Bool | .read => true | _ => false
def AX.kind : AX → Kind
  | .op a => match a with
    | .mv _ | .pick .. | .build .. | .nilck _ | .ibin .. | .shift .. | .sbin .. | .beq .. | .nileq .. | .ageq .. | .ineg _ | .inv _ | .bnot _ | .i2i .. | .s2s _ | .mkfn .. | .slS .. | .slV .. | .slA ..
    | .faddr .. | .fld1 .. | .fldn .. | .iaddrA .. | .iaddrS .. | .idx1 .. | .idxn .. | .idxS .. | .ext .. | .len .. | .min .. => .pure
    | .ld1 _ | .ldn .. => .read
    | .alloc _ | .box _ | .bslice .. | .mkslice .. => .alloc
    | _ => .eff
  | .call .. => .eff

structure PI where
  i : Nat
  o : Oper
  c : CO
  k : Kind
/-- Which operations come surely ahead of each: bit by bit. -/
def masks (ops : Array Oper) : List Nat := (Region.before ops).toList
def anc (ms : List Nat) (x i : Nat) : Bool := (ms.getD x 0).testBit i
def maskOf (o : Oper) : Nat := o.after.foldl (fun s e => cond (Region.binds .any e) (s ||| 2 ^ e.on) s) 0
/-- The first that may come: one that has no effect, if there is one. -/
def firstQ (done : Nat) (eff : Bool) : List PI → Option PI
  | [] => none
  | p :: r => cond (bSame p.k.isEff eff && Nat.beq (maskOf p.o &&& done) (maskOf p.o)) (some p) (firstQ done eff r)
def without (i : Nat) : List PI → List PI
  | [] => []
  | p :: r => cond (Nat.beq p.i i) r (p :: without i r)
def canon : Nat → Nat → List PI → List PI
  | 0, _, _ => []
  | n + 1, done, l => match firstQ done false l with
    | some p => p :: canon n (done ||| 2 ^ p.i) (without p.i l)
    | none => match firstQ done true l with
      | some p => p :: canon n (done ||| 2 ^ p.i) (without p.i l)
      | none => []
def itemsOf : List Oper → List CO → Nat → List PI
  | o :: r, c :: s, i => ⟨i, o, c, c.x.kind⟩ :: itemsOf r s (i + 1)
  | _, _, _ => []
def planOf (ops : Array Oper) (cs : List CO) : List PI := canon ops.size 0 (itemsOf ops.toList cs 0)
def usesOf (ops : Array Oper) (o : Oper) : List Tmp :=
  (o.op.operands.toList.filterMap fun x => match x with | .tmp t => some t | _ => none) ++ (match o.guard with | none => [] | some (j, _) => ((ops[j]?).bind (·.dst)).toList)
/-- Of two operations: neither writes what the other uses, or one comes surely ahead of the other. -/
def apart2 (ops : Array Oper) (ms : List Nat) (p q : PI) : Bool :=
  anc ms q.i p.i ||
  ((match p.o.dst with | none => true | some d => !((usesOf ops q.o).any (Nat.beq d ·))) &&
   (match q.o.dst with | none => true | some d => !((usesOf ops p.o).any (Nat.beq d ·))))
def dstNe (p q : PI) : Bool := match p.o.dst, q.o.dst with | some d, some e => !Nat.beq d e | _, _ => true
/-- An earlier one (p) and a later one (q) of the plan. -/
def pairOk (ops : Array Oper) (ms : List Nat) (p q : PI) : Bool :=
  !Nat.beq p.i q.i && (cond p.k.isEff (anc ms q.i p.i) true) && dstNe p q && apart2 ops ms p q
def pairsOk (ops : Array Oper) (ms : List Nat) : List PI → Bool
  | [] => true
  | p :: r => r.all (pairOk ops ms p) && pairsOk ops ms r
def isLay : Op → Bool
  | .alloc _ | .box _ _ | .buildSlice _ _ _ | .makeSlice _ _ _ => true
  | _ => false
def layOk (p : PI) : Bool := match p.k with | .alloc => isLay p.o.op | _ => true
def planOk (ops : Array Oper) (cs : List CO) : Bool :=
  Nat.beq (planOf ops cs).length ops.size && pairsOk ops (masks ops) (planOf ops cs) &&
  (List.range ops.size).all (fun i => (planOf ops cs).any fun p => Nat.beq p.i i) &&
  (itemsOf ops.toList cs 0).all layOk &&
  (itemsOf ops.toList cs 0).all (fun p => p.o.after.all fun e => !Region.binds .any e || Nat.blt e.on p.i)

/-- What was read, read again. -/
noncomputable def again (ms : List Nat) (last : Option Nat) (M : Mem) : List (PI × T V × V) → Bool :=
  List.rec (motive := fun _ => Bool) true (fun q _ ih => br (br (oRec false (fun e => anc ms e q.1.i) last) true
      (Out.bind false (fun v _ => V.same v q.2.2) (q.1.c.x.ev ⟨fun _ _ _ _ _ _ => .no, fun _ _ _ => .no, fun _ _ _ => .no⟩ q.2.1 M))) ih false)
noncomputable def is1 (v : V) : Bool := V.as1 false (fun _ => true) v
noncomputable def drawE (ms : List Nat) : List PI → Rec → Option Nat → List (PI × T V × V) → T V → Mem → St :=
  List.rec (motive := fun _ => Rec → Option Nat → List (PI × T V × V) → T V → Mem → St) (fun _ last wl tm M => br (again ms last M wl) (.ok tm M) .no)
    (fun p _ ih R last wl tm M =>
      br p.k.isEff
        (br (again ms last M wl) (Out.bind .no (fun v M' => ih R (some p.i) wl (putD p.c.dst v tm) M') (p.c.ev R tm M)) .no)
        (Out.bind .no (fun v M' => ih R last (br (p.k.isRead && is1 v) ((p, tm, v) :: wl) wl) (putD p.c.dst v tm) M') (p.c.ev R tm M)))

section
variable (P : Program)
noncomputable def drawR (ops : Array Oper) (nt : Nat) (R : Rec) (tm : T V) (M : Mem) : St :=
  oRec .no (fun cs => br (planOk ops cs) (drawE (masks ops) (planOf ops cs) R none [] tm M) .no) (cosOf P ops nt ops.toList)
noncomputable def listR (ops : Array Oper) (nt : Nat) (R : Rec) (tm : T V) (M : Mem) : St :=
  oRec .no (fun cs => opsE cs R tm M) (cosOf P ops nt ops.toList)

noncomputable def unmark : List Nat → Mem → Option Mem :=
  List.rec (motive := fun _ => Mem → Option Mem) some (fun d _ ih M => oRec none (Blk.asDfr none fun o => br o (ih (M.upd d (.dfr false))) none) (M.b.get d))

inductive AV where
  | t (n : Nat)
  | c1 (n : Nat)
  | cn (n s : Nat)
noncomputable def avOf : ResultVar → Option AV
  | .tmp t => some (.t t)
  | .cell a t => (aggT P t).bind fun g => (szOf P t).bind fun s => some (cond g (.cn a s) (.c1 a))
noncomputable def avsOf : List ResultVar → Option (List AV)
  | [] => some []
  | r :: l => (avOf P r).bind fun a => (avsOf l).bind fun as => some (a :: as)
noncomputable def AV.ev (tm : T V) (M : Mem) (a : AV) : Option V1 :=
  AV.rec (motive := fun _ => Option V1) (fun n => oRec none (V.as1 none some) (tm.get n))
    (fun n => oRec none (V.asC none (CV.asPtr none fun id off => oRec none (fun x => some (.c x)) (M.load id off))) (tm.get n))
    (fun n s => oRec none (V.asC none (CV.asPtr none fun id off => oRec none (fun l => some (.agg l)) (M.loads id off s))) (tm.get n)) a
noncomputable def avsE (tm : T V) (M : Mem) : List AV → Option (List V1) :=
  List.rec (motive := fun _ => Option (List V1)) (some []) (fun a _ ih => oRec none (fun v => oRec none (fun vs => some (v :: vs)) ih) (a.ev tm M))
def packA : List V1 → V
  | [v] => .one v
  | vs => .tup vs

structure CF where
  code : Code
  nt : Nat
  res : List AV
noncomputable def cfOf (f : FuncId) : Option CF :=
  (P.funcs[f]?).bind fun fn => fn.body.bind fun c => (avsOf P fn.results.toList).bind fun r => some ⟨c, fn.ntmps, r⟩

noncomputable def retE (res : List AV) (tm : T V) (mk : List Nat) (M : Mem) : Out :=
  oRec .no (fun M' => oRec .no (fun vs => .ok (packA vs) M') (avsE tm M' res)) (unmark mk M)
noncomputable def callB (R : Rec) (f : FuncId) (args : List V1) (M : Mem) : Out :=
  oRec .no (fun c => br (Nat.ble args.length c.nt)
    (Rn.rec (motive := fun _ => Out) .no (retE c.res) (fun _ _ _ _ => .no) (retE c.res) (R.code c.code none c.nt (T.puts (args.map V.one) .lf 0) [] M)) .no) (cfOf P f)
/-- A call; of a function that is known to answer true (without arguments), that alone is taken. -/
noncomputable def callA (O : FuncId → Bool) (R : Rec) (f : FuncId) (args : List V1) (M : Mem) : Out :=
  br (O f) (oRec .no (fun _ => List.rec (motive := fun _ => Out) (.ok (.one (.c (.bool true))) M) (fun _ _ _ => .no) args) (cfOf P f)) (callB P R f args M)

noncomputable def bindA : List Tmp → List V1 → T V → Nat → Option (T V)
  | [], [], tm, _ => some tm
  | t :: ts, v :: vs, tm, nt => br (Nat.blt t nt) (bindA ts vs (tm.set t (.one v)) nt) none
  | _, _, _, _ => none

noncomputable def endRound (l : Nat) (jump : Option Code) (ok : Bool) (_ : T V) (mk : List Nat) (M : Mem) : Out :=
  List.rec (motive := fun _ => Out) (oRec .no (Blk.asLoop .no fun _ _ tm nt ps asg body d =>
    okc (.bool ok) (M.upd l (.loop (br ok .ready .done) jump tm nt ps asg body d))) (M.b.get l)) (fun _ _ _ => .no) mk
def isReady : LoopState → Bool
  | .ready => true
  | _ => false
def isBusy : LoopState → Bool
  | .busy => true
  | _ => false
noncomputable def midRound (R : Rec) (l nt : Nat) (body : Code) (tm : T V) (mk : List Nat) (M : Mem) : Out :=
  List.rec (motive := fun _ => Out) (oRec .no (Blk.asLoop .no fun st pend tm' nt' ps asg body' d =>
    br (isReady st) (Rn.rec (motive := fun _ => Out) .no (endRound l none true) (fun id => endRound l (some (.exit id)) false) (endRound l (some .ret) false)
      (R.code body (some l) nt tm [] (M.upd l (.loop .busy pend tm' nt' ps asg body' d)))) .no) (M.b.get l)) (fun _ _ _ => .no) mk
noncomputable def roundA (R : Rec) (l : Nat) (args : List V1) (M : Mem) : Out :=
  oRec .no (Blk.asLoop .no fun _ _ tm nt ps asg body _ => oRec .no (fun tm1 =>
    Rn.rec (motive := fun _ => Out) .no (midRound R l nt body) (fun _ _ _ _ => .no) (fun _ _ _ => .no) (R.code asg (some l) nt tm1 [] M)) (bindA ps args tm nt)) (M.b.get l)

/-- What comes behind a range over a function, by the pending jump. -/
noncomputable def jumpE (pend : Option Code) (tm : T V) (mk : List Nat) (M : Mem) : Rn :=
  match pend with
  | none => .nx tm mk M
  | some .ret => .rt tm mk M
  | some (.exit id) => .ex id tm mk M
  | _ => .no
noncomputable def endRange (l : Nat) (tm : T V) (mk : List Nat) (M : Mem) : Rn :=
  oRec .no (Blk.asLoop .no fun st pend tm' nt ps asg body d =>
    br (isBusy st) .no (jumpE pend tm mk (M.upd l (.loop .exhausted pend tm' nt ps asg body d)))) (M.b.get l)
noncomputable def range1 (R : Rec) (g : AR) (ps : List Tmp) (asg body : Code) (nt : Nat) (tm : T V) (d : Nat) (mk : List Nat) (M : Mem) : Rn :=
  evC .no (CV.asFn .no (fun h caps => Out.bind .no (fun _ M' => endRange M.next tm mk M')
    (R.call h (.c (.yld M.next) :: caps.map capV) (M.put (.loop .ready none tm nt ps asg body d)))) (fun _ => .no)) g tm
noncomputable def rangeA (R : Rec) (rnd : Option Nat) (g : AR) (ps : List Tmp) (asg body : Code) (nt : Nat) (tm : T V) (mk : List Nat) (M : Mem) : Rn :=
  oRec (range1 R g ps asg body nt tm M.next (M.next :: mk) (M.put (.dfr true)))
    (fun l => oRec .no (Blk.asLoop .no fun _ _ _ _ _ _ _ d => range1 R g ps asg body nt tm d mk M) (M.b.get l)) rnd

abbrev CM := Program → Rec → Option Nat → Nat → T V → List Nat → Mem → Rn
noncomputable def skipC : CM := fun _ _ _ _ tm mk M => .nx tm mk M
noncomputable def regionC (_ : Nat) (ops : Array Oper) (draw : Bool) : CM := fun P R _ nt tm mk M =>
  St.bind .no (fun tm' M' => .nx tm' mk M') (br draw (drawR P ops nt R tm M) (listR P ops nt R tm M))
noncomputable def seqC (a b : Code) (_ _ : CM) : CM := fun _ R rnd nt tm mk M =>
  Rn.rec (motive := fun _ => Rn) .no (fun tm mk M => R.code b rnd nt tm mk M) .ex .rt (R.code a rnd nt tm mk M)
noncomputable def condC (x : Operand) (a b : Code) (_ _ : CM) : CM := fun _ R rnd nt tm mk M =>
  oRec .no (fun x => evC .no (CV.asBool .no fun t => R.code (br t a b) rnd nt tm mk M) x tm) (arOf x)
noncomputable def blockC (id : Nat) (c : Code) (_ : CM) : CM := fun _ R rnd nt tm mk M =>
  Rn.rec (motive := fun _ => Rn) .no .nx (fun id' tm mk M => br (Nat.beq id' id) (.nx tm mk M) (.ex id' tm mk M)) .rt (R.code c rnd nt tm mk M)
noncomputable def loopC (c : Code) (_ : CM) : CM := fun _ R rnd nt tm mk M =>
  Rn.rec (motive := fun _ => Rn) .no (fun tm mk M => R.code (.loop c) rnd nt tm mk M) .ex .rt (R.code c rnd nt tm mk M)
noncomputable def rangeC (g : Operand) (ps : Array Tmp) (asg body : Code) (_ _ : CM) : CM := fun _ R rnd nt tm mk M =>
  oRec .no (fun g => rangeA R rnd g ps.toList asg body nt tm mk M) (arOf g)
noncomputable def exitC (id : Nat) : CM := fun _ _ _ _ tm mk M => .ex id tm mk M
noncomputable def scopeC (_ : Code) (_ : CM) : CM := fun _ _ _ _ _ _ _ => .no
noncomputable def labelC (_ : Nat) : CM := skipC
noncomputable def gotoC (_ : Nat) : CM := fun _ _ _ _ _ _ _ => .no
noncomputable def retC : CM := fun _ _ _ _ tm mk M => .rt tm mk M
noncomputable def refuseC (_ : String) : CM := fun _ _ _ _ _ _ _ => .no
noncomputable def codeC (c : Code) : CM :=
  Code.rec (motive := fun _ => CM) skipC regionC seqC condC blockC loopC rangeC exitC scopeC labelC gotoC retC refuseC c
noncomputable def codeA (R : Rec) (c : Code) (rnd : Option Nat) (nt : Nat) (tm : T V) (mk : List Nat) (M : Mem) : Rn := codeC c P R rnd nt tm mk M

def rec0 : Rec := ⟨fun _ _ _ _ _ _ => .no, fun _ _ _ => .no, fun _ _ _ => .no⟩
noncomputable def recS (O : FuncId → Bool) (R : Rec) : Rec := ⟨codeA P R, callA P O R, roundA R⟩
noncomputable def runA (O : FuncId → Bool) (k : Nat) : Rec := Nat.rec (motive := fun _ => Rec) rec0 (fun _ R => recS P O R) k

def M0 : Mem := ⟨0, .lf⟩
noncomputable def isTrue (v : V) (_ : Mem) : Bool := V.asC false (CV.asBool false fun b => b) v
/-- Does a call without arguments answer true? -/
noncomputable def saysTrue (O : FuncId → Bool) (k : Nat) (f : FuncId) : Bool := Out.bind false isTrue ((runA P O k).call f [] M0)
def noneKnown (_ : FuncId) : Bool := false

end
end Go.Ab
