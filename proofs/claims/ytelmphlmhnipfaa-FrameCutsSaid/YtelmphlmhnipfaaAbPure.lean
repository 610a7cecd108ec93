/- What the quiet operations of the evaluator's hang on. No condition. -/
import Derived.Test.YtelmphlmhnipfaaAbStep
namespace Go.Ab
open Go.RowKit

def PureO (f : Mem → Out) : Prop := ∃ r : Option V, ∀ M, f M = oRec .no (fun v => .ok v M) r
theorem pure_no : PureO fun _ => .no := ⟨none, fun _ => rfl⟩
theorem pure_ok (v : V) : PureO fun M => .ok v M := ⟨some v, fun _ => rfl⟩
theorem pure_okc (x : CV) : PureO fun M => okc x M := ⟨some _, fun _ => rfl⟩
theorem pure_okO (o : Option CV) : PureO fun M => okO o M := by
  cases o with
  | none => exact ⟨none, fun _ => rfl⟩
  | some x => exact ⟨some (.one (.c x)), fun _ => rfl⟩
theorem pure_okV (o : Option V) : PureO fun M => okV o M := ⟨o, fun _ => rfl⟩
theorem pure_okB (neg b : Bool) : PureO fun M => okB neg M b := pure_okc _
theorem pure_oRec {α : Type} (g : α → Mem → Out) (o : Option α) (h : ∀ a, PureO (g a)) : PureO fun M => oRec .no (fun a => g a M) o := by
  cases o with
  | none => exact pure_no
  | some a => exact h a
theorem pure_br (b : Bool) (f g : Mem → Out) (h1 : PureO f) (h2 : PureO g) : PureO fun M => br b (f M) (g M) := by
  cases b with
  | true => exact h1
  | false => exact h2
theorem pure_evC (g : CV → Mem → Out) (x : AR) (tm : T V) (h : ∀ c, PureO (g c)) : PureO fun M => evC .no (fun c => g c M) x tm := by
  unfold evC
  cases x.ev tm with
  | none => exact pure_no
  | some u => cases u with
    | one y => cases y with
      | c c => exact h c
      | agg l => exact pure_no
    | tup l => exact pure_no
    | undef => exact pure_no
theorem pure_asAgg (g : List CV → Mem → Out) (u : V) (h : ∀ c, PureO (g c)) : PureO fun M => V.asAgg .no (fun c => g c M) u := by
  cases u with
  | one y => cases y with
    | c c => exact pure_no
    | agg l => exact h l
  | tup l => exact pure_no
  | undef => exact pure_no
theorem pure_asInt (g : IntKind → Int → Mem → Out) (c : CV) (h : ∀ k n, PureO (g k n)) : PureO fun M => CV.asInt .no (fun k n => g k n M) c := by
  cases c <;> first | exact pure_no | exact h _ _
theorem pure_asBool (g : Bool → Mem → Out) (c : CV) (h : ∀ b, PureO (g b)) : PureO fun M => CV.asBool .no (fun b => g b M) c := by
  cases c <;> first | exact pure_no | exact h _
theorem pure_asStr (g : List Nat → Mem → Out) (c : CV) (h : ∀ b, PureO (g b)) : PureO fun M => CV.asStr .no (fun b => g b M) c := by
  cases c <;> first | exact pure_no | exact h _
theorem pure_asPtr (g : Nat → Nat → Mem → Out) (c : CV) (h : ∀ a b, PureO (g a b)) : PureO fun M => CV.asPtr .no (fun a b => g a b M) c := by
  cases c <;> first | exact pure_no | exact h _ _
theorem pure_asSlice (e : Mem → Out) (g : Nat → Nat → Nat → Nat → Nat → Bool → Mem → Out) (c : CV) (h0 : PureO e) (h : ∀ a b c d e f, PureO (g a b c d e f)) : PureO fun M => CV.asSlice .no (e M) (fun a b c d e f => g a b c d e f M) c := by
  cases c <;> first | exact pure_no | exact h0 | exact h _ _ _ _ _ _
theorem pure_bnd (g : Nat → Mem → Out) (x : Option AR) (d t : Nat) (tm : T V) (h : ∀ n, PureO (g n)) : PureO fun M => bnd (fun n => g n M) x d t tm := by
  unfold bnd
  cases x with
  | none => exact h d
  | some o => exact pure_evC _ _ _ fun c => pure_asInt (fun _ n M => oRec .no (fun n => br (Nat.ble n t) (g n M) .no) (natOf n)) c fun _ n => pure_oRec (fun n M => br (Nat.ble n t) (g n M) .no) _ fun n => pure_br _ _ _ (h n) pure_no
theorem pure_nat (g : Nat → Mem → Out) (i : AR) (tm : T V) (h : ∀ n, PureO (g n)) : PureO fun M => nat' (fun n => g n M) i tm := by
  unfold nat'
  exact pure_evC _ _ _ fun c => pure_asInt (fun _ n M => oRec .no (fun n => g n M) (natOf n)) c fun _ n => pure_oRec _ _ h
theorem pure_celln (cs : List CV) (o s : Nat) : PureO fun M => celln cs o s M := pure_br _ (fun M => .ok _ M) _ (pure_ok _) pure_no

def AOp.pure (a : AOp) : Bool := match (AX.op a).kind with | .pure => true | _ => false
def AOp.alloc' (a : AOp) : Bool := match (AX.op a).kind with | .alloc => true | _ => false

theorem aop_pure (a : AOp) (h : a.pure = true) (tm : T V) : PureO fun M => a.ev tm M := by
  cases a <;> (try (simp [AOp.pure, AX.kind] at h; done))
  case mv x => exact pure_okV _
  case pick c a b => exact pure_evC _ _ _ fun c => pure_asBool _ c fun t => pure_okV _
  case build z ps => exact pure_oRec _ _ fun cs => pure_ok _
  case nilck x => exact pure_evC _ _ _ fun c => by cases c <;> first | exact pure_no | exact pure_okc _
  case ibin op x y => exact pure_evC _ _ _ fun c => pure_asInt _ c fun k a => pure_evC _ _ _ fun d => pure_asInt _ d fun l b => pure_br _ _ _ (pure_okO _) pure_no
  case shift op x y => exact pure_evC _ _ _ fun c => pure_asInt _ c fun k a => pure_evC _ _ _ fun d => pure_asInt _ d fun l b => pure_br _ _ _ pure_no (pure_okO _)
  case sbin op x y => exact pure_evC _ _ _ fun c => pure_asStr _ c fun a => pure_evC _ _ _ fun d => pure_asStr _ d fun b => pure_okO _
  case beq neg x y => exact pure_evC _ _ _ fun c => pure_asBool _ c fun a => pure_evC _ _ _ fun d => pure_asBool _ d fun b => pure_okB _ _
  case nileq neg k x y => exact pure_evC _ _ _ fun c => pure_evC _ _ _ fun d => pure_oRec (fun b M => okB neg M b) _ fun b => pure_okB _ _
  case ageq neg s l x y => exact pure_oRec _ _ fun u => pure_asAgg _ u fun a => pure_oRec _ _ fun u => pure_asAgg _ u fun b => pure_br _ _ _ (pure_oRec (fun b M => okB neg M b) _ fun b => pure_okB _ _) pure_no
  case ineg x => exact pure_evC _ _ _ fun c => pure_asInt _ c fun k a => pure_okc _
  case inv x => exact pure_evC _ _ _ fun c => pure_asInt _ c fun k a => pure_okc _
  case bnot x => exact pure_evC _ _ _ fun c => pure_asBool _ c fun a => pure_okc _
  case i2i k x => exact pure_evC _ _ _ fun c => pure_asInt _ c fun k a => pure_okc _
  case s2s x => exact pure_evC _ _ _ fun c => pure_asStr _ c fun a => pure_okc _
  case mkfn f caps => exact pure_oRec _ _ fun cs => pure_okc _
  case slS x lo hi => exact pure_evC _ _ _ fun c => pure_asStr _ c fun s => pure_bnd _ _ _ _ _ fun h => pure_bnd _ _ _ _ _ fun l => pure_okc _
  case slV es x lo hi mx =>
    exact pure_evC _ _ _ fun c => pure_asSlice _ _ c (pure_br _ _ _ pure_no (pure_bnd _ _ _ _ _ fun h => pure_bnd _ _ _ _ _ fun l => pure_okc _))
      fun id off len cap es' opn => pure_br _ _ _ (pure_bnd _ _ _ _ _ fun m => pure_bnd _ _ _ _ _ fun h => pure_br _ _ _ (pure_bnd _ _ _ _ _ fun l => pure_okc _) pure_no) pure_no
  case slA len s x lo hi => exact pure_evC _ _ _ fun c => pure_asPtr _ c fun id off => pure_bnd _ _ _ _ _ fun h => pure_bnd _ _ _ _ _ fun l => pure_okc _
  case faddr o x => exact pure_evC _ _ _ fun c => pure_asPtr _ c fun id off => pure_okc _
  case fld1 o x => exact pure_oRec _ _ fun u => pure_asAgg _ u fun a => pure_okO _
  case fldn o s x => exact pure_oRec _ _ fun u => pure_asAgg _ u fun a => pure_celln _ _ _
  case iaddrA len s x i => exact pure_evC _ _ _ fun c => pure_asPtr _ c fun id off => pure_nat _ _ _ fun i => pure_br _ _ _ (pure_okc _) pure_no
  case iaddrS s x i => exact pure_evC _ _ _ fun c => pure_asSlice _ _ c pure_no fun id off len cap es opn => pure_nat _ _ _ fun i => pure_br _ _ _ (pure_okc _) pure_no
  case idx1 len s x i => exact pure_oRec _ _ fun u => pure_asAgg _ u fun a => pure_nat _ _ _ fun i => pure_br _ _ _ (pure_okO _) pure_no
  case idxn len s x i => exact pure_oRec _ _ fun u => pure_asAgg _ u fun a => pure_nat _ _ _ fun i => pure_br _ _ _ (pure_celln _ _ _) pure_no
  case idxS x i => exact pure_evC _ _ _ fun c => pure_asStr _ c fun s => pure_nat _ _ _ fun i => pure_oRec (fun b M => okc _ M) _ fun b => pure_okc _
  case ext i x =>
    refine pure_oRec _ _ fun u => ?_
    cases u with
    | one y => exact pure_no
    | tup vs => exact pure_oRec (fun y M => .ok (.one y) M) _ fun y => pure_ok _
    | undef => exact pure_no
  case len str x =>
    cases str with
    | true => exact pure_evC _ _ _ fun c => pure_asStr _ c fun s => pure_okc _
    | false => exact pure_evC _ _ _ fun c => pure_asSlice _ _ c (pure_okc _) fun a b c d e f => pure_okc _
  case min x y => exact pure_evC _ _ _ fun c => pure_asInt _ c fun k a => pure_evC _ _ _ fun d => pure_asInt _ d fun l b => pure_okc _

/-- A load leaves memory as it is. -/
theorem aop_read {a : AOp} (h : (AX.op a).kind.isRead = true) {tm : T V} {M M' : Mem} {v : V} (he : a.ev tm M = .ok v M') : M' = M := by
  cases a <;> (try (simp [AX.kind, Kind.isRead] at h; done))
  case ld1 x =>
    obtain ⟨c, hc, he⟩ := evC_ok he
    obtain ⟨id, off, rfl, he⟩ := asPtr_ok he
    obtain ⟨z, hz, hv⟩ := okO_ok he
    exact hv.2
  case ldn s x =>
    obtain ⟨c, hc, he⟩ := evC_ok he
    obtain ⟨id, off, rfl, he⟩ := asPtr_ok he
    obtain ⟨l, hl, he⟩ := oRec_ok he
    simp at he
    exact he.2.symm

/-- What lays a block lays the same cells in whatever memory. -/
theorem aop_lay (a : AOp) (h : a.alloc' = true) (tm : T V) : (∀ M, a.ev tm M = .no) ∨ ∃ cs mk, ∀ M, a.ev tm M = lay M cs mk := by
  cases a <;> (try (simp [AOp.alloc', AX.kind] at h; done))
  case alloc z => exact .inr ⟨z, ptr0, fun _ => rfl⟩
  case box x =>
    show (∀ M, ev1 .no (fun v => lay M v.cells ptr0) x tm = .no) ∨ ∃ cs mk, ∀ M, ev1 .no (fun v => lay M v.cells ptr0) x tm = lay M cs mk
    unfold ev1
    cases x.ev tm with
    | none => exact .inl fun _ => rfl
    | some u => cases u with
      | one y => exact .inr ⟨y.cells, ptr0, fun _ => rfl⟩
      | tup l => exact .inl fun _ => rfl
      | undef => exact .inl fun _ => rfl
  case bslice s len z ps =>
    show (∀ M, oRec .no (fun cs => lay M cs (sl0 len len s)) (fillE ps tm (repA z len)) = .no) ∨ ∃ cs mk, ∀ M, oRec .no (fun cs => lay M cs (sl0 len len s)) (fillE ps tm (repA z len)) = lay M cs mk
    cases fillE ps tm (repA z len) with
    | none => exact .inl fun _ => rfl
    | some cs => exact .inr ⟨cs, _, fun _ => rfl⟩
  case mkslice s by' z l c =>
    show (∀ M, mksliceE s by' z l c tm M = .no) ∨ ∃ cs mk, ∀ M, mksliceE s by' z l c tm M = lay M cs mk
    by_cases hx : ∃ M v M', mksliceE s by' z l c tm M = .ok v M'
    · obtain ⟨M, v, M', hx⟩ := hx
      obtain ⟨d, hd, h1⟩ := evC_ok hx
      obtain ⟨k, n, rfl, h1⟩ := asInt_ok h1
      obtain ⟨a, ha, h1⟩ := oRec_ok h1
      obtain ⟨d', hd', h1⟩ := evC_ok h1
      obtain ⟨k', n', rfl, h1⟩ := asInt_ok h1
      obtain ⟨b, hb, h1⟩ := oRec_ok h1
      obtain ⟨hc', h9⟩ := br_ok h1
      refine .inr ⟨repA z b, sl0 a b s, fun M2 => ?_⟩
      simp only [mksliceE, evC, hd, hd', oRec_some, V.asC, CV.asInt, ha, hb, hc', br_true]
    · refine .inl fun M => ?_
      cases he : mksliceE s by' z l c tm M with
      | no => rfl
      | ok v M' => exact absurd ⟨M, v, M', he⟩ hx
end Go.Ab
