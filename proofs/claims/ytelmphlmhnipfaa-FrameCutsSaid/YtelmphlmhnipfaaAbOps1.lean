/- Each operation of the evaluator's is what the model does: those that leave memory alone. No condition. -/
import Derived.Test.YtelmphlmhnipfaaAbRel
import Derived.Laws.Cells
import Derived.Laws.Entries
import Derived.ChangeKeysEq
namespace Go.Ab
open Go.RowKit

/-! ### What an evaluation that went well has met -/
section
variable {v : V} {M' : Mem} {tm : T V}
theorem oRec_ok {α : Type} {k : α → Out} {o : Option α} (h : oRec .no k o = .ok v M') : ∃ a, o = some a ∧ k a = .ok v M' := by
  cases o with
  | none => simp at h
  | some a => exact ⟨a, rfl, h⟩
theorem br_ok {b : Bool} {x : Out} (h : br b x .no = .ok v M') : b = true ∧ x = .ok v M' := by
  cases b with
  | true => exact ⟨rfl, h⟩
  | false => simp at h
theorem br_ok' {b : Bool} {x : Out} (h : br b .no x = .ok v M') : b = false ∧ x = .ok v M' := by
  cases b with
  | false => exact ⟨rfl, h⟩
  | true => simp at h
theorem evC_ok {k : CV → Out} {x : AR} (h : evC .no k x tm = .ok v M') : ∃ c, x.ev tm = some (.one (.c c)) ∧ k c = .ok v M' := by
  unfold evC at h
  obtain ⟨u, hu, h⟩ := oRec_ok h
  cases u with
  | one y => cases y with
    | c c => exact ⟨c, hu, h⟩
    | agg l => simp [V.asC] at h
  | tup l => simp [V.asC] at h
  | undef => simp [V.asC] at h
theorem ev1_ok {k : V1 → Out} {x : AR} (h : ev1 .no k x tm = .ok v M') : ∃ c, x.ev tm = some (.one c) ∧ k c = .ok v M' := by
  unfold ev1 at h
  obtain ⟨u, hu, h⟩ := oRec_ok h
  cases u with
  | one y => exact ⟨y, hu, h⟩
  | tup l => simp [V.as1] at h
  | undef => simp [V.as1] at h
theorem asAgg_ok {k : List CV → Out} {u : V} (h : V.asAgg .no k u = .ok v M') : ∃ l, u = .one (.agg l) ∧ k l = .ok v M' := by
  cases u with
  | one y => cases y with
    | c c => simp [V.asAgg] at h
    | agg l => exact ⟨l, rfl, h⟩
  | tup l => simp [V.asAgg] at h
  | undef => simp [V.asAgg] at h
theorem asInt_ok {k : IntKind → Int → Out} {c : CV} (h : CV.asInt .no k c = .ok v M') : ∃ q n, c = .int q n ∧ k q n = .ok v M' := by
  cases c <;> simp [CV.asInt] at h
  exact ⟨_, _, rfl, h⟩
theorem asBool_ok {k : Bool → Out} {c : CV} (h : CV.asBool .no k c = .ok v M') : ∃ b, c = .bool b ∧ k b = .ok v M' := by
  cases c <;> simp [CV.asBool] at h
  exact ⟨_, rfl, h⟩
theorem asStr_ok {k : List Nat → Out} {c : CV} (h : CV.asStr .no k c = .ok v M') : ∃ s, c = .str s ∧ k s = .ok v M' := by
  cases c <;> simp [CV.asStr] at h
  exact ⟨_, rfl, h⟩
theorem asPtr_ok {k : Nat → Nat → Out} {c : CV} (h : CV.asPtr .no k c = .ok v M') : ∃ id off, c = .ptr id off ∧ k id off = .ok v M' := by
  cases c <;> simp [CV.asPtr] at h
  exact ⟨_, _, rfl, h⟩
theorem asSlice_ok {e : Out} {k : Nat → Nat → Nat → Nat → Nat → Bool → Out} {c : CV} (h : CV.asSlice .no e k c = .ok v M') :
    (c = .nils ∧ e = .ok v M') ∨ ∃ id off len cap es o, c = .slice id off len cap es o ∧ k id off len cap es o = .ok v M' := by
  cases c <;> simp [CV.asSlice] at h
  · exact .inr ⟨_, _, _, _, _, _, rfl, h⟩
  · exact .inl ⟨rfl, h⟩
theorem natOf_some {n : Int} {k : Nat} (h : natOf n = some k) : n = (k : Int) := by
  cases n with
  | ofNat m => simp [natOf] at h; subst h; rfl
  | negSucc m => simp [natOf] at h
end

/-! ### Operands -/
theorem CV.of_rel (σ : Sg) {v : Value} {x : CV} (h : CV.of v = some x) : RC σ x v := by
  unfold CV.of at h
  split at h <;> simp at h <;> subst h
  · exact .bool _
  · exact .int _ _
  · exact .str _ _ rfl
  · exact .nilp
  · exact .nils
  · exact .nilm
  · exact .nilf
  · exact .nili
theorem CV.ofList_rel (σ : Sg) : ∀ {l : List Value} {xs : List CV}, CV.ofList l = some xs → F2 (RC σ) xs l
  | [], xs, h => by simp [CV.ofList] at h; subst h; exact .nil
  | v :: r, xs, h => by
    simp only [CV.ofList, Option.bind_eq_some_iff] at h
    obtain ⟨x, hx, ys, hy, h⟩ := h
    simp at h; subst h
    exact .cons (CV.of_rel σ hx) (CV.ofList_rel σ hy)
theorem V1.of_rel (σ : Sg) {v : Value} {x : V1} (h : V1.of v = some x) : R1 σ x v := by
  unfold V1.of at h
  split at h
  · rename_i cs
    simp only [Option.bind_eq_some_iff] at h
    obtain ⟨xs, hx, h⟩ := h
    simp at h; subst h
    exact .agg _ cs.toList (CV.ofList_rel σ hx)
  · simp only [Option.bind_eq_some_iff] at h
    obtain ⟨y, hy, h⟩ := h
    simp at h; subst h
    exact .c _ _ (CV.of_rel σ hy)

/-- What an operand is worth, here and there. -/
def Hd (σ : Sg) (tm : T V) (ρ : Operand → Value) (x : Operand) : Prop := ∀ ar v, arOf x = some ar → ar.ev tm = some v → RV σ v (ρ x)

section
variable {σ : Sg} {tm : T V} {ρ : Operand → Value} {x : Operand} {ar : AR}
theorem Hd.c (h : Hd σ tm ρ x) (ha : arOf x = some ar) {c : CV} (hv : ar.ev tm = some (.one (.c c))) : RC σ c (ρ x) := by
  have := h ar _ ha hv
  cases this with | one _ _ r => cases r with | c _ _ r => exact r
theorem Hd.one (h : Hd σ tm ρ x) (ha : arOf x = some ar) {c : V1} (hv : ar.ev tm = some (.one c)) : R1 σ c (ρ x) := by
  have := h ar _ ha hv
  cases this with | one _ _ r => exact r
theorem Hd.int (h : Hd σ tm ρ x) (ha : arOf x = some ar) {k : IntKind} {n : Int} (hv : ar.ev tm = some (.one (.c (.int k n)))) : ρ x = .int k n := by
  generalize he : ρ x = v
  have := he ▸ h.c ha hv
  cases this; rfl
theorem Hd.bool (h : Hd σ tm ρ x) (ha : arOf x = some ar) {b : Bool} (hv : ar.ev tm = some (.one (.c (.bool b)))) : ρ x = .bool b := by
  generalize he : ρ x = v
  have := he ▸ h.c ha hv
  cases this; rfl
theorem Hd.str (h : Hd σ tm ρ x) (ha : arOf x = some ar) {l : List Nat} (hv : ar.ev tm = some (.one (.c (.str l)))) : ∃ s : ByteArray, ρ x = .string s ∧ s.data.toList.map (·.toNat) = l := by
  generalize he : ρ x = v
  have := he ▸ h.c ha hv
  cases this with | str _ s e => exact ⟨s, rfl, e⟩
theorem Hd.ptr (h : Hd σ tm ρ x) (ha : arOf x = some ar) {id off : Nat} (hv : ar.ev tm = some (.one (.c (.ptr id off)))) : ∃ a, ρ x = .pointer (some a) ∧ RA σ id off a := by
  generalize he : ρ x = v
  have := he ▸ h.c ha hv
  cases this with | ptr _ _ a r => exact ⟨a, rfl, r⟩
theorem Hd.agg (h : Hd σ tm ρ x) (ha : arOf x = some ar) {l : List CV} (hv : ar.ev tm = some (.one (.agg l))) : ∃ cs, ρ x = .agg ⟨cs⟩ ∧ F2 (RC σ) l cs := by
  generalize he : ρ x = v
  have := he ▸ h.one ha hv
  cases this with | agg _ cs r => exact ⟨cs, rfl, r⟩
end

/-- It goes well, and what comes of it is related. -/
def Okay (P : Program) (B : Nat) (w0 : World) (σ : Sg) (M : Mem) (s : Sem Next) (w : World) (v : V) (M' : Mem) : Prop :=
  ∃ σ' c w', ((s.run P w = .ok (.value c) w') ∨ (c = undef ∧ s.run P w = .ok .skip w')) ∧ Stp σ M σ' M' ∧ RM B w0 σ' M' w' ∧ RV σ' v c

section
variable {P : Program} {B : Nat} {w0 w : World} {σ : Sg} {M M' : Mem} {tm : T V} {ρ : Operand → Value} {v : V}
/-- One that leaves all as it is. -/
theorem Okay.stay {s : Sem Next} {c : Value} (hm : RM B w0 σ M w) (hr : s.run P w = .ok (.value c) w) (hv : RV σ v c) : Okay P B w0 σ M s w v M :=
  ⟨σ, c, w, .inl hr, .refl _ _, hm, hv⟩
theorem okc_ok {x : CV} (h : okc x M = .ok v M') : v = .one (.c x) ∧ M' = M := by
  simp [okc] at h; exact ⟨h.1.symm, h.2.symm⟩
theorem okO_ok {o : Option CV} (h : okO o M = .ok v M') : ∃ x, o = some x ∧ v = .one (.c x) ∧ M' = M := by
  obtain ⟨x, e, h⟩ := oRec_ok h
  exact ⟨x, e, okc_ok h⟩
theorem Okay.stayc {s : Sem Next} {c : Value} {x : CV} (hm : RM B w0 σ M w) (hr : s.run P w = .ok (.value c) w) (hv : RC σ x c) (hx : v = .one (.c x) ∧ M' = M) : Okay P B w0 σ M s w v M' := by
  obtain ⟨rfl, rfl⟩ := hx
  exact .stay hm hr (.one _ _ (.c _ _ hv))

theorem run_underlying' {t : TypeId} {d : TypeDesc} (h : P.underlying t = some d) : (underlying t).run P w = .ok d w := run_underlying h w
theorem run_sizeOf' {t : TypeId} {n : Nat} (h : szOf P t = some n) : (sizeOf t).run P w = .ok n w := by
  unfold szOf at h
  cases e : P.info? t with
  | none => rw [e] at h; simp at h
  | some i =>
    rw [e] at h; simp at h
    simp [sizeOf, typeInfo, e, h]
theorem run_isAgg' {t : TypeId} {g : Bool} (h : aggT P t = some g) : (isAgg t).run P w = .ok g w := by
  unfold aggT at h
  cases e : P.underlying t with
  | none => rw [e] at h; simp at h
  | some d =>
    rw [e] at h; simp at h
    simp only [isAgg, Sem.run_bind, run_underlying' e, Result.andThen_ok]
    subst h
    cases d <;> rfl

theorem mv_sound {o : Oper} {x : Operand} {ar : AR} (ho : o.op = .move x ∨ o.op = .assign x) (hx : Hd σ tm ρ x) (ha : arOf x = some ar) (hm : RM B w0 σ M w) (h : mvE ar tm M = .ok v M') :
    Okay P B w0 σ M (execOp ρ o) w v M' := by
  obtain ⟨u, hu, h⟩ := oRec_ok h
  simp at h
  obtain ⟨rfl, rfl⟩ := h
  refine .stay hm (c := ρ x) ?_ (hx _ _ ha hu)
  rcases ho with e | e <;> simp [execOp, e]

theorem pick_sound {o : Oper} {c a b : Operand} {c' a' b' : AR} (ho : o.op = .pick c a b) (hc : Hd σ tm ρ c) (hA : Hd σ tm ρ a) (hB : Hd σ tm ρ b)
    (ec : arOf c = some c') (ea : arOf a = some a') (eb : arOf b = some b') (hm : RM B w0 σ M w) (h : pickE c' a' b' tm M = .ok v M') :
    Okay P B w0 σ M (execOp ρ o) w v M' := by
  obtain ⟨q, hq, h⟩ := evC_ok h
  obtain ⟨t, rfl, h⟩ := asBool_ok h
  obtain ⟨u, hu, h⟩ := oRec_ok h
  simp at h
  obtain ⟨rfl, rfl⟩ := h
  have e := hc.bool ec hq
  cases t with
  | true =>
    refine .stay hm (c := ρ a) ?_ (hA _ _ ea hu)
    simp [execOp, ho, e, asBool]
  | false =>
    refine .stay hm (c := ρ b) ?_ (hB _ _ eb hu)
    simp [execOp, ho, e, asBool]

theorem nilck_sound {o : Oper} {x : Operand} {ar : AR} (ho : o.op = .nilCheck x) (hx : Hd σ tm ρ x) (ha : arOf x = some ar) (hm : RM B w0 σ M w) (h : nilckE ar tm M = .ok v M') :
    Okay P B w0 σ M (execOp ρ o) w v M' := by
  obtain ⟨c, hc, h⟩ := evC_ok h
  have r := hx.c ha hc
  generalize hv : ρ x = y at r
  cases c <;> simp at h
  · obtain ⟨rfl, rfl⟩ := okc_ok h
    refine .stayc (x := .ptr _ _) hm (c := y) ?_ r ⟨rfl, rfl⟩
    cases r; simp [execOp, ho, hv]
  · obtain ⟨rfl, rfl⟩ := okc_ok h
    refine .stayc (x := .fn _ _) hm (c := y) ?_ r ⟨rfl, rfl⟩
    cases r; simp [execOp, ho, hv]
  · obtain ⟨rfl, rfl⟩ := okc_ok h
    refine .stayc (x := .yld _) hm (c := y) ?_ r ⟨rfl, rfl⟩
    cases r; simp [execOp, ho, hv]

theorem kSame_eq {k l : IntKind} (h : kSame k l = true) : k = l := by cases k <;> cases l <;> first | rfl | simp [kSame] at h
theorem bSame_eq (a b : Bool) : bSame a b = (a == b) := by cases a <;> cases b <;> rfl
theorem iSame_eq (a b : Int) : iSame a b = decide (a = b) := by
  cases a <;> cases b <;> simp [iSame]
  · rw [Bool.eq_iff_iff]; simp [Nat.beq_eq]; omega
  · rw [Bool.eq_iff_iff]; simp [Nat.beq_eq]

theorem ibin_sound {o : Oper} {op : BinOp} {t t' : TypeId} {x y : Operand} {x' y' : AR} (ho : o.op = .binOp op t x y t') (hop : op ≠ .shl ∧ op ≠ .shr) (hx : Hd σ tm ρ x) (hy : Hd σ tm ρ y)
    (ex : arOf x = some x') (ey : arOf y = some y') (hm : RM B w0 σ M w) (h : ibinE op x' y' tm M = .ok v M') :
    Okay P B w0 σ M (execOp ρ o) w v M' := by
  obtain ⟨c, hc, h⟩ := evC_ok h
  obtain ⟨k, a, rfl, h⟩ := asInt_ok h
  obtain ⟨d, hd, h⟩ := evC_ok h
  obtain ⟨l, b, rfl, h⟩ := asInt_ok h
  obtain ⟨hk, h9⟩ := br_ok h
  clear h
  obtain rfl := kSame_eq hk
  obtain ⟨z, hz, hv⟩ := okO_ok h9
  have e1 := hx.int ex hc
  have e2 := hy.int ey hd
  have hg : (eqGuard op t x y (.int k a) (.int k b)).run P w = .ok () w := by
    unfold eqGuard
    cases op <;> rfl
  cases op <;> simp only [intF, addF, subF, mulF, quoF, remF, andF, orF, xorF, andNotF, eqlF, neqF, lssF, leqF, gtrF, geqF, noF, br_eq, iSame_eq] at hz <;> (try (simp at hz; done)) <;> (try (simp at hop; done))
  case quo =>
    split at hz
    · simp at hz
    · rename_i hb
      simp at hb hz
      subst hz
      refine .stayc hm (c := .int k _) ?_ (.int _ _) hv
      simp [execOp, ho, e1, e2, hg, binOp, Op.intDiv, hb]
  case rem =>
    split at hz
    · simp at hz
    · rename_i hb
      simp at hb hz
      subst hz
      refine .stayc hm (c := .int k _) ?_ (.int _ _) hv
      simp [execOp, ho, e1, e2, hg, binOp, Op.intDiv, hb]
  all_goals
    simp at hz
    subst hz
    first
      | (refine .stayc hm (c := .int k _) ?_ (.int _ _) hv; simp [execOp, ho, e1, e2, hg, binOp, Op.intArith, Op.intBits]; done)
      | (refine .stayc hm (c := .bool _) ?_ (.bool _) hv; simp [execOp, ho, e1, e2, hg, binOp, Op.intCmp]; done)
      | (refine .stayc hm (c := .bool _) ?_ (.bool _) hv; simp [execOp, ho, e1, e2, hg, binOp, Op.intCmp]; rfl)
      | (refine .stayc hm (c := .bool _) ?_ (.bool _) hv; simp [execOp, ho, e1, e2, hg, binOp, Op.intCmp, bne, beq_eq_decide]; done)
end
end Go.Ab
