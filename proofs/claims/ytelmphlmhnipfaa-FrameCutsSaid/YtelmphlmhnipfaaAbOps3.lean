/- Each operation of the evaluator's is what the model does: fields, places, texts, slices. No condition. -/
import Derived.Test.YtelmphlmhnipfaaAbOps2
namespace Go.Ab
open Go.RowKit

section
variable {P : Program} {B : Nat} {w0 w : World} {σ : Sg} {M M' : Mem} {tm : T V} {ρ : Operand → Value} {v : V}

theorem ineg_sound {o : Oper} {t : TypeId} {x : Operand} {x' : AR} (ho : o.op = .unOp .neg t x) (hx : Hd σ tm ρ x) (ex : arOf x = some x') (hm : RM B w0 σ M w) (h : inegE x' tm M = .ok v M') :
    Okay P B w0 σ M (execOp ρ o) w v M' := by
  obtain ⟨c, hc, h⟩ := evC_ok h
  obtain ⟨k, a, rfl, h⟩ := asInt_ok h
  have hv := okc_ok h
  have e1 := hx.int ex hc
  refine .stayc hm (c := .int k _) ?_ (.int _ _) hv
  simp [execOp, ho, e1, Op.unary, Op.intArith]
theorem inv_sound {o : Oper} {t : TypeId} {x : Operand} {x' : AR} (ho : o.op = .unOp .xor t x) (hx : Hd σ tm ρ x) (ex : arOf x = some x') (hm : RM B w0 σ M w) (h : invE x' tm M = .ok v M') :
    Okay P B w0 σ M (execOp ρ o) w v M' := by
  obtain ⟨c, hc, h⟩ := evC_ok h
  obtain ⟨k, a, rfl, h⟩ := asInt_ok h
  have hv := okc_ok h
  have e1 := hx.int ex hc
  refine .stayc hm (c := .int k _) ?_ (.int _ _) hv
  simp [execOp, ho, e1, Op.unary, Op.intBits]
theorem bnot_sound {o : Oper} {t : TypeId} {x : Operand} {x' : AR} (ho : o.op = .unOp .not t x) (hx : Hd σ tm ρ x) (ex : arOf x = some x') (hm : RM B w0 σ M w) (h : bnotE x' tm M = .ok v M') :
    Okay P B w0 σ M (execOp ρ o) w v M' := by
  obtain ⟨c, hc, h⟩ := evC_ok h
  obtain ⟨b, rfl, h⟩ := asBool_ok h
  have hv := okc_ok h
  have e1 := hx.bool ex hc
  refine .stayc hm (c := .bool _) ?_ (.bool _) hv
  cases b <;> simp [execOp, ho, e1, Op.unary]
theorem i2i_sound {o : Oper} {s d : TypeId} {k k' : IntKind} {x : Operand} {x' : AR} (ho : o.op = .convert s d x) (hs : P.underlying s = some (.int k')) (hd : P.underlying d = some (.int k)) (hx : Hd σ tm ρ x) (ex : arOf x = some x')
    (hm : RM B w0 σ M w) (h : i2iE k x' tm M = .ok v M') : Okay P B w0 σ M (execOp ρ o) w v M' := by
  obtain ⟨c, hc, h⟩ := evC_ok h
  obtain ⟨k1, a, rfl, h⟩ := asInt_ok h
  have hv := okc_ok h
  have e1 := hx.int ex hc
  refine .stayc hm (c := .int k _) ?_ (.int _ _) hv
  simp [execOp, ho, e1, convert, run_underlying' hs, run_underlying' hd, Conv.intToInt]
theorem s2s_sound {o : Oper} {s d : TypeId} {x : Operand} {x' : AR} (ho : o.op = .convert s d x) (hs : P.underlying s = some .string) (hd : P.underlying d = some .string) (hx : Hd σ tm ρ x) (ex : arOf x = some x')
    (hm : RM B w0 σ M w) (h : s2sE x' tm M = .ok v M') : Okay P B w0 σ M (execOp ρ o) w v M' := by
  obtain ⟨c, hc, h⟩ := evC_ok h
  obtain ⟨l, rfl, h⟩ := asStr_ok h
  have hv := okc_ok h
  obtain ⟨s1, e1, q1⟩ := hx.str ex hc
  refine .stayc hm (c := .string s1) ?_ (.str _ _ q1) hv
  simp [execOp, ho, e1, convert, run_underlying' hs, run_underlying' hd]

theorem arsOf_map {xs : List Operand} {l : List AR} (h : arsOf xs = some l) : F2 (fun x a => arOf x = some a) xs l := by
  induction xs generalizing l with
  | nil => simp [arsOf] at h; subst h; exact .nil
  | cons x r ih =>
    simp only [arsOf, Option.bind_eq_some_iff] at h
    obtain ⟨a, ha, m, hm, h⟩ := h
    simp at h; subst h
    exact .cons ha (ih hm)
theorem evps_rel {xs : List Operand} {l : List AR} {cs : List (Nat × Nat)} (hl : F2 (fun x a => arOf x = some a) xs l) (hx : ∀ x ∈ xs, Hd σ tm ρ x) (h : evps l tm = some cs) :
    F2 (fun p c => ∃ a, RA σ p.1 p.2 a ∧ c = .pointer (some a)) cs (xs.map ρ) := by
  induction hl generalizing cs with
  | nil => have h : some [] = some cs := h; simp at h; subst h; exact .nil
  | @cons x a r s hxa hr ih =>
    have h : evC none (CV.asPtr none fun a b => (evps s tm).bind fun vs => some ((a, b) :: vs)) a tm = some cs := h
    unfold evC at h
    cases he : a.ev tm with
    | none => rw [he] at h; simp at h
    | some u =>
      rw [he] at h
      cases u with
      | one y => cases y with
        | c c =>
          cases c <;> simp [V.asC, CV.asPtr, Option.bind_eq_some_iff] at h
          obtain ⟨m, hm, h⟩ := h
          subst h
          obtain ⟨q, e, r'⟩ := (hx x (by simp)).ptr hxa he
          exact .cons ⟨q, r', e⟩ (ih (fun y hy => hx y (by simp [hy])) hm)
        | agg l => simp [V.asC] at h
      | tup l => simp [V.asC] at h
      | undef => simp [V.asC] at h
theorem mkfn_sound {o : Oper} {f : FuncId} {first caps : Array Operand} {l : List AR} (ho : o.op = .makeFunc (.func f) first caps) (hf : first.toList.isEmpty = true) (hx : ∀ x ∈ caps.toList, Hd σ tm ρ x) (ex : arsOf caps.toList = some l)
    (hm : RM B w0 σ M w) (h : mkfnE f l tm M = .ok v M') : Okay P B w0 σ M (execOp ρ o) w v M' := by
  obtain ⟨cs, hcs, h⟩ := oRec_ok h
  have hv := okc_ok h
  have r := evps_rel (arsOf_map ex) hx hcs
  have hf : first = #[] := by
    obtain ⟨l⟩ := first
    cases l with
    | nil => rfl
    | cons a l => simp at hf
  subst hf
  refine .stayc hm (c := .func (.func f) #[] ⟨caps.toList.map ρ⟩) ?_ (.fn _ _ _ r) hv
  simp only [execOp, ho, Instr.makeFunc, Sem.run_bind, Sem.run_pure, Result.andThen_ok]
  have e : caps.map ρ = ⟨caps.toList.map ρ⟩ := by
    obtain ⟨l⟩ := caps
    simp
  rw [e]; simp

theorem RA.add {id off : Nat} {a : Addr} (n : Nat) (h : RA σ id off a) : RA σ id (off + n) (a.add n) := by
  obtain ⟨b, s, r, e, rfl⟩ := h
  refine ⟨b, s, r, e, ?_⟩
  unfold Addr.add
  split
  · subst_vars; simp
  · simp; omega
theorem faddr_sound {o : Oper} {s : TypeId} {x : Operand} {x' : AR} {i n : Nat} {fs : Array Field} {f : Field} (ho : o.op = .fieldAddr s x i) (hs : P.underlying s = some (.struct fs)) (hf : fs[i]? = some f) (hn : szOf P f.type = some n) (hn0 : n ≠ 0)
    (hx : Hd σ tm ρ x) (ex : arOf x = some x') (hm : RM B w0 σ M w) (h : faddrE f.offset x' tm M = .ok v M') : Okay P B w0 σ M (execOp ρ o) w v M' := by
  obtain ⟨c, hc, h⟩ := evC_ok h
  obtain ⟨id, off, rfl, h⟩ := asPtr_ok h
  have hv := okc_ok h
  obtain ⟨a, e1, r⟩ := hx.ptr ex hc
  refine .stayc hm (c := .pointer (some (a.add f.offset))) ?_ (.ptr _ _ _ (r.add _)) hv
  simp [execOp, ho, e1, Instr.fieldAt, run_underlying' hs, hf, Instr.sureAddr, fieldPlace, run_sizeOf' hn, hn0]

theorem fld1_sound {o : Oper} {t : TypeId} {x : Operand} {x' : AR} {i : Nat} {fs : Array Field} {f : Field} (ho : o.op = .field t x i) (hs : P.underlying t = some (.struct fs)) (hf : fs[i]? = some f) (hg : aggT P f.type = some false)
    (hx : Hd σ tm ρ x) (ex : arOf x = some x') (hm : RM B w0 σ M w) (h : fld1E f.offset x' tm M = .ok v M') : Okay P B w0 σ M (execOp ρ o) w v M' := by
  obtain ⟨u, hu, h⟩ := oRec_ok h
  obtain ⟨xs, rfl, h⟩ := asAgg_ok h
  obtain ⟨z, hz, hv⟩ := okO_ok h
  obtain ⟨XS, eX, fX⟩ := hx.agg ex hu
  obtain ⟨y, hy, r⟩ := forall2_get fX _ _ hz
  refine .stayc hm (c := y) ?_ r hv
  simp [execOp, ho, eX, Instr.field, run_underlying' hs, hf, asAgg, part, run_isAgg' hg, hy]
theorem celln_ok {cs : List CV} {o s : Nat} (h : celln cs o s M = .ok v M') : o + s ≤ cs.length ∧ v = .one (.agg ((cs.drop o).take s)) ∧ M' = M := by
  obtain ⟨a, b⟩ := br_ok h
  simp at a b
  exact ⟨a, b.1.symm, b.2.symm⟩
theorem extract_list (XS : List Value) (o s : Nat) : (⟨XS⟩ : Array Value).extract o (o + s) = ⟨(XS.drop o).take s⟩ := by
  simp
theorem fldn_sound {o : Oper} {t : TypeId} {x : Operand} {x' : AR} {i s : Nat} {fs : Array Field} {f : Field} (ho : o.op = .field t x i) (hs : P.underlying t = some (.struct fs)) (hf : fs[i]? = some f) (hg : aggT P f.type = some true) (hn : szOf P f.type = some s)
    (hx : Hd σ tm ρ x) (ex : arOf x = some x') (hm : RM B w0 σ M w) (h : fldnE f.offset s x' tm M = .ok v M') : Okay P B w0 σ M (execOp ρ o) w v M' := by
  obtain ⟨u, hu, h⟩ := oRec_ok h
  obtain ⟨xs, rfl, h⟩ := asAgg_ok h
  obtain ⟨_, rfl, rfl⟩ := celln_ok h
  obtain ⟨XS, eX, fX⟩ := hx.agg ex hu
  refine .stay hm (c := .agg ⟨(XS.drop f.offset).take s⟩) ?_ (.one _ _ (.agg _ _ (forall2_take _ (forall2_drop _ fX))))
  simp only [execOp, ho, eX, Instr.field, run_underlying' hs, hf, asAgg, part, run_isAgg' hg, run_sizeOf' hn, extract_list, Sem.run_bind, Sem.run_pure, Result.andThen_ok, if_true]

theorem nat'_ok {k : Nat → Out} {i : AR} (h : nat' k i tm = .ok v M') : ∃ (q : IntKind) (n : Nat), i.ev tm = some (.one (.c (.int q (n : Int)))) ∧ k n = .ok v M' := by
  obtain ⟨c, hc, h⟩ := evC_ok h
  obtain ⟨q, n, rfl, h⟩ := asInt_ok h
  obtain ⟨m, hm, h⟩ := oRec_ok h
  obtain rfl := natOf_some hm
  exact ⟨q, m, hc, h⟩
theorem iaddrA_sound {o : Oper} {t e : TypeId} {x i : Operand} {x' i' : AR} {len s : Nat} (ho : o.op = .indexAddr t x i) (ht : P.underlying t = some (.array len e)) (hs : szOf P e = some s)
    (hx : Hd σ tm ρ x) (hi : Hd σ tm ρ i) (ex : arOf x = some x') (ei : arOf i = some i') (hm : RM B w0 σ M w) (h : iaddrAE len s x' i' tm M = .ok v M') : Okay P B w0 σ M (execOp ρ o) w v M' := by
  obtain ⟨c, hc, h⟩ := evC_ok h
  obtain ⟨id, off, rfl, h⟩ := asPtr_ok h
  obtain ⟨q, n, hn, h⟩ := nat'_ok h
  obtain ⟨hb, h⟩ := br_ok h
  have hv := okc_ok h
  obtain ⟨a, e1, r⟩ := hx.ptr ex hc
  have e2 := hi.int ei hn
  have hlt : n < len := by simpa [Nat.blt_eq] using hb
  refine .stayc hm (c := .pointer (some (a.add (n * s)))) ?_ (.ptr _ _ _ (r.add _)) hv
  simp [execOp, ho, e1, e2, Instr.indexAt, asIntOf, run_underlying' ht, Instr.sureAddr, run_sizeOf' hs, hlt]
theorem Hd.slice {x : Operand} {ar : AR} (h : Hd σ tm ρ x) (ha : arOf x = some ar) {id off len cap es : Nat} {o : Bool} (hv : ar.ev tm = some (.one (.c (.slice id off len cap es o)))) :
    ∃ a cap', ρ x = .slice (some a) len cap' ∧ ((RA σ id off a ∧ cap ≤ cap' ∧ (o = false → cap' = cap) ∧ (o = true → ∃ b s r, σ id = some (b, s, r) ∧ off + cap' * es ≤ r)) ∨ (o = true ∧ len = 0 ∧ cap = 0 ∧ cap' = 0 ∧ ∃ x, σ id = some x)) := by
  generalize he : ρ x = y
  have := he ▸ h.c ha hv
  cases this with
  | slice _ _ _ _ _ a r => exact ⟨a, cap, rfl, .inl ⟨r, Nat.le_refl _, fun _ => rfl, fun h => by simp at h⟩⟩
  | sliceO _ _ _ _ _ cap' b s r e1 e2 e3 => exact ⟨_, cap', rfl, .inl ⟨⟨b, s, r, e1, rfl⟩, e2, fun h => by simp at h, fun _ => ⟨b, s, r, e1, e3⟩⟩⟩
  | sliceZ _ _ _ a x e => exact ⟨a, 0, rfl, .inr ⟨rfl, rfl, rfl, rfl, x, e⟩⟩
theorem iaddrS_sound {o : Oper} {t e : TypeId} {x i : Operand} {x' i' : AR} {s : Nat} (ho : o.op = .indexAddr t x i) (ht : P.underlying t = some (.slice e)) (hs : szOf P e = some s)
    (hx : Hd σ tm ρ x) (hi : Hd σ tm ρ i) (ex : arOf x = some x') (ei : arOf i = some i') (hm : RM B w0 σ M w) (h : iaddrSE s x' i' tm M = .ok v M') : Okay P B w0 σ M (execOp ρ o) w v M' := by
  obtain ⟨c, hc, h⟩ := evC_ok h
  rcases asSlice_ok h with ⟨_, h⟩ | ⟨id, off, len, cap, es, op, rfl, h⟩
  · simp at h
  obtain ⟨q, n, hn, h⟩ := nat'_ok h
  obtain ⟨hb, h⟩ := br_ok h
  have hv := okc_ok h
  obtain ⟨a, cap', e1, r⟩ := hx.slice ex hc
  have e2 := hi.int ei hn
  simp [Nat.blt_eq] at hb
  obtain ⟨hlt, rfl⟩ := hb
  rcases r with ⟨r, _⟩ | ⟨_, h0, _⟩
  · refine .stayc hm (c := .pointer (some (a.add (n * s)))) ?_ (.ptr _ _ _ (r.add _)) hv
    simp [execOp, ho, e1, e2, Instr.indexAt, asIntOf, run_underlying' ht, run_sizeOf' hs, hlt]
  · omega
theorem idx1_sound {o : Oper} {t e : TypeId} {x i : Operand} {x' i' : AR} {len s : Nat} (ho : o.op = .index t x i) (ht : P.underlying t = some (.array len e)) (hs : szOf P e = some s) (hg : aggT P e = some false)
    (hx : Hd σ tm ρ x) (hi : Hd σ tm ρ i) (ex : arOf x = some x') (ei : arOf i = some i') (hm : RM B w0 σ M w) (h : idx1E len s x' i' tm M = .ok v M') : Okay P B w0 σ M (execOp ρ o) w v M' := by
  obtain ⟨u, hu, h⟩ := oRec_ok h
  obtain ⟨xs, rfl, h⟩ := asAgg_ok h
  obtain ⟨q, n, hn, h⟩ := nat'_ok h
  obtain ⟨hb, h⟩ := br_ok h
  obtain ⟨z, hz, hv⟩ := okO_ok h
  obtain ⟨XS, eX, fX⟩ := hx.agg ex hu
  have e2 := hi.int ei hn
  have hlt : n < len := by simpa [Nat.blt_eq] using hb
  obtain ⟨y, hy, r⟩ := forall2_get fX _ _ hz
  refine .stayc hm (c := y) ?_ r hv
  simp [execOp, ho, eX, e2, Instr.index, asIntOf, run_underlying' ht, run_sizeOf' hs, hlt, part, run_isAgg' hg, hy]
theorem idxn_sound {o : Oper} {t e : TypeId} {x i : Operand} {x' i' : AR} {len s : Nat} (ho : o.op = .index t x i) (ht : P.underlying t = some (.array len e)) (hs : szOf P e = some s) (hg : aggT P e = some true)
    (hx : Hd σ tm ρ x) (hi : Hd σ tm ρ i) (ex : arOf x = some x') (ei : arOf i = some i') (hm : RM B w0 σ M w) (h : idxnE len s x' i' tm M = .ok v M') : Okay P B w0 σ M (execOp ρ o) w v M' := by
  obtain ⟨u, hu, h⟩ := oRec_ok h
  obtain ⟨xs, rfl, h⟩ := asAgg_ok h
  obtain ⟨q, n, hn, h⟩ := nat'_ok h
  obtain ⟨hb, h⟩ := br_ok h
  obtain ⟨_, rfl, rfl⟩ := celln_ok h
  obtain ⟨XS, eX, fX⟩ := hx.agg ex hu
  have e2 := hi.int ei hn
  have hlt : n < len := by simpa [Nat.blt_eq] using hb
  refine .stay hm (c := .agg ⟨(XS.drop (n * s)).take s⟩) ?_ (.one _ _ (.agg _ _ (forall2_take _ (forall2_drop _ fX))))
  have hc : (0 : Int) ≤ (n : Int) ∧ (n : Int) < (len : Int) := by omega
  simp only [execOp, ho, eX, e2, Instr.index, asIntOf, run_underlying' ht, run_sizeOf' hs, part, run_isAgg' hg, extract_list, Sem.run_bind, Sem.run_pure, Result.andThen_ok, if_true, if_pos hc, Int.toNat_natCast]
theorem idxS_sound {o : Oper} {t : TypeId} {x i : Operand} {x' i' : AR} (ho : o.op = .index t x i) (ht : P.underlying t = some .string)
    (hx : Hd σ tm ρ x) (hi : Hd σ tm ρ i) (ex : arOf x = some x') (ei : arOf i = some i') (hm : RM B w0 σ M w) (h : idxSE x' i' tm M = .ok v M') : Okay P B w0 σ M (execOp ρ o) w v M' := by
  obtain ⟨c, hc, h⟩ := evC_ok h
  obtain ⟨l, rfl, h⟩ := asStr_ok h
  obtain ⟨q, n, hn, h⟩ := nat'_ok h
  obtain ⟨b, hb, h⟩ := oRec_ok h
  have hv := okc_ok h
  obtain ⟨s1, e1, q1⟩ := hx.str ex hc
  have e2 := hi.int ei hn
  have hs : ∃ u : UInt8, s1[n]? = some u ∧ u.toNat = b := by
    subst q1
    simp only [List.getElem?_map, Option.map_eq_some_iff] at hb
    obtain ⟨u, hu, e⟩ := hb
    refine ⟨u, ?_, e⟩
    have hlt : n < s1.size := by
      have := (List.getElem?_eq_some_iff.1 hu).1
      simpa using this
    rw [getElem?_pos s1 n hlt]
    have := (List.getElem?_eq_some_iff.1 hu).2
    congr 1
  obtain ⟨u, hu, rfl⟩ := hs
  refine .stayc hm (c := .int .u8 _) ?_ (.int _ _) hv
  simp [execOp, ho, e1, e2, Instr.index, asIntOf, run_underlying' ht, hu]
theorem ext_sound {o : Oper} {x : Operand} {x' : AR} {i : Nat} (ho : o.op = .extract x i) (hx : Hd σ tm ρ x) (ex : arOf x = some x') (hm : RM B w0 σ M w) (h : extE i x' tm M = .ok v M') : Okay P B w0 σ M (execOp ρ o) w v M' := by
  obtain ⟨u, hu, h⟩ := oRec_ok h
  have r := hx _ _ ex hu
  cases u with
  | one y => simp at h
  | undef => simp at h
  | tup vs =>
    obtain ⟨y, hy, h⟩ := oRec_ok h
    simp at h
    obtain ⟨rfl, rfl⟩ := h
    generalize hq : ρ x = q at r
    cases r with
    | tup _ cs r =>
      obtain ⟨z, hz, r⟩ := forall2_get r i y hy
      have hz : (⟨cs⟩ : Array Value)[i]? = some z := by simpa using hz
      refine .stay hm (c := z) ?_ (.one _ _ r)
      simp [execOp, ho, hq, Instr.extract, hz]
theorem min_sound {o : Oper} {c : Call} {x y : Operand} {x' y' : AR} (ho : o.op = .call c) (hc : c.callee = .builtin .min) (ha : c.args.toList = [x, y]) (hx : Hd σ tm ρ x) (hy : Hd σ tm ρ y) (ex : arOf x = some x') (ey : arOf y = some y')
    (hm : RM B w0 σ M w) (h : minE x' y' tm M = .ok v M') : Okay P B w0 σ M (execOp ρ o) w v M' := by
  obtain ⟨d, hd, h⟩ := evC_ok h
  obtain ⟨k, a, rfl, h⟩ := asInt_ok h
  obtain ⟨d', hd', h⟩ := evC_ok h
  obtain ⟨k', b, rfl, h⟩ := asInt_ok h
  have hv := okc_ok h
  have e1 := hx.int ex hd
  have e2 := hy.int ey hd'
  have ha' : c.args = #[x, y] := by rw [← ha]
  refine .stayc hm (c := .int k _) ?_ (.int _ _) hv
  simp [execOp, ho, resolve, hc, invoke, builtin, Builtin.min_, ha', e1, e2, Builtin.min2, br_eq]
theorem len_sound {o : Oper} {c : Call} {t : TypeId} {u : TypeDesc} {x : Operand} {str : Bool} {ts : List TypeId} {xs : List Operand} {x' : AR} (ho : o.op = .call c) (hc : c.callee = .builtin .len) (ht : c.argTypes.toList = t :: ts) (hu : P.underlying t = some u)
    (huk : (str = true ∧ u = .string) ∨ (str = false ∧ ∃ e, u = .slice e))
    (ha : c.args.toList = x :: xs) (hx : Hd σ tm ρ x) (ex : arOf x = some x') (hm : RM B w0 σ M w) (h : lenE str x' tm M = .ok v M') : Okay P B w0 σ M (execOp ρ o) w v M' := by
  have ha' : c.args = ⟨x :: xs⟩ := by rw [← ha]
  have ht' : c.argTypes = ⟨t :: ts⟩ := by rw [← ht]
  have hexec : ∀ q, (Builtin.len_ ⟨t :: ts⟩ o.type ⟨ρ x :: xs.map ρ⟩).run P w = .ok q w → (execOp ρ o).run P w = .ok (.value q) w := by
    intro q hq
    simp only [execOp, ho, resolve, hc, invoke, builtin, ha', ht', Sem.run_bind, Sem.run_pure, Result.andThen_ok, List.map_toArray, List.map_cons]
    rw [hq]; rfl
  obtain ⟨d, hd, h⟩ := evC_ok h
  rcases huk with ⟨rfl, rfl⟩ | ⟨rfl, e, rfl⟩
  · obtain ⟨s, rfl, h⟩ := asStr_ok h
    have hv := okc_ok h
    obtain ⟨s1, e1, q1⟩ := hx.str ex hd
    refine .stayc hm (c := .int .i64 _) (hexec _ ?_) (.int _ _) hv
    simp [Builtin.len_, e1, run_underlying' hu, goInt, str_len q1]
  · rcases asSlice_ok h with ⟨rfl, h⟩ | ⟨id, off, len, cap, es, op, rfl, h⟩
    · have hv := okc_ok h
      have r := hx.c ex hd
      generalize hq : ρ x = q at r
      cases r
      refine .stayc hm (c := .int .i64 _) (hexec _ ?_) (.int _ _) hv
      simp [Builtin.len_, hq, run_underlying' hu, goInt]
    · have hv := okc_ok h
      obtain ⟨a, cap', e1, _⟩ := hx.slice ex hd
      refine .stayc hm (c := .int .i64 _) (hexec _ ?_) (.int _ _) hv
      simp [Builtin.len_, e1, run_underlying' hu, goInt]
end
end Go.Ab
