/- Each operation of the evaluator's is what the model does: blocks laid, cells stored. No condition. -/
import Derived.Test.YtelmphlmhnipfaaAbMem
namespace Go.Ab
open Go.RowKit

section
variable {P : Program} {B : Nat} {w0 w : World} {σ : Sg} {M M' : Mem} {tm : T V} {ρ : Operand → Value} {v : V}

/-- What lays a block and answers by its number. -/
theorem Okay.lay {w1 : World} {s : Sem Next} {cs : List CV} {CS ex : List Value} {E : TypeId} {fz : Nat × Nat} {mk : Nat → CV} {c : Value} (hm : RM B w0 σ M w1) (hF : F2 (RC σ) cs CS)
    (hfz : ∀ i, i < CS.length + ex.length → ¬ (fz.1 ≤ i ∧ i < fz.2)) (h : lay M cs mk = .ok v M') (hr : s.run P w = .ok (.value c) (w1.alloc (.cells ⟨CS ++ ex⟩ E fz)))
    (hv : ∀ σ', σ' M.next = some (w1.heap.size, 0, CS.length + ex.length) → RC σ' (mk M.next) c) : Okay P B w0 σ M s w v M' := by
  obtain ⟨rfl, rfl⟩ := okc_ok h
  obtain ⟨h1, h2⟩ := hm.lay (E := E) (ex := ex) hF hfz
  exact ⟨_, c, _, .inl hr, h2, h1, .one _ _ (.c _ _ (hv _ (Sg.upd_same _ _ _)))⟩
theorem Okay.lay0 {s : Sem Next} {cs : List CV} {A : Array Value} {E : TypeId} {mk : Nat → CV} {c : Value} (hm : RM B w0 σ M w) (hF : F2 (RC σ) cs A.toList)
    (h : Ab.lay M cs mk = .ok v M') (hr : s.run P w = .ok (.value c) (w.alloc (.cells A E)))
    (hv : ∀ σ', σ' M.next = some (w.heap.size, 0, A.size) → RC σ' (mk M.next) c) : Okay P B w0 σ M s w v M' :=
  Okay.lay (ex := []) (fz := (0, 0)) hm hF (fun i _ => by simp) h (by simpa using hr) (by simpa using hv)

theorem ptr0_rel {σ' : Sg} {id b r : Nat} (h : σ' id = some (b, 0, r)) : RC σ' (ptr0 id) (.pointer (some ⟨b, 0, none⟩)) := .ptr _ _ _ ⟨b, 0, r, h, by simp⟩
theorem alloc_sound {o : Oper} {e : TypeId} {z : V1} (ho : o.op = .alloc e) (hz : zeroT P e = some z) (hm : RM B w0 σ M w) (h : allocE z.cells tm M = .ok v M') : Okay P B w0 σ M (execOp ρ o) w v M' := by
  obtain ⟨u, hu, hr⟩ := run_zeroValue (P := P) (w := w) (σ := σ) hz
  refine Okay.lay0 (E := e) (c := .pointer (some ⟨w.heap.size, 0, none⟩)) hm hr.cells h ?_ (fun σ' q => ptr0_rel q)
  simp [execOp, ho, Instr.alloc, hu, newVar, newRow]
theorem box_sound {o : Oper} {e : TypeId} {x : Operand} {x' : AR} (ho : o.op = .box e x) (hx : Hd σ tm ρ x) (ex : arOf x = some x') (hm : RM B w0 σ M w) (h : boxE x' tm M = .ok v M') : Okay P B w0 σ M (execOp ρ o) w v M' := by
  obtain ⟨c, hc, h⟩ := ev1_ok h
  have r := hx.one ex hc
  refine Okay.lay0 (E := e) (c := .pointer (some ⟨w.heap.size, 0, none⟩)) hm r.cells h ?_ (fun σ' q => ptr0_rel q)
  simp [execOp, ho, Instr.box, newVar, newRow]

theorem repA_length (z : List CV) (n : Nat) : (repA z n).length = n * z.length := by
  induction n with
  | zero => simp [repA]
  | succ n ih => simp [repA, ih, Nat.add_mul]; omega
theorem repA_get (z : List CV) : ∀ (n i : Nat), i < n * z.length → (repA z n)[i]? = z[i % z.length]?
  | 0, i, h => by simp at h
  | n + 1, i, h => by
    have hz : 0 < z.length := by
      rcases Nat.eq_zero_or_pos z.length with q | q
      · rw [q] at h; simp at h
      · exact q
    simp only [repA]
    by_cases hi : i < z.length
    · rw [List.getElem?_append_left hi, Nat.mod_eq_of_lt hi]
    · rw [List.getElem?_append_right (by omega), repA_get z n (i - z.length) (by rw [Nat.add_mul] at h; omega)]
      congr 1
      rw [Nat.mod_eq_sub_mod (a := i) (by omega)]
theorem rep_rel {z : List CV} {Z : Array Value} (hF : F2 (RC σ) z Z.toList) (n : Nat) : F2 (RC σ) (repA z n) ((Array.range (n * z.length)).map (Z[· % Z.size]!)).toList := by
  have hl := forall2_length hF
  have hl : z.length = Z.size := by simpa using hl
  refine forall2_of_get (by simp [repA_length]) fun i a b ha hb => ?_
  have hi : i < n * z.length := by
    have := (List.getElem?_eq_some_iff.1 ha).1
    rwa [repA_length] at this
  rw [repA_get z n i hi] at ha
  obtain ⟨y, hy, r⟩ := forall2_get hF _ _ ha
  simp [hi] at hb
  subst hb
  rw [hl] at hy
  have : Z[i % Z.size]! = y := by
    have h2 : Z[i % Z.size]? = some y := by simpa using hy
    rw [getElem!_def, h2]
  rw [this]; exact r
theorem rep_rel0 {z : List CV} {Z : Array Value} (hF : F2 (RC σ) z Z.toList) (n : Nat) : F2 (RC σ) (repA z n) ((Array.range (n * z.length)).map ((if n * z.length = 0 then #[] else Z)[· % (if n * z.length = 0 then #[] else Z).size]!)).toList := by
  by_cases h : n * z.length = 0
  · simp only [h, if_true]
    have : repA z n = [] := List.eq_nil_of_length_eq_zero (by rw [repA_length, h])
    rw [this]; simpa using F2.nil
  · simp only [h, if_false]; exact rep_rel hF n

theorem sl0_rel {σ' : Sg} {id b r len cap s : Nat} (h : σ' id = some (b, 0, r)) : RC σ' (sl0 len cap s id) (.slice (some ⟨b, 0, none⟩) len cap) := .slice _ _ _ _ _ _ ⟨b, 0, r, h, by simp⟩

theorem elemT_some {t e : TypeId} (h : elemT P t = some e) : P.underlying t = some (.slice e) := by
  simp only [elemT, Option.bind_eq_some_iff] at h
  obtain ⟨d, hd, h⟩ := h
  cases d <;> simp at h
  subst h; exact hd
theorem bslice_sound {o : Oper} {t e : TypeId} {s len : Nat} {parts : Array (Nat × Operand)} {ps : List (Nat × Nat × AR)} {z : V1} (ho : o.op = .buildSlice t len parts) (ht : elemT P t = some e) (hs : szOf P e = some s) (hle : len * s < 16777216)
    (hz : zeroT P e = some z) (hzl : z.cells.length = s) (hp : partsOf (fun i => some (i * s, s)) parts.toList = some ps) (hx : ∀ p ∈ parts.toList, Hd σ tm ρ p.2) (hm : RM B w0 σ M w) (h : bsliceE s len z.cells ps tm M = .ok v M') :
    Okay P B w0 σ M (execOp ρ o) w v M' := by
  obtain ⟨cs, hcs, h⟩ := oRec_ok h
  obtain ⟨u, hu, hr⟩ := run_zeroValue (P := P) (w := w) (σ := σ) hz
  have hrep := rep_rel0 hr.cells len
  rw [hzl] at hrep
  obtain ⟨A', hA, hF⟩ := fill_rel (pl' := fun i => some (i * s, s)) (fun i p hp => hp) parts.toList ps (repA z.cells len) cs _ hp hx hrep hcs
  refine Okay.lay0 (E := e) (c := .slice (some ⟨w.heap.size, 0, none⟩) len len) hm hF h ?_ (fun σ' q => sl0_rel q)
  have hn : ¬ len * s > 2 ^ 24 := by omega
  simp only [execOp, ho, Instr.buildSlice, Sem.run_bind, run_underlying' (elemT_some ht), Result.andThen_ok, run_sizeOf' hs, hn, if_false]
  by_cases h0 : len * s = 0
  · rw [if_pos h0]
    rw [if_pos h0] at hA
    simp only [Sem.run_bind, Sem.run_pure, Result.andThen_ok, partsMap, hA]
    simp [newRow]
  · rw [if_neg h0]
    rw [if_neg h0] at hA
    simp only [Sem.run_bind, Sem.run_pure, Result.andThen_ok, partsMap, hu, hA]
    simp [newRow]

theorem wrap64_small {n : Nat} (h : n ≤ 4294967296) : IntKind.i64.wrap (n : Int) = n := by
  simp [IntKind.wrap, IntKind.bits, IntKind.signed]
  omega
theorem info_size {e : TypeId} {i : TypeInfo} (h : P.info? e = some i) : (sizeOf e).run P w = .ok i.size w := by simp [sizeOf, typeInfo, h]
theorem mkslice_sound {o : Oper} {t e : TypeId} {i : TypeInfo} {l c : Operand} {l' c' : AR} {z : V1} (ho : o.op = .makeSlice t l c) (ht : elemT P t = some e) (hi : P.info? e = some i) (hz : zeroT P e = some z) (hzl : z.cells.length = i.size)
    (hl : Hd σ tm ρ l) (hc : Hd σ tm ρ c) (el : arOf l = some l') (ec : arOf c = some c') (hm : RM B w0 σ M w) (h : mksliceE i.size i.bytes z.cells l' c' tm M = .ok v M') : Okay P B w0 σ M (execOp ρ o) w v M' := by
  obtain ⟨d, hd, h⟩ := evC_ok h
  obtain ⟨k, n, rfl, h⟩ := asInt_ok h
  obtain ⟨a, ha, h⟩ := oRec_ok h
  obtain rfl := natOf_some ha
  obtain ⟨d', hd', h⟩ := evC_ok h
  obtain ⟨k', n', rfl, h⟩ := asInt_ok h
  obtain ⟨b, hb, h⟩ := oRec_ok h
  obtain rfl := natOf_some hb
  obtain ⟨hc', h9⟩ := br_ok h
  simp at hc'
  obtain ⟨⟨hab, hby⟩, hbl⟩ := hc'
  have e1 := hl.int el hd
  have e2 := hc.int ec hd'
  obtain ⟨u, hu, hr⟩ := run_zeroValue (P := P) (w := w) (σ := σ) hz
  have hrep := rep_rel0 hr.cells b
  rw [hzl] at hrep
  refine Okay.lay0 (E := e) (c := .slice (some ⟨w.heap.size, 0, none⟩) a b) hm hrep h9 ?_ (fun σ' q => sl0_rel q)
  have w1 := wrap64_small (n := a) (by omega)
  have w2 := wrap64_small (n := b) hbl
  have ht1 : ¬ ((i.bytes : Int) * (b : Int) > 2 ^ 48) := by
    have : (i.bytes : Int) * (b : Int) = ((b * i.bytes : Nat) : Int) := by push_cast; exact Int.mul_comm _ _
    rw [this]; omega
  have ht2 : ¬ ((b : Int) < 0) := by omega
  have ht3 : ¬ ((a : Int) < 0) := by omega
  have ht4 : ¬ ((a : Int) > (b : Int)) := by omega
  have hcond : (decide ((b : Int) < 0) || decide ((i.bytes : Int) * (b : Int) > 2 ^ 48) || decide ((a : Int) < 0) || decide ((a : Int) > (b : Int))) = false := by
    simp only [Bool.or_eq_false_iff, decide_eq_false_iff_not]; exact ⟨⟨⟨ht2, ht1⟩, ht3⟩, ht4⟩
  simp only [execOp, ho, Instr.makeSlice, Sem.run_bind, run_underlying' (elemT_some ht), Result.andThen_ok, e1, e2, asInt, asIntOf, Sem.run_pure, typeInfo, run_program, hi, w1, w2, hcond, Bool.false_eq_true, if_false, run_askRoom, info_size hi, Int.toNat_natCast]
  by_cases h0 : b * i.size = 0
  · simp [h0, newRow]
  · simp [h0, newRow, hu]

/-! Cells stored. -/
theorem st_sound {o : Oper} {t : TypeId} {s : Nat} {a x : Operand} {a' x' : AR} (ho : o.op = .store t a x) (hs : szOf P t = some s) (hA : Hd σ tm ρ a) (hX : Hd σ tm ρ x) (ea : arOf a = some a') (ex : arOf x = some x')
    (hm : RM B w0 σ M w) (h : stE s a' x' tm M = .ok v M') : Okay P B w0 σ M (execOp ρ o) w v M' := by
  obtain ⟨c, hc, h⟩ := evC_ok h
  obtain ⟨id, off, rfl, h⟩ := asPtr_ok h
  obtain ⟨y, hy, h⟩ := ev1_ok h
  obtain ⟨hl, h⟩ := br_ok h
  obtain ⟨M1, hM, h⟩ := oRec_ok h
  simp at h hl
  obtain ⟨rfl, rfl⟩ := h
  obtain ⟨ad, e1, r⟩ := hA.ptr ea hc
  have r2 := (hX.one ex hy).cells
  obtain ⟨w', hr, hm', hst⟩ := hm.stores (P := P) r r2 hM
  refine ⟨σ, Go.undef, w', .inr ⟨rfl, ?_⟩, hst, hm', .undef⟩
  have hz : (ρ x).cells.size = s := by have := forall2_length r2; simp at this; omega
  simp only [execOp, ho, e1, Instr.storeAt, Instr.sureAddr, storeVar, Sem.run_bind, Sem.run_pure, Result.andThen_ok, run_sizeOf' hs, hz]
  simp [hr]

/-! Bounds. -/
theorem bnd_ok {k : Nat → Out} {x : Option AR} {d top : Nat} (h : bnd k x d top tm = .ok v M') : ∃ n, k n = .ok v M' ∧ ((x = none ∧ n = d) ∨ ∃ (a : AR) (q : IntKind), x = some a ∧ a.ev tm = some (.one (.c (.int q (n : Int)))) ∧ n ≤ top) := by
  cases x with
  | none => exact ⟨d, h, .inl ⟨rfl, rfl⟩⟩
  | some a =>
    have h : evC .no (CV.asInt .no fun _ n => oRec .no (fun n => br (Nat.ble n top) (k n) .no) (natOf n)) a tm = .ok v M' := h
    obtain ⟨c, hc, h⟩ := evC_ok h
    obtain ⟨q, n, rfl, h⟩ := asInt_ok h
    obtain ⟨m, hm, h⟩ := oRec_ok h
    obtain rfl := natOf_some hm
    obtain ⟨hb, h⟩ := br_ok h
    exact ⟨m, h, .inr ⟨a, q, rfl, hc, by simpa using hb⟩⟩
theorem aroOf_rel {x : Option Operand} {x' : Option AR} (h : aroOf x = some x') : (x = none ∧ x' = none) ∨ ∃ o a, x = some o ∧ x' = some a ∧ arOf o = some a := by
  cases x with
  | none => simp [aroOf] at h; exact .inl ⟨rfl, h.symm⟩
  | some o =>
    simp only [aroOf, Option.bind_eq_some_iff] at h
    obtain ⟨a, ha, h⟩ := h
    simp at h
    exact .inr ⟨o, a, rfl, h.symm, ha⟩
theorem run_sliceBound {q : IntKind} {n top : Nat} {code : BoundsCode} (h : n ≤ top) : (Instr.sliceBound (.int q (n : Int)) top code).run P w = .ok n w := by
  simp [Instr.sliceBound, asIntOf, h]
/-- An optional bound, in the model: its value. -/
theorem run_bound {x : Option Operand} {x' : Option AR} {n d top : Nat} {code : BoundsCode} (hx : ∀ o, x = some o → Hd σ tm ρ o) (ex : aroOf x = some x')
    (h : (x' = none ∧ n = d) ∨ ∃ (a : AR) (q : IntKind), x' = some a ∧ a.ev tm = some (.one (.c (.int q (n : Int)))) ∧ n ≤ top) :
    (x = none ∧ n = d) ∨ ∃ u, x.map ρ = some u ∧ (Instr.sliceBound u top code).run P w = .ok n w ∧ n ≤ top := by
  rcases aroOf_rel ex with ⟨rfl, rfl⟩ | ⟨o, a, rfl, rfl, e⟩
  · rcases h with ⟨_, h⟩ | ⟨a, q, h, _⟩
    · exact .inl ⟨rfl, h⟩
    · simp at h
  · rcases h with ⟨h, _⟩ | ⟨a', q, h, he, hle⟩
    · simp at h
    · simp at h; subst h
      have := (hx o rfl).int e he
      exact .inr ⟨_, rfl, by rw [this]; exact run_sliceBound hle, hle⟩

theorem slS_sound {o : Oper} {t : TypeId} {x : Operand} {x' : AR} {lo hi : Option Operand} {lo' hi' : Option AR} (ho : o.op = .slice t x lo hi none) (ht : P.underlying t = some .string) (hx : Hd σ tm ρ x) (hlo : ∀ o, lo = some o → Hd σ tm ρ o) (hhi : ∀ o, hi = some o → Hd σ tm ρ o)
    (ex : arOf x = some x') (elo : aroOf lo = some lo') (ehi : aroOf hi = some hi') (hm : RM B w0 σ M w) (h : slSE x' lo' hi' tm M = .ok v M') : Okay P B w0 σ M (execOp ρ o) w v M' := by
  obtain ⟨c, hc, h⟩ := evC_ok h
  obtain ⟨l, rfl, h2⟩ := asStr_ok h
  obtain ⟨hn, h3, b1⟩ := bnd_ok h2
  obtain ⟨ln, h4, b2⟩ := bnd_ok h3
  have hv := okc_ok h4
  obtain ⟨s1, e1, q1⟩ := hx.str ex hc
  have hlen := str_len q1
  have c1 := run_bound (P := P) (w := w) (code := .sliceAlen) hhi ehi b1
  have c2 := run_bound (P := P) (w := w) (code := .sliceB) hlo elo b2
  refine .stayc hm (c := .string (s1.extract ln hn)) ?_ (.str _ _ ?_) hv
  · have hb : (Instr.sliceBounds false s1.size s1.size (lo.map ρ) (hi.map ρ) none).run P w = .ok (ln, hn, s1.size) w := by
      unfold Instr.sliceBounds
      rcases c1 with ⟨rfl, rfl⟩ | ⟨u1, g1, r1, _⟩ <;> rcases c2 with ⟨rfl, rfl⟩ | ⟨u2, g2, r2, _⟩
      · simp [hlen]
      · rw [hlen] at r2; simp [g2, r2, hlen]
      · rw [hlen] at r1; simp [g1, r1]
      · rw [hlen] at r1; simp [g1, g2, r1, r2]
    simp only [execOp, ho, e1, Instr.sliceAt, Instr.slice, Sem.run_bind, run_underlying' ht, Result.andThen_ok, Option.map_none, Option.isSome_none, Bool.false_eq_true, if_false, Sem.run_pure, hb]
  · rw [← q1, ← List.map_drop, ← List.map_take]
    congr 1
    simp [ByteArray.data_extract]

theorem slA_sound {o : Oper} {t e : TypeId} {len s : Nat} {x : Operand} {x' : AR} {lo hi : Option Operand} {lo' hi' : Option AR} (ho : o.op = .slice t x lo hi none) (ht : P.underlying t = some (.array len e)) (hs : szOf P e = some s) (hx : Hd σ tm ρ x) (hlo : ∀ o, lo = some o → Hd σ tm ρ o) (hhi : ∀ o, hi = some o → Hd σ tm ρ o)
    (ex : arOf x = some x') (elo : aroOf lo = some lo') (ehi : aroOf hi = some hi') (hm : RM B w0 σ M w) (h : slAE len s x' lo' hi' tm M = .ok v M') : Okay P B w0 σ M (execOp ρ o) w v M' := by
  obtain ⟨c, hc, h⟩ := evC_ok h
  obtain ⟨id, off, rfl, h2⟩ := asPtr_ok h
  obtain ⟨hn, h3, b1⟩ := bnd_ok h2
  obtain ⟨ln, h4, b2⟩ := bnd_ok h3
  have hv := okc_ok h4
  obtain ⟨a, e1, r⟩ := hx.ptr ex hc
  have c1 := run_bound (P := P) (w := w) (code := .sliceAlen) hhi ehi b1
  have c2 := run_bound (P := P) (w := w) (code := .sliceB) hlo elo b2
  have hb : (Instr.sliceBounds false len len (lo.map ρ) (hi.map ρ) none).run P w = .ok (ln, hn, len) w := by
    unfold Instr.sliceBounds
    rcases c1 with ⟨rfl, rfl⟩ | ⟨u1, g1, r1, _⟩ <;> rcases c2 with ⟨rfl, rfl⟩ | ⟨u2, g2, r2, _⟩
    · simp
    · simp [g2, r2]
    · simp [g1, r1]
    · simp [g1, g2, r1, r2]
  have hrun : (execOp ρ o).run P w = .ok (.value (.slice (some (if len = ln then a else a.add (ln * s))) (hn - ln) (len - ln))) w := by
    simp only [execOp, ho, e1, Instr.sliceAt, Sem.run_bind, run_underlying' ht, Result.andThen_ok, Option.map_none, Instr.sureAddr, Sem.run_pure, hb, run_sizeOf' hs]
  rw [br_eq] at hv
  by_cases hq : len = ln
  · rw [if_pos hq] at hrun
    rw [if_pos (by simp [hq])] at hv
    exact .stayc hm hrun (.slice _ _ _ _ _ _ r) hv
  · rw [if_neg hq] at hrun
    rw [if_neg (by simp [hq])] at hv
    exact .stayc hm hrun (.slice _ _ _ _ _ _ (r.add _)) hv
end
end Go.Ab
