/- What lays a block, told without the evaluator's memory. No condition. -/
import Derived.Test.YtelmphlmhnipfaaAbPure
namespace Go.Ab
open Go.RowKit

/-- An operation lays one block of cells, whose cells are related to the ones given, and answers by its number. -/
def Lays (P : Program) (σ : Sg) (s : Sem Next) (w : World) (cs : List CV) (mk : Nat → CV) : Prop :=
  ∃ A E c, s.run P w = .ok (.value c) (w.alloc (.cells A E)) ∧ F2 (RC σ) cs A.toList ∧ ∀ σ' id, σ' id = some (w.heap.size, 0, A.size) → RC σ' (mk id) c

section
variable {P : Program} {w : World} {σ : Sg} {tm : T V} {ρ : Operand → Value} {M M' : Mem} {v : V}

theorem alloc_lays {o : Oper} {e : TypeId} {z : V1} (ho : o.op = .alloc e) (hz : zeroT P e = some z) : Lays P σ (execOp ρ o) w z.cells ptr0 := by
  obtain ⟨u, hu, hr⟩ := run_zeroValue (P := P) (w := w) (σ := σ) hz
  refine ⟨u.cells, e, .pointer (some ⟨w.heap.size, 0, none⟩), ?_, hr.cells, fun σ' _ q => ptr0_rel q⟩
  simp [execOp, ho, Instr.alloc, hu, newVar, newRow]
theorem box_lays {o : Oper} {e : TypeId} {x : Operand} {x' : AR} (ho : o.op = .box e x) (hx : Hd σ tm ρ x) (ex : arOf x = some x') (h : boxE x' tm M = .ok v M') :
    ∃ cs, (∀ M, boxE x' tm M = lay M cs ptr0) ∧ Lays P σ (execOp ρ o) w cs ptr0 := by
  obtain ⟨c, hc, h⟩ := ev1_ok h
  have r := hx.one ex hc
  refine ⟨c.cells, fun M => by simp only [boxE, ev1, hc, oRec_some, V.as1], (ρ x).cells, e, .pointer (some ⟨w.heap.size, 0, none⟩), ?_, r.cells, fun σ' _ q => ptr0_rel q⟩
  simp [execOp, ho, Instr.box, newVar, newRow]
theorem bslice_lays {o : Oper} {t e : TypeId} {s len : Nat} {parts : Array (Nat × Operand)} {ps : List (Nat × Nat × AR)} {z : V1} (ho : o.op = .buildSlice t len parts) (ht : elemT P t = some e) (hs : szOf P e = some s) (hle : len * s < 16777216)
    (hz : zeroT P e = some z) (hzl : z.cells.length = s) (hp : partsOf (fun i => some (i * s, s)) parts.toList = some ps) (hx : ∀ p ∈ parts.toList, Hd σ tm ρ p.2) (h : bsliceE s len z.cells ps tm M = .ok v M') :
    ∃ cs, (∀ M, bsliceE s len z.cells ps tm M = lay M cs (sl0 len len s)) ∧ Lays P σ (execOp ρ o) w cs (sl0 len len s) := by
  obtain ⟨cs, hcs, h⟩ := oRec_ok h
  obtain ⟨u, hu, hr⟩ := run_zeroValue (P := P) (w := w) (σ := σ) hz
  have hrep := rep_rel0 hr.cells len
  rw [hzl] at hrep
  obtain ⟨A', hA, hF⟩ := fill_rel (pl' := fun i => some (i * s, s)) (fun i p hp => hp) parts.toList ps (repA z.cells len) cs _ hp hx hrep hcs
  refine ⟨cs, fun M => by simp only [bsliceE, hcs, oRec_some], A', e, .slice (some ⟨w.heap.size, 0, none⟩) len len, ?_, hF, fun σ' _ q => sl0_rel q⟩
  have hn : ¬ len * s > 2 ^ 24 := by omega
  simp only [execOp, ho, Instr.buildSlice, Sem.run_bind, run_underlying' (elemT_some ht), Result.andThen_ok, run_sizeOf' hs, hn, if_false]
  by_cases h0 : len * s = 0
  · rw [if_pos h0]
    rw [if_pos h0] at hA
    simp only [Sem.run_bind, Sem.run_pure, Result.andThen_ok, partsMap, hA]
    simp [newRow]
  · rw [if_neg h0]
    rw [if_neg h0] at hA
    simp only [Sem.run_bind, Sem.run_pure, Result.andThen_ok, partsMap, hu, hA]
    simp [newRow]
theorem mkslice_lays {o : Oper} {t e : TypeId} {i : TypeInfo} {l c : Operand} {l' c' : AR} {z : V1} (ho : o.op = .makeSlice t l c) (ht : elemT P t = some e) (hi : P.info? e = some i) (hz : zeroT P e = some z) (hzl : z.cells.length = i.size)
    (hl : Hd σ tm ρ l) (hc : Hd σ tm ρ c) (el : arOf l = some l') (ec : arOf c = some c') (h : mksliceE i.size i.bytes z.cells l' c' tm M = .ok v M') :
    ∃ cs mk, (∀ M, mksliceE i.size i.bytes z.cells l' c' tm M = lay M cs mk) ∧ Lays P σ (execOp ρ o) w cs mk := by
  obtain ⟨d, hd, h⟩ := evC_ok h
  obtain ⟨k, n, rfl, h⟩ := asInt_ok h
  obtain ⟨a, ha, h⟩ := oRec_ok h
  obtain ⟨d', hd', h⟩ := evC_ok h
  obtain ⟨k', n', rfl, h⟩ := asInt_ok h
  obtain ⟨b, hb, h⟩ := oRec_ok h
  obtain ⟨hc0, h9⟩ := br_ok h
  have hlay : ∀ M2, mksliceE i.size i.bytes z.cells l' c' tm M2 = lay M2 (repA z.cells b) (sl0 a b i.size) := fun M2 => by
    simp only [mksliceE, evC, hd, hd', oRec_some, V.asC, CV.asInt, ha, hb, hc0, br_true]
  obtain rfl := natOf_some ha
  obtain rfl := natOf_some hb
  have hc' := hc0
  simp at hc'
  obtain ⟨⟨hab, hby⟩, hbl⟩ := hc'
  have e1 := hl.int el hd
  have e2 := hc.int ec hd'
  obtain ⟨u, hu, hr⟩ := run_zeroValue (P := P) (w := w) (σ := σ) hz
  have hrep := rep_rel0 hr.cells b
  rw [hzl] at hrep
  refine ⟨_, _, hlay, _, e, .slice (some ⟨w.heap.size, 0, none⟩) a b, ?_, hrep, fun σ' _ q => sl0_rel q⟩
  have w1 := wrap64_small (n := a) (by omega)
  have w2 := wrap64_small (n := b) hbl
  have ht1 : ¬ ((i.bytes : Int) * (b : Int) > 2 ^ 48) := by
    have : (i.bytes : Int) * (b : Int) = ((b * i.bytes : Nat) : Int) := by push_cast; exact Int.mul_comm _ _
    rw [this]; omega
  have ht2 : ¬ ((b : Int) < 0) := by omega
  have ht3 : ¬ ((a : Int) < 0) := by omega
  have ht4 : ¬ ((a : Int) > (b : Int)) := by omega
  have hcond : (decide ((b : Int) < 0) || decide ((i.bytes : Int) * (b : Int) > 2 ^ 48) || decide ((a : Int) < 0) || decide ((a : Int) > (b : Int))) = false := by
    simp only [Bool.or_eq_false_iff, decide_eq_false_iff_not]; exact ⟨⟨⟨ht2, ht1⟩, ht3⟩, ht4⟩
  simp only [execOp, ho, Instr.makeSlice, Sem.run_bind, run_underlying' (elemT_some ht), Result.andThen_ok, e1, e2, asInt, asIntOf, Sem.run_pure, typeInfo, run_program, hi, w1, w2, hcond, Bool.false_eq_true, if_false, run_askRoom, info_size hi, Int.toNat_natCast]
  by_cases h0 : b * i.size = 0
  · simp [h0, newRow]
  · simp [h0, newRow, hu]

theorem aop_lays {o : Oper} {a : AOp} (h : aopOf P o.op = some a) (hal : isLay o.op = true) (hx : ∀ x ∈ o.op.operands, Hd σ tm ρ x) (he : a.ev tm M = .ok v M') :
    ∃ cs mk, (∀ M, a.ev tm M = lay M cs mk) ∧ Lays P σ (execOp ρ o) w cs mk := by
  generalize ho : o.op = op at h hx hal
  cases op <;> (try (simp [isLay] at hal; done)) <;> simp only [aopOf, Option.bind_eq_some_iff] at h <;> simp only [Op.operands] at hx
  case alloc e =>
    obtain ⟨z, hz, h⟩ := h; simp at h; subst h
    exact ⟨_, _, fun _ => rfl, alloc_lays ho hz⟩
  case box e x =>
    obtain ⟨a1, e1, h⟩ := h; simp at h; subst h
    obtain ⟨cs, h1, h2⟩ := box_lays (P := P) (w := w) ho (hx _ (by simp)) e1 he
    exact ⟨cs, _, h1, h2⟩
  case buildSlice t len parts =>
    obtain ⟨e, het, s, hs, h⟩ := h
    simp only [Bool.cond_eq_ite] at h
    split at h
    · simp at h
    · rename_i hc
      simp at hc
      simp only [Option.bind_eq_some_iff] at h
      obtain ⟨z, hz, h⟩ := h
      split at h
      · rename_i hzl
        simp only [Option.bind_eq_some_iff] at h
        obtain ⟨ps, hps, h⟩ := h
        simp at h; subst h
        obtain ⟨cs, h1, h2⟩ := bslice_lays (P := P) (w := w) ho het hs (by omega) hz (by simpa using hzl) hps (fun p hp => hx _ (mem_operands_map hp)) he
        exact ⟨cs, _, h1, h2⟩
      · simp at h
  case makeSlice t l c =>
    obtain ⟨e, het, i, hi, h⟩ := h
    simp only [Bool.cond_eq_ite] at h
    split at h
    · simp at h
    · simp only [Option.bind_eq_some_iff] at h
      obtain ⟨z, hz, h⟩ := h
      split at h
      · rename_i hzl
        simp only [Option.bind_eq_some_iff] at h
        obtain ⟨a1, e1, a2, e2, h⟩ := h
        simp at h; subst h
        exact mkslice_lays ho het hi hz (by simpa using hzl) (hx _ (by simp)) (hx _ (by simp)) e1 e2 he
      · simp at h
end
end Go.Ab
