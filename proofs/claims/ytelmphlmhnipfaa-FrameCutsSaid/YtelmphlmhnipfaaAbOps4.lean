/- Each operation of the evaluator's is what the model does: structs made, memory read, texts and slices cut. No condition. -/
import Derived.Test.YtelmphlmhnipfaaAbOps3
namespace Go.Ab
open Go.RowKit

theorem run_mapM {P : Program} {w : World} {α β : Type} {f : α → Sem β} {g : α → β} {xs : Array α} (h : ∀ a ∈ xs.toList, (f a).run P w = .ok (g a) w) : (xs.mapM f).run P w = .ok (xs.map g) w := by
  rw [Array.mapM_eq_mapM_toList]
  simp only [Sem.run_map]
  have : ∀ l : List α, (∀ a ∈ l, (f a).run P w = .ok (g a) w) → (l.mapM f).run P w = .ok (l.map g) w := by
    intro l
    induction l with
    | nil => intro _; rfl
    | cons a l ih =>
      intro h
      simp only [List.mapM_cons, Sem.run_bind, h a (by simp), ih (fun b hb => h b (by simp [hb])), Result.andThen_ok, Sem.run_pure, List.map_cons]
  rw [this _ h]
  cases xs
  simp

theorem putAt_nil (l : List CV) (i : Nat) : putAt l i [] = l := by
  cases l <;> rfl
theorem putAt_cons : ∀ (l : List CV) (i : Nat) (x : CV) (xs : List CV), i < l.length → putAt l i (x :: xs) = putAt (l.set i x) (i + 1) xs
  | [], i, x, xs, h => by simp at h
  | y :: r, 0, x, xs, _ => by
    simp only [putAt, List.set_cons_zero]
    cases xs with
    | nil => simp [putAt_nil, putAt]
    | cons z zs => simp [putAt]
  | y :: r, i + 1, x, xs, h => by
    simp only [putAt, List.set_cons_succ]
    rw [putAt_cons r i x xs (by simpa using h)]
    cases xs with
    | nil => simp [putAt_nil, putAt]
    | cons z zs => simp [putAt]
theorem putAt_length : ∀ (l : List CV) (i : Nat) (xs : List CV), (putAt l i xs).length = l.length
  | [], i, xs => by cases xs <;> rfl
  | _ :: _, 0, [] => rfl
  | y :: r, 0, x :: xs => by simp [putAt, putAt_length r 0 xs]
  | _ :: _, _ + 1, [] => rfl
  | y :: r, i + 1, x :: xs => by simp [putAt, putAt_length r i (x :: xs)]

section
variable {P : Program} {B : Nat} {w0 w : World} {σ : Sg} {M M' : Mem} {tm : T V} {ρ : Operand → Value} {v : V}

theorem forall2_set {α β : Type} {R : α → β → Prop} : ∀ {l : List α} {m : List β} (i : Nat) {a : α} {b : β}, F2 R l m → R a b → F2 R (l.set i a) (m.set i b)
  | _, _, _, _, _, .nil, _ => .nil
  | _, _, 0, _, _, .cons _ h, r => .cons r h
  | _, _, i + 1, _, _, .cons q h, r => .cons q (forall2_set i h r)

theorem fill_fold (off : Nat) : ∀ (l : List Value) (vs : List CV) (k : Nat) (A : Array Value) (xs : List CV), F2 (RC σ) vs l → F2 (RC σ) xs A.toList → off + k + l.length ≤ A.size →
    F2 (RC σ) (putAt xs (off + k) vs) ((l.zipIdx k).foldl (fun cs p => cs.setIfInBounds (off + p.2) p.1) A).toList
  | [], vs, k, A, xs, hv, hx, _ => by cases hv; simpa [putAt_nil] using hx
  | c :: l, vs, k, A, xs, hv, hx, hl => by
    cases hv with
    | @cons x _ vs _ r hv =>
      have hlen := forall2_length hx
      rw [putAt_cons _ _ _ _ (by simp at hl hlen; omega)]
      simp only [List.zipIdx_cons, List.foldl_cons]
      have := fill_fold off l vs (k + 1) (A.setIfInBounds (off + k) c) (xs.set (off + k) x) hv (by simpa using forall2_set _ hx r) (by simp at hl ⊢; omega)
      exact this

/-- The parts laid one by one: here and there. -/
theorem fill_rel {pl : Nat → Option (Nat × Nat)} {pl' : Nat → Option (Nat × Nat)} (hpl : ∀ i p, pl i = some p → pl' i = some p) : ∀ (parts : List (Nat × Operand)) (ps : List (Nat × Nat × AR)) (xs cs : List CV) (A : Array Value),
    partsOf pl parts = some ps → (∀ p ∈ parts, Hd σ tm ρ p.2) → F2 (RC σ) xs A.toList → fillE ps tm xs = some cs →
    ∃ A', Instr.fill pl' A (parts.map fun p => (p.1, ρ p.2)) = some A' ∧ F2 (RC σ) cs A'.toList
  | [], ps, xs, cs, A, hp, hd, hx, h => by
    simp [partsOf] at hp; subst hp
    have h : some xs = some cs := h
    simp at h; subst h
    exact ⟨A, rfl, hx⟩
  | (i, x) :: r, ps, xs, cs, A, hp, hd, hx, h => by
    simp only [partsOf, Option.bind_eq_some_iff] at hp
    obtain ⟨p, hp1, a, ha, l, hl, hp⟩ := hp
    simp at hp; subst hp
    have h : ev1 none (fun v => br (Nat.beq v.cells.length p.2 && Nat.ble (p.1 + p.2) xs.length) (fillE l tm (putAt xs p.1 v.cells)) none) a tm = some cs := h
    unfold ev1 at h
    cases he : a.ev tm with
    | none => rw [he] at h; simp at h
    | some u =>
      rw [he] at h
      cases u with
      | one y =>
        simp only [oRec_some, V.as1, br_eq] at h
        split at h
        · rename_i hb
          simp at hb
          obtain ⟨hb1, hb2⟩ := hb
          have r1 := ((hd (i, x) (by simp)).one ha he).cells
          have hl1 := forall2_length r1
          have hl2 := forall2_length hx
          have hcs : (ρ x).cells.size = p.2 := by rw [← hb1, hl1]; simp
          have hsz : xs.length = A.size := by simpa using hl2
          have hbb : ((ρ x).cells.size != p.2 || decide (p.1 + (ρ x).cells.size > A.size)) = false := by
            simp [hcs]; omega
          have hF := fill_fold (σ := σ) p.1 (ρ x).cells.toList y.cells 0 A xs r1 hx (by simp [hcs]; omega)
          obtain ⟨A', hA, hF'⟩ := fill_rel hpl r l _ cs _ hl (fun q hq => hd q (by simp [hq])) hF h
          refine ⟨A', ?_, hF'⟩
          simp only [List.map_cons, Instr.fill, hpl i p hp1]
          have hbb' : ((decide ((ρ x).cells.size ≠ p.2)) || decide (p.1 + (ρ x).cells.size > A.size)) = false := by
            simp [hcs]; omega
          rw [if_neg (by rw [hbb']; simp)]
          rw [← hA]
          congr 1
          rw [← Array.foldl_toList]
          simp
        · simp at h
      | tup l => simp [V.as1] at h
      | undef => simp [V.as1] at h

theorem run_zeroValue {t : TypeId} {z : V1} (h : zeroT P t = some z) : ∃ u, (zeroValue t).run P w = .ok u w ∧ R1 σ z u := by
  simp only [zeroT, Option.bind_eq_some_iff] at h
  obtain ⟨i, hi, u, hu, hz⟩ := h
  refine ⟨u, ?_, V1.of_rel σ hz⟩
  simp [zeroValue, typeInfo, hi, hu]

theorem partsMap (parts : Array (Nat × Operand)) (ρ : Operand → Value) : (parts.map fun (i, x) => (i, ρ x)).toList = parts.toList.map fun p => (p.1, ρ p.2) := by
  simp

theorem build_sound {o : Oper} {t : TypeId} {parts : Array (Nat × Operand)} {ps : List (Nat × Nat × AR)} {z : V1} {d : TypeDesc} (ho : o.op = .build t parts) (hz : zeroT P t = some z) (ht : P.underlying t = some d) (hd : descAgg d = true)
    (hall : sizedT P d = true)
    (hp : partsOf (placeA P d) parts.toList = some ps) (hx : ∀ p ∈ parts.toList, Hd σ tm ρ p.2) (hm : RM B w0 σ M w) (h : buildE z.cells ps tm M = .ok v M') : Okay P B w0 σ M (execOp ρ o) w v M' := by
  obtain ⟨cs, hcs, h⟩ := oRec_ok h
  simp at h
  obtain ⟨rfl, rfl⟩ := h
  obtain ⟨u, hu, hr⟩ := run_zeroValue (P := P) (w := w) (σ := σ) hz
  have hzc := hr.cells
  cases d <;> simp [descAgg] at hd
  case struct fs =>
    have hplaces : (fs.mapM fun f => (do pure (f.offset, ← sizeOf f.type) : Sem (Nat × Nat))).run P w = .ok (fs.map fun f => (f.offset, (szOf P f.type).getD 0)) w := by
      refine run_mapM fun f hf => ?_
      obtain ⟨n, hn⟩ := Option.isSome_iff_exists.1 (by simp only [sizedT, List.all_eq_true] at hall; exact hall f hf)
      simp [run_sizeOf' hn, hn]
    obtain ⟨A', hA, hF⟩ := fill_rel (pl' := ((fs.map fun f => (f.offset, (szOf P f.type).getD 0))[·]?)) (fun i p hp => by
      simp only [placeA, Option.bind_eq_some_iff] at hp
      obtain ⟨f, hf, n, hn, hp⟩ := hp
      simp at hp; subst hp
      simp [hf, hn]) parts.toList ps z.cells cs u.cells hp hx hzc hcs
    refine .stay hm (c := .agg A') ?_ (.one _ _ (.agg _ A'.toList hF))
    simp only [execOp, ho, Instr.build, Sem.run_bind, hu, Result.andThen_ok, run_underlying' ht, hplaces, partsMap, hA, Sem.run_pure]
  case array len e =>
    obtain ⟨n, hn⟩ := Option.isSome_iff_exists.1 (show (szOf P e).isSome = true from hall)
    obtain ⟨A', hA, hF⟩ := fill_rel (pl' := fun i => some (i * n, n)) (fun i p hp => by
      simp only [placeA, Option.bind_eq_some_iff] at hp
      obtain ⟨m, hm', hp⟩ := hp
      rw [hn] at hm'; simp at hm'; subst hm'
      exact hp) parts.toList ps z.cells cs u.cells hp hx hzc hcs
    refine .stay hm (c := .agg A') ?_ (.one _ _ (.agg _ A'.toList hF))
    simp only [execOp, ho, Instr.build, Sem.run_bind, hu, Result.andThen_ok, run_underlying' ht, run_sizeOf' hn, partsMap, hA, Sem.run_pure]

/-! Memory, read. -/
theorem ld1_sound {o : Oper} {t : TypeId} {x : Operand} {x' : AR} (ho : o.op = .load t x) (hg : aggT P t = some false) (hx : Hd σ tm ρ x) (ex : arOf x = some x') (hm : RM B w0 σ M w) (h : ld1E x' tm M = .ok v M') :
    Okay P B w0 σ M (execOp ρ o) w v M' := by
  obtain ⟨c, hc, h⟩ := evC_ok h
  obtain ⟨id, off, rfl, h⟩ := asPtr_ok h
  obtain ⟨z, hz, hv⟩ := okO_ok h
  obtain ⟨a, e1, r⟩ := hx.ptr ex hc
  obtain ⟨y, hy, r'⟩ := hm.cell r hz
  refine .stayc hm (c := y) ?_ r' hv
  simp [execOp, ho, e1, Instr.loadAt, Instr.sureAddr, loadVar, run_isAgg' hg, hy]
theorem run_loads {a : Addr} {cs : List Value} {k : Nat} (hk : cs.length = k) (h : ∀ j v, cs[j]? = some v → w.cell? (a.add j) = some v) : (loadCells a k).run P w = .ok ⟨cs⟩ w := by
  subst hk
  have := run_loadCells_list (P := P) w a cs h
  simpa using this
theorem ldn_sound {o : Oper} {t : TypeId} {s : Nat} {x : Operand} {x' : AR} (ho : o.op = .load t x) (hg : aggT P t = some true) (hs : szOf P t = some s) (hx : Hd σ tm ρ x) (ex : arOf x = some x') (hm : RM B w0 σ M w) (h : ldnE s x' tm M = .ok v M') :
    Okay P B w0 σ M (execOp ρ o) w v M' := by
  obtain ⟨c, hc, h⟩ := evC_ok h
  obtain ⟨id, off, rfl, h⟩ := asPtr_ok h
  obtain ⟨l, hl, h⟩ := oRec_ok h
  simp at h
  obtain ⟨rfl, rfl⟩ := h
  obtain ⟨a, e1, r⟩ := hx.ptr ex hc
  obtain ⟨cs, hF, hlen, hcs⟩ := hm.cells r hl
  refine .stay hm (c := .agg ⟨cs⟩) ?_ (.one _ _ (.agg _ _ hF))
  have hk : cs.length = s := by rw [← forall2_length hF, hlen]
  simp only [execOp, ho, e1, Instr.loadAt, Instr.sureAddr, loadVar, run_isAgg' hg, run_sizeOf' hs, run_loads hk hcs, Sem.run_bind, Sem.run_pure, Result.andThen_ok, if_true]
end
end Go.Ab
