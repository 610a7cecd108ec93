/- Each operation of the evaluator's is what the model does: append and copy. No condition. -/
import Derived.Test.YtelmphlmhnipfaaAbOps6
namespace Go.Ab
open Go.RowKit

section
variable {P : Program} {B : Nat} {w0 w : World} {σ : Sg} {M M' : Mem} {tm : T V} {ρ : Operand → Value} {v : V}

/-- A placed block that is used no more. -/
theorem RM.kill (h : RM B w0 σ M w) {id : Nat} {x : Nat × Nat × Nat} (e : σ id = some x) : RM B w0 σ (M.upd id .dead) w ∧ Stp σ M σ (M.upd id .dead) := by
  have hid : id < M.next := by obtain ⟨b, s, r⟩ := x; exact (h.dom id b s r e).1
  refine ⟨⟨h.below, h.base, h.dom, fun i hi => ?_, fun i b s r k e' f => ?_, fun i j b si ri sj rj ki kj hij e1 e2 f1 f2 l1 l2 => ?_⟩, ⟨.refl _, fun _ _ q => q, fun i _ q => ?_, Nat.le_refl _⟩⟩
  · have hi : M.next ≤ i := hi
    rw [get_upd, if_neg (by omega)]; exact h.fresh i hi
  · rw [get_upd] at f
    split at f
    · simp at f; subst f; trivial
    · exact h.blk i b s r k e' f
  · rw [get_upd] at f1 f2
    split at f1
    · simp at f1; subst f1; exact l1.elim
    · split at f2
      · simp at f2; subst f2; exact l2.elim
      · exact h.sep i j b si ri sj rj ki kj hij e1 e2 f1 f2 l1 l2
  · rw [get_upd, if_neg (fun hh => by subst hh; rw [e] at q; simp at q)]

/-- The cells of what is appended or copied. -/
theorem src_rel {s : Nat} {k : Nat → List CV → Out} {x : CV} {X : Value} (h : firstE M s k x = .ok v M') (r : RC σ x X) (hm : RM B w0 σ M w) :
    ∃ n new NEW, k n new = .ok v M' ∧ (Builtin.lenOf X).run P w = .ok n w ∧ F2 (RC σ) new NEW ∧ new.length = n * s ∧
      ∀ m, m ≤ n → ∀ w2 : World, (∀ a, w2.cell? a = w.cell? a) → (Builtin.firstCells s m X).run P w2 = .ok ⟨NEW.take (m * s)⟩ w2 := by
  cases x <;> simp only [firstE] at h <;> (try (simp at h; done))
  case str l =>
    obtain ⟨hb, h⟩ := br_ok h
    have hs : s = 1 := by simpa using hb
    subst hs
    cases r with
    | str _ S q =>
      have hlen := str_len q
      refine ⟨l.length, bytesOf l, S.data.toList.map fun b => Value.int .u8 b.toNat, h, ?_, ?_, by simp [bytesOf], ?_⟩
      · rw [hlen]; rfl
      · subst q
        unfold bytesOf
        generalize S.data.toList = L
        induction L with
        | nil => exact .nil
        | cons b L ih => exact .cons (.int _ _) ih
      · intro m hm' w2 _
        simp only [Builtin.firstCells, Sem.run_pure, Nat.mul_one]
        congr 1
        apply Array.ext'
        simp [ByteArray.data_extract]
  case slice id off len cap es op =>
    obtain ⟨hb, h2⟩ := br_ok h
    have hs : s = es := by simpa using hb
    subst hs
    clear h
    obtain ⟨l, hl, h⟩ := oRec_ok h2
    have key : ∃ a cap', X = .slice (some a) len cap' ∧ ∃ cs, F2 (RC σ) l cs ∧ l.length = len * s ∧ ∀ j v, cs[j]? = some v → w.cell? (a.add j) = some v := by
      cases r with
      | slice _ _ _ _ _ a r =>
        obtain ⟨cs, hF, hlen, hcs⟩ := hm.cells r hl
        exact ⟨a, cap, rfl, cs, hF, hlen, hcs⟩
      | sliceO _ _ _ _ _ cap' b s' r' e1 e2 e3 =>
        obtain ⟨cs, hF, hlen, hcs⟩ := hm.cells ⟨b, s', r', e1, rfl⟩ hl
        exact ⟨_, cap', rfl, cs, hF, hlen, hcs⟩
      | sliceZ _ _ _ a y e =>
        obtain ⟨n, cc, wr, hg, hle, hgets⟩ := loads_some hl
        have := (T.gets_some _ _ _ _ hgets).1
        have hnil : l = [] := List.eq_nil_of_length_eq_zero (by simpa using this)
        subst hnil
        exact ⟨a, 0, rfl, [], .nil, by simp, by simp⟩
    obtain ⟨a, cap', rfl, cs, hF, hlen, hcs⟩ := key
    refine ⟨len, l, cs, h, rfl, hF, hlen, fun m hm' w2 h2 => ?_⟩
    have hcl : cs.length = len * s := by rw [← forall2_length hF, hlen]
    have hle : m * s ≤ len * s := Nat.mul_le_mul_right _ hm'
    exact run_firstCells_some (P := P) w2 s m a len cap' (cs.take (m * s)) (by rw [List.length_take, hcl]; omega) (fun j v hv => by
      rw [h2]
      rw [List.getElem?_take] at hv
      split at hv
      · exact hcs j v hv
      · simp at hv)
  case nils =>
    cases r
    exact ⟨0, [], [], h, rfl, .nil, by simp, fun m hm' w2 _ => by
      have : m = 0 := by omega
      subst this; simp [Builtin.firstCells]⟩

/-- Growth, in new memory. -/
theorem run_append_new {t u e ty : TypeId} {d : TypeDesc} {i : TypeInfo} {z : Value} {a : Option Addr} {sLen sCap n : Nat} {X : Value} {OLD NEW : List Value} (ht : P.underlying t = some (.slice e)) (hu : P.underlying u = some d) (hd : d = .string ∨ ∃ q, d = .slice q) (hi : P.info? e = some i) (hz : i.zero = some z)
    (hlen : (Builtin.lenOf X).run P w = .ok n w) (hgt : ¬ sLen + n ≤ sCap) (hb : i.bytes < 512) (hsm : sLen + n ≤ 4294967296)
    (hold : (Builtin.firstCells i.size sLen (.slice a sLen sCap)).run P w.drew = .ok ⟨OLD⟩ w.drew) (hnew : (Builtin.firstCells i.size n X).run P w.drew = .ok ⟨NEW⟩ w.drew) :
    (Builtin.append_ #[t, u] ty #[.slice a sLen sCap, X]).run P w =
      .ok (.slice (some ⟨w.heap.size, 0, none⟩) (sLen + n) (grownCap w (sLen + n) sCap e)) (w.drew.alloc (.cells ⟨(OLD ++ NEW) ++ (Builtin.zeroCells z.cells (grownCap w (sLen + n) sCap e - (sLen + n))).toList⟩ e)) := by
  have h63 : ¬ ((sLen : Int) + (n : Int) > 9223372036854775807) := by omega
  have hbytes : (sLen + n) * i.bytes ≤ 140737488355328 := by
    have : (sLen + n) * i.bytes ≤ 4294967296 * 512 := Nat.mul_le_mul hsm (by omega)
    omega
  have hfit := growslice_fits (by omega : sCap < sLen + n) hbytes
  have h48 : ¬ (281474976710656 < Builtin.nextslicecap (sLen + n) sCap * i.bytes) := by omega
  have hmax : IntKind.i64.max = 9223372036854775807 := by simp [IntKind.max, IntKind.signed, IntKind.bits]
  rcases hd with rfl | ⟨q, rfl⟩
  · simp [Builtin.append_, run_underlying ht, run_underlying hu, sizeOf, typeInfo, zeroValue, hi, hz, hlen, hgt, h63, hmax, h48, hold, hnew, Question.forced, newRow, grownCap]
    congr 2; apply Array.ext'; simp
  · simp [Builtin.append_, run_underlying ht, run_underlying hu, sizeOf, typeInfo, zeroValue, hi, hz, hlen, hgt, h63, hmax, h48, hold, hnew, Question.forced, newRow, grownCap]
    congr 2; apply Array.ext'; simp

/-- Within the capacity. -/
theorem run_append_fit {t u e ty : TypeId} {d : TypeDesc} {i : TypeInfo} {a : Addr} {w' : World} {sLen sCap n : Nat} {X : Value} {NEW : List Value} (ht : P.underlying t = some (.slice e)) (hu : P.underlying u = some d) (hd : d = .string ∨ ∃ q, d = .slice q) (hi : P.info? e = some i)
    (hlen : (Builtin.lenOf X).run P w = .ok n w) (hle : sLen + n ≤ sCap) (hnew : (Builtin.firstCells i.size n X).run P w = .ok ⟨NEW⟩ w) (hst : (storeCells (a.add (sLen * i.size)) NEW).run P w = .ok () w') :
    (Builtin.append_ #[t, u] ty #[.slice (some a) sLen sCap, X]).run P w = .ok (.slice (some a) (sLen + n) sCap) w' := by
  rcases hd with rfl | ⟨q, rfl⟩
  · simp [Builtin.append_, run_underlying ht, run_underlying hu, sizeOf, typeInfo, hi, hlen, hle, hnew, hst]
  · simp [Builtin.append_, run_underlying ht, run_underlying hu, sizeOf, typeInfo, hi, hlen, hle, hnew, hst]
theorem run_append_fit0 {t u e ty : TypeId} {d : TypeDesc} {i : TypeInfo} {sLen sCap n : Nat} {X : Value} {NEW : List Value} (ht : P.underlying t = some (.slice e)) (hu : P.underlying u = some d) (hd : d = .string ∨ ∃ q, d = .slice q) (hi : P.info? e = some i)
    (hlen : (Builtin.lenOf X).run P w = .ok n w) (hle : sLen + n ≤ sCap) (hnew : (Builtin.firstCells i.size n X).run P w = .ok ⟨NEW⟩ w) :
    (Builtin.append_ #[t, u] ty #[.slice none sLen sCap, X]).run P w = .ok (.slice none (sLen + n) sCap) w := by
  rcases hd with rfl | ⟨q, rfl⟩
  · simp [Builtin.append_, run_underlying ht, run_underlying hu, sizeOf, typeInfo, hi, hlen, hle, hnew]
  · simp [Builtin.append_, run_underlying ht, run_underlying hu, sizeOf, typeInfo, hi, hlen, hle, hnew]

/-- Growth in place: the elder block's cells, and those behind them, are a new block's. -/
theorem RM.reuse (h : RM B w0 σ M w) {id off k b s r : Nat} {c : T CV} {old new : List CV} {NEW : List Value} (e : σ id = some (b, s, r)) (hg : M.b.get id = some (.cells (off + k) c true)) (ho : c.gets k off = some old) (hF : F2 (RC σ) new NEW) (hfit : off + k + NEW.length ≤ r) :
    ∃ w', (storeCells ⟨b, s + off + k, none⟩ NEW).run P w = .ok () w' ∧ RM B w0 (σ.upd M.next (b, s + off, r - off)) ((M.upd id .dead).new (old ++ new)) w' ∧ Stp σ M (σ.upd M.next (b, s + off, r - off)) ((M.upd id .dead).new (old ++ new)) := by
  obtain ⟨C, E, fz, h1, h2, h3, h4, h5, h6⟩ := h.blk id b s r _ e hg
  obtain ⟨hol, hoget⟩ := T.gets_some _ _ _ _ ho
  have hlen := forall2_length hF
  have hno := none_of_next h (Nat.le_refl _)
  have hid : id < M.next := (h.dom _ _ _ _ e).1
  have hle := Sg.upd_le (x := (b, s + off, r - off)) hno
  obtain ⟨w', C', hr, hh, hz, hget, hk, hsz, g5, g6, g7⟩ := storeCells_run (P := P) b (s + off + k) E fz NEW 0 C w h1 (by omega) (fun j hj => by
    have := h4 (off + k + j) (by omega); rw [show s + off + k + 0 + j = s + (off + k + j) by omega]; exact this) (by
      intro v hv
      obtain ⟨i, hi, rfl⟩ := List.getElem_of_mem hv
      obtain ⟨y, hy, q⟩ := forall2_get hF i (new[i]'(by omega)) (by simp)
      simp [hi] at hy
      rw [hy]; exact q.oneCell)
  have hbel : Below B w0 w' := h.below.trans ⟨g5, g6, g7, by omega, fun k hk' => hk k (by have := h6 rfl; omega)⟩
  have hgetn : ∀ i, ((M.upd id .dead).new (old ++ new)).b.get i = if i = M.next then some (.cells (old ++ new).length (T.puts (old ++ new) .lf 0) true) else if i = id then some .dead else M.b.get i := by
    intro i
    show ((M.upd id .dead).put _).b.get i = _
    rw [get_put]
    show (if i = M.next then _ else _) = _
    split
    · rfl
    · rw [get_upd]
  have hothers : ∀ (j bj sj rj : Nat) (kj : Blk), j ≠ id → σ j = some (bj, sj, rj) → M.b.get j = some kj → RB σ B w' bj sj rj kj := fun j bj sj rj kj hj ej fj =>
    h.others (lo := s + off + k + 0) (hi := s + off + k + 0 + NEW.length) e hg h1 hh hz (fun j hj => by rw [hget, if_neg hj]) (by omega) (by omega) hk hj ej fj
  have hold : ∀ (i : Nat) (ki : Blk), i ≠ M.next → (if i = id then some Blk.dead else M.b.get i) = some ki → ki.live → i ≠ id ∧ M.b.get i = some ki := by
    intro i ki _ hi hl
    split at hi
    · simp at hi; subst hi; exact hl.elim
    · exact ⟨by assumption, hi⟩
  refine ⟨w', hr, ⟨hbel, by rw [hsz]; exact h.base, fun i b' s' r' q => ?_, fun i hi => ?_, fun i b' s' r' q e' f' => ?_, fun i j b' si ri sj rj ki kj hij e1 e2 f1 f2 l1 l2 => ?_⟩, ⟨hle, fun i hi q => by rw [Sg.upd_other _ _ (by omega)]; exact q, fun i hi q => ?_, Nat.le_succ _⟩⟩
  · have hn : ((M.upd id .dead).new (old ++ new)).next = M.next + 1 := rfl
    unfold Sg.upd at q
    split at q
    · simp at q; obtain ⟨rfl, rfl, rfl⟩ := q; rw [hn, hsz]; exact ⟨by omega, (h.dom _ _ _ _ e).2⟩
    · have := h.dom i b' s' r' q; rw [hn, hsz]; omega
  · have hi : M.next + 1 ≤ i := hi
    rw [hgetn, if_neg (by omega), if_neg (by omega)]; exact h.fresh i (by omega)
  · rw [hgetn] at f'
    unfold Sg.upd at e'
    split at e'
    · rename_i hin
      subst hin
      simp at e'; obtain ⟨rfl, rfl, rfl⟩ := e'
      rw [if_pos rfl] at f'
      injection f' with f'
      subst f'
      refine ⟨C', E, fz, hh, by rw [List.length_append]; omega, by omega, fun i hi => by have := h4 (off + i) (by omega); rw [show s + off + i = s + (off + i) by omega]; exact this, fun i x hi hx => ?_, h6⟩
      rw [T.get_puts] at hx
      simp only [Nat.zero_le, Nat.zero_add, true_and, Nat.sub_zero] at hx
      rw [if_pos hi] at hx
      rw [List.length_append] at hi
      by_cases hio : i < old.length
      · rw [List.getElem?_append_left hio] at hx
        have hc : c.get (off + i) = some x := by rw [hoget i (by omega)]; exact hx
        obtain ⟨y, hy, q⟩ := h5 (off + i) x (by omega) hc
        refine ⟨y, ?_, q.mono hle⟩
        rw [hget, if_neg (by omega), show s + off + i = s + (off + i) by omega]; exact hy
      · rw [List.getElem?_append_right (by omega)] at hx
        obtain ⟨y, hy, q⟩ := forall2_get hF _ _ hx
        refine ⟨y, ?_, q.mono hle⟩
        have hlt := (List.getElem?_eq_some_iff.1 hx).1
        rw [hget, if_pos (by omega), show s + off + i - (s + off + k + 0) = i - old.length by omega]; exact hy
    · rename_i hne
      rw [if_neg hne] at f'
      split at f'
      · simp at f'; subst f'; trivial
      · exact (hothers i b' s' r' q (by assumption) e' f').mono hle
  · rw [hgetn] at f1 f2
    unfold Sg.upd at e1 e2
    by_cases hi : i = M.next
    · have hj : j ≠ M.next := fun q => hij (by rw [hi, q])
      rw [if_pos hi] at e1
      rw [if_neg hj] at e2 f2
      simp at e1; obtain ⟨rfl, rfl, rfl⟩ := e1
      obtain ⟨hjid, fj⟩ := hold j kj hj f2 l2
      have := h.sep id j b s r sj rj _ kj (fun q => hjid q.symm) e e2 hg fj trivial l2 (.inl rfl)
      omega
    · rw [if_neg hi] at e1 f1
      obtain ⟨hiid, fi⟩ := hold i ki hi f1 l1
      by_cases hj : j = M.next
      · rw [if_pos hj] at e2
        simp at e2; obtain ⟨rfl, rfl, rfl⟩ := e2
        have := h.sep i id b si ri s r ki _ hiid e1 e fi hg l1 trivial (.inr rfl)
        omega
      · rw [if_neg hj] at e2 f2
        obtain ⟨hjid, fj⟩ := hold j kj hj f2 l2
        exact h.sep i j b' si ri sj rj ki kj hij e1 e2 fi fj l1 l2
  · rw [hgetn, if_neg (by omega), if_neg (fun hh => by subst hh; rw [e] at q; simp at q)]

theorem slO_rel {σ' : Sg} {id b s r need cap' es : Nat} (h : σ' id = some (b, s, r)) (hc : need ≤ cap') (hr : cap' * es ≤ r) : RC σ' (slO need need es id) (.slice (some ⟨b, s, none⟩) need cap') := by
  have := RC.sliceO (σ := σ') id 0 need need es cap' b s r h hc (by omega)
  unfold slO
  simpa using this

/-- What growth in new memory comes to. -/
theorem Okay.grow {s : Sem Next} {old new : List CV} {OLD NEW : List Value} {z : Value} {e : TypeId} {need sCap es : Nat} (hm : RM B w0 σ M w) (hF : F2 (RC σ) old OLD) (hG : F2 (RC σ) new NEW) (hzs : z.cells.size = es) (hol : OLD.length + NEW.length = need * es)
    (h : Ab.grow M (old ++ new) need es = .ok v M') (hr : s.run P w = .ok (.value (.slice (some ⟨w.heap.size, 0, none⟩) need (grownCap w need sCap e))) (w.drew.alloc (.cells ⟨(OLD ++ NEW) ++ (Builtin.zeroCells z.cells (grownCap w need sCap e - need)).toList⟩ e))) :
    Okay P B w0 σ M s w v M' := by
  obtain ⟨_, h⟩ := br_ok h
  have hge := grownCap_ge w need sCap e
  refine Okay.lay (E := e) (fz := (0, 0)) hm.drew (forall2_append hF hG) (fun i _ => by simp) h hr (fun σ' q => ?_)
  refine slO_rel (b := w.heap.size) q hge ?_
  have hzc : (Builtin.zeroCells z.cells (grownCap w need sCap e - need)).toList.length = (grownCap w need sCap e - need) * es := by
    have := size_zeroCells z.cells (grownCap w need sCap e - need)
    simp only [Array.length_toList, this, hzs]
  rw [List.length_append, hzc, hol, ← Nat.add_mul]
  exact Nat.mul_le_mul_right _ (by omega)

theorem app_sound {o : Oper} {cl : Call} {t u e : TypeId} {d : TypeDesc} {i : TypeInfo} {z : V1} {x y : Operand} {x' y' : AR} (ho : o.op = .call cl) (hc : cl.callee = .builtin .append) (hts : cl.argTypes.toList = [t, u]) (hxs : cl.args.toList = [x, y])
    (ht : elemT P t = some e) (hu : P.underlying u = some d) (hd : d = .string ∨ ∃ q, d = .slice q) (hi : P.info? e = some i) (hb : i.bytes < 512) (hz : zeroT P e = some z) (hzl : z.cells.length = i.size)
    (hx : Hd σ tm ρ x) (hy : Hd σ tm ρ y) (ex : arOf x = some x') (ey : arOf y = some y') (hm : RM B w0 σ M w) (h : appE i.size i.bytes x' y' tm M = .ok v M') : Okay P B w0 σ M (execOp ρ o) w v M' := by
  have hargs : cl.args = #[x, y] := by rw [← hxs]
  have htys : cl.argTypes = #[t, u] := by rw [← hts]
  have hexec : ∀ q w', (Builtin.append_ #[t, u] o.type #[ρ x, ρ y]).run P w = .ok q w' → (execOp ρ o).run P w = .ok (.value q) w' := by
    intro q w' hq
    simp only [execOp, ho, resolve, hc, invoke, builtin, hargs, htys, Sem.run_bind, Sem.run_pure, Result.andThen_ok, List.map_toArray, List.map_cons, List.map_nil]
    rw [hq]; rfl
  have htd := elemT_some ht
  -- the zero value
  have hzz : ∃ zz, i.zero = some zz ∧ zz.cells.size = i.size := by
    simp only [zeroT, Option.bind_eq_some_iff] at hz
    obtain ⟨i', hi', zz, hz1, hz2⟩ := hz
    rw [hi] at hi'; simp at hi'; subst hi'
    have := forall2_length (V1.of_rel σ hz2).cells
    exact ⟨zz, hz1, by simp at this; omega⟩
  obtain ⟨zz, hz1, hz2⟩ := hzz
  obtain ⟨c, hcx, h2⟩ := evC_ok h
  obtain ⟨c', hcy, h3⟩ := evC_ok h2
  obtain ⟨n, new, NEW, h4, hlen, hG, hnl, hfirst⟩ := src_rel (P := P) h3 (hy.c ey hcy) hm
  have hNl : NEW.length = n * i.size := by rw [← forall2_length hG, hnl]
  have hfw : ∀ w2 : World, (∀ a, w2.cell? a = w.cell? a) → (Builtin.firstCells i.size n (ρ y)).run P w2 = .ok ⟨NEW⟩ w2 := fun w2 hw => by
    have := hfirst n (Nat.le_refl _) w2 hw
    rwa [List.take_of_length_le (by omega)] at this
  rcases asSlice_ok h4 with ⟨rfl, h5⟩ | ⟨id, off, len, cap, es, op, rfl, h5⟩
  · -- onto nil
    have r := hx.c ex hcx
    generalize hq : ρ x = q at r hexec
    cases r
    rw [br_eq] at h5
    split at h5
    · rename_i hn0
      have hn0 : n = 0 := by simpa using hn0
      subst hn0
      have hv := okc_ok h5
      exact .stayc hm (hexec _ _ (run_append_fit0 htd hu hd hi hlen (by omega) (hfw w (fun _ => rfl)))) .nils hv
    · rename_i hn0
      have hn0 : n ≠ 0 := by simpa using hn0
      have hsm : n ≤ 4294967296 := by have := (br_ok h5).1; simpa using this
      have hrun := run_append_new (P := P) (w := w) (ty := o.type) (a := none) (sLen := 0) (sCap := 0) (OLD := []) htd hu hd hi hz1 hlen (by omega) hb (by omega) (by simp [Builtin.firstCells]) (hfw w.drew (fun _ => rfl))
      simp only [Nat.zero_add] at hrun
      exact Okay.grow (old := []) (OLD := []) hm .nil hG hz2 (by simpa using hNl) (by simpa using h5) (hexec _ _ hrun)
  · -- onto a slice
    obtain ⟨hes, h6⟩ := br_ok h5
    have hes : i.size = es := by simpa using hes
    subst hes
    obtain ⟨a, cap', e1, r⟩ := hx.slice ex hcx
    rw [e1] at hexec
    have hcc : cap ≤ cap' := by rcases r with ⟨_, q, _⟩ | ⟨_, _, q, q', _⟩ <;> omega
    rw [br_eq] at h6
    split at h6
    · rename_i hfit
      have hfit : len + n ≤ cap := by simpa using hfit
      obtain ⟨M1, hM1, h7⟩ := oRec_ok h6
      obtain ⟨rfl, rfl⟩ := okc_ok h7
      rcases r with ⟨r, _, r3, r4⟩ | ⟨rfl, rfl, rfl, rfl, y0, hy0⟩
      · obtain ⟨w', hst, hm', hstp⟩ := hm.stores (P := P) (r.add (len * i.size)) hG hM1
        refine ⟨σ, .slice (some a) (len + n) cap', w', .inl (hexec _ _ (run_append_fit htd hu hd hi hlen (by omega) (hfw w (fun _ => rfl)) hst)), hstp, hm', .one _ _ (.c _ _ ?_)⟩
        cases op with
        | false => rw [r3 rfl]; exact .slice _ _ _ _ _ _ r
        | true =>
          obtain ⟨b, s, r', q1, q2⟩ := r4 rfl
          obtain ⟨b', s', r'', q3, rfl⟩ := r
          rw [q1] at q3; simp at q3; obtain ⟨rfl, rfl, rfl⟩ := q3
          exact .sliceO _ _ _ _ _ _ _ _ _ q1 hcc q2
      · have hn0 : n = 0 := by omega
        subst hn0
        have hNil : NEW = [] := List.eq_nil_of_length_eq_zero (by simpa using hNl)
        subst hNil
        have hnil : new = [] := by cases hG; rfl
        subst hnil
        obtain ⟨m, cc, hg, _, rfl⟩ := stores_some hM1
        have hcong : ∀ i', (⟨M.next, M.b.set id (.cells m (T.puts [] cc (off + 0 * i.size)) true)⟩ : Mem).b.get i' = M.b.get i' := by
          intro i'
          show (M.b.set id _).get i' = _
          rw [T.get_set]
          split
          · subst_vars; rw [hg]; rfl
          · rfl
        refine ⟨σ, .slice (some a) 0 0, w, .inl (hexec _ _ (run_append_fit htd hu hd hi hlen (by omega) (hfw w (fun _ => rfl)) rfl)), ⟨.refl _, fun _ _ q => q, fun i' _ _ => hcong i', Nat.le_refl _⟩, hm.congr hcong rfl, .one _ _ (.c _ _ (.sliceZ _ _ _ _ _ hy0))⟩
    · rename_i hfit
      have hfit : ¬ len + n ≤ cap := by simpa using hfit
      obtain ⟨bk, hbk, h7⟩ := oRec_ok h6
      cases bk with
      | loop => simp [Blk.asCells] at h7
      | dfr => simp [Blk.asCells] at h7
      | dead => simp [Blk.asCells] at h7
      | cells m cc wr =>
        simp only [Blk.asCells] at h7
        cases op with
        | false =>
          rw [br_false] at h7
          obtain ⟨hle, h8⟩ := br_ok h7
          obtain ⟨old, hold, h9⟩ := oRec_ok h8
          have hsm : len + n ≤ 4294967296 := by have := (br_ok h9).1; simpa using this
          rcases r with ⟨r, _, r3, _⟩ | ⟨q, _⟩
          rotate_left
          · simp at q
          rw [r3 rfl] at hexec e1
          have hloads : M.loads id off (len * i.size) = some old := by
            unfold Mem.loads
            rw [hbk]
            simp only [oRec_some, Blk.asCells, hle, br_true]
            exact hold
          obtain ⟨OLD, hF, hol, hcs⟩ := hm.cells r hloads
          have hOl : OLD.length = len * i.size := by rw [← forall2_length hF, hol]
          have hfo : (Builtin.firstCells i.size len (.slice (some a) len cap)).run P w.drew = .ok ⟨OLD⟩ w.drew := run_firstCells_some (P := P) w.drew i.size len a len cap OLD hOl (by simpa using hcs)
          have hrun := run_append_new (P := P) (w := w) (ty := o.type) (a := some a) (sLen := len) (sCap := cap) htd hu hd hi hz1 hlen (by omega) hb hsm hfo (hfw w.drew (fun _ => rfl))
          exact Okay.grow hm hF hG hz2 (by rw [hOl, hNl, Nat.add_mul]) h9 (hexec _ _ hrun)
        | true =>
          rw [br_true] at h7
          obtain ⟨hle, h8⟩ := br_ok h7
          simp only [Bool.and_eq_true, Nat.beq_eq] at hle
          obtain ⟨rfl, rfl⟩ := hle
          obtain ⟨old, hold, h9⟩ := oRec_ok h8
          have hsm : len + n ≤ 4294967296 := by have := (br_ok h9).1; simpa using this
          by_cases hin : len + n ≤ cap'
          · -- in place
            rcases r with ⟨r, _, _, r4⟩ | ⟨_, rfl, rfl, rfl, _⟩
            rotate_left
            · omega
            obtain ⟨b, s, r', q1, q2⟩ := r4 rfl
            obtain ⟨b', s', r'', q3, rfl⟩ := r
            rw [q1] at q3; simp at q3; obtain ⟨rfl, rfl, rfl⟩ := q3
            have hroom : off + len * i.size + NEW.length ≤ r' := by
              have : (len + n) * i.size ≤ cap' * i.size := Nat.mul_le_mul_right _ hin
              rw [Nat.add_mul] at this
              omega
            obtain ⟨w', hst, hm', hstp⟩ := hm.reuse (P := P) q1 hbk hold hG hroom
            have hadd : (⟨b, s + off, none⟩ : Addr).add (len * i.size) = ⟨b, s + off + len * i.size, none⟩ := by
              unfold Addr.add; split
              · rename_i q; rw [q]; rfl
              · rfl
            obtain ⟨_, h10⟩ := br_ok h9
            obtain ⟨rfl, rfl⟩ := okc_ok h10
            refine ⟨_, .slice (some ⟨b, s + off, none⟩) (len + n) cap', w', .inl (hexec _ _ (run_append_fit htd hu hd hi hlen hin (hfw w (fun _ => rfl)) (by rw [hadd]; exact hst))), hstp, hm', .one _ _ (.c _ _ ?_)⟩
            exact slO_rel (Sg.upd_same _ _ _) hin (by omega)
          · -- in new memory
            have hold' : ∃ OLD, F2 (RC σ) old OLD ∧ OLD.length = len * i.size ∧ (Builtin.firstCells i.size len (.slice (some a) len cap')).run P w.drew = .ok ⟨OLD⟩ w.drew := by
              have hloads : M.loads id off (len * i.size) = some old := by
                unfold Mem.loads
                rw [hbk]
                simp only [oRec_some, Blk.asCells, br_eq, Nat.ble_eq, Nat.le_refl, if_true]
                exact hold
              rcases r with ⟨r, _⟩ | ⟨_, rfl, _⟩
              · obtain ⟨OLD, hF, hol, hcs⟩ := hm.cells r hloads
                have hOl : OLD.length = len * i.size := by rw [← forall2_length hF, hol]
                exact ⟨OLD, hF, hOl, run_firstCells_some (P := P) w.drew i.size len a len cap' OLD hOl (by simpa using hcs)⟩
              · have := (T.gets_some _ _ _ _ hold).1
                have hnil : old = [] := List.eq_nil_of_length_eq_zero (by simpa using this)
                subst hnil
                exact ⟨[], .nil, by simp, by simp [Builtin.firstCells, loadCells, loadCellsFrom]⟩
            obtain ⟨OLD, hF, hOl, hfo⟩ := hold'
            have hrun := run_append_new (P := P) (w := w) (ty := o.type) (a := some a) (sLen := len) (sCap := cap') htd hu hd hi hz1 hlen hin hb hsm hfo (hfw w.drew (fun _ => rfl))
            have hx0 : ∃ y0, σ id = some y0 := by
              rcases r with ⟨⟨b, s, r, q, _⟩, _⟩ | ⟨_, _, _, _, q⟩
              · exact ⟨_, q⟩
              · exact q
            obtain ⟨y0, hy0⟩ := hx0
            obtain ⟨hmk, hsk⟩ := hm.kill hy0
            obtain ⟨σ', c0, w', hr0, hs0, hm0, hv0⟩ := Okay.grow (P := P) (sCap := cap') (e := e) hmk hF hG hz2 (by rw [hOl, hNl, Nat.add_mul]) h9 (hexec _ _ hrun)
            exact ⟨σ', c0, w', hr0, hsk.trans hs0, hm0, hv0⟩

theorem cpy_sound {o : Oper} {cl : Call} {t e : TypeId} {ts : List TypeId} {s : Nat} {x y : Operand} {x' y' : AR} (ho : o.op = .call cl) (hc : cl.callee = .builtin .copy) (hts : cl.argTypes.toList = t :: ts) (hxs : cl.args.toList = [x, y])
    (ht : elemT P t = some e) (hs : szOf P e = some s) (hx : Hd σ tm ρ x) (hy : Hd σ tm ρ y) (ex : arOf x = some x') (ey : arOf y = some y') (hm : RM B w0 σ M w) (h : cpyE s x' y' tm M = .ok v M') : Okay P B w0 σ M (execOp ρ o) w v M' := by
  have hargs : cl.args = #[x, y] := by rw [← hxs]
  have htys : cl.argTypes = ⟨t :: ts⟩ := by rw [← hts]
  have hexec : ∀ q w', (Builtin.copy_ ⟨t :: ts⟩ o.type #[ρ x, ρ y]).run P w = .ok q w' → (execOp ρ o).run P w = .ok (.value q) w' := by
    intro q w' hq
    simp only [execOp, ho, resolve, hc, invoke, builtin, hargs, htys, Sem.run_bind, Sem.run_pure, Result.andThen_ok, List.map_toArray, List.map_cons, List.map_nil]
    rw [hq]; rfl
  have htd := elemT_some ht
  obtain ⟨c, hcx, h2⟩ := evC_ok h
  obtain ⟨c', hcy, h3⟩ := evC_ok h2
  obtain ⟨n, new, NEW, h4, hlen, hG, hnl, hfirst⟩ := src_rel (P := P) h3 (hy.c ey hcy) hm
  rcases asSlice_ok h4 with ⟨rfl, h5⟩ | ⟨id, off, len, cap, es, op, rfl, h5⟩
  · have hv := okc_ok h5
    have r := hx.c ex hcx
    generalize hq : ρ x = q at r hexec
    cases r
    have hf := hfirst (Nat.min n 0) (Nat.min_le_left _ _) w (fun _ => rfl)
    refine .stayc hm (c := .int .i64 0) (hexec _ _ ?_) (.int _ _) hv
    simp [Builtin.copy_, run_underlying htd, hlen, run_sizeOf' hs, goInt] at hf ⊢
    simp [hf]
  · obtain ⟨hes, h6⟩ := br_ok h5
    have hes : s = es := by simpa using hes
    subst hes
    obtain ⟨M1, hM1, h7⟩ := oRec_ok h6
    obtain ⟨rfl, rfl⟩ := okc_ok h7
    obtain ⟨a, cap', e1, r⟩ := hx.slice ex hcx
    rw [e1] at hexec
    have hf := hfirst (Nat.min n len) (Nat.min_le_left _ _) w (fun _ => rfl)
    have hfin : ∀ w', (storeCells a (NEW.take (Nat.min n len * s))).run P w = .ok () w' → (Builtin.copy_ ⟨t :: ts⟩ o.type #[.slice (some a) len cap', ρ y]).run P w = .ok (.int .i64 (Int.ofNat (Nat.min n len))) w' := by
      intro w' hst
      simp only [Builtin.copy_, Sem.run_bind, run_underlying htd, Result.andThen_ok, hlen, run_sizeOf' hs, Sem.run_pure, List.getElem?_toArray, List.getElem?_cons_zero, List.getElem?_cons_succ, hf, hst, goInt]
      rfl
    rcases r with ⟨r, _⟩ | ⟨rfl, rfl, rfl, rfl, y0, hy0⟩
    · obtain ⟨w', hst, hm', hstp⟩ := hm.stores (P := P) r (forall2_take _ hG) hM1
      exact ⟨σ, _, w', .inl (hexec _ _ (hfin w' hst)), hstp, hm', .one _ _ (.c _ _ (.int _ _))⟩
    · have hmin : Nat.min n 0 = 0 := Nat.min_zero n
      rw [hmin] at hM1 hfin ⊢
      simp only [Nat.zero_mul, List.take_zero] at hM1 hfin
      obtain ⟨m, cc, hg, _, rfl⟩ := stores_some hM1
      have hcong : ∀ i', (⟨M.next, M.b.set id (.cells m (T.puts [] cc off) true)⟩ : Mem).b.get i' = M.b.get i' := by
        intro i'
        show (M.b.set id _).get i' = _
        rw [T.get_set]
        split
        · subst_vars; rw [hg]; rfl
        · rfl
      exact ⟨σ, _, w, .inl (hexec _ _ (hfin w rfl)), ⟨.refl _, fun _ _ q => q, fun i' _ _ => hcong i', Nat.le_refl _⟩, hm.congr hcong rfl, .one _ _ (.c _ _ (.int _ _))⟩
end
end Go.Ab
