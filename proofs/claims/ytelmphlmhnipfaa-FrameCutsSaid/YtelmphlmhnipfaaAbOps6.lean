/- Each operation of the evaluator's is what the model does: slices cut, texts and bytes, append, copy. No condition. -/
import Derived.Test.YtelmphlmhnipfaaAbOps5
import Derived.Laws.Append
import Derived.Laws.BytesString
import Derived.Lib.ConvBytes
namespace Go.Ab
open Go.RowKit

section
variable {P : Program} {B : Nat} {w0 w : World} {σ : Sg} {M M' : Mem} {tm : T V} {ρ : Operand → Value} {v : V}

theorem slV_sound {o : Oper} {t e : TypeId} {es : Nat} {x : Operand} {x' : AR} {lo hi mx : Option Operand} {lo' hi' mx' : Option AR} (ho : o.op = .slice t x lo hi mx) (ht : P.underlying t = some (.slice e)) (hs : szOf P e = some es) (hx : Hd σ tm ρ x)
    (hlo : ∀ o, lo = some o → Hd σ tm ρ o) (hhi : ∀ o, hi = some o → Hd σ tm ρ o) (hmx : ∀ o, mx = some o → Hd σ tm ρ o)
    (ex : arOf x = some x') (elo : aroOf lo = some lo') (ehi : aroOf hi = some hi') (emx : aroOf mx = some mx') (hm : RM B w0 σ M w) (h : slVE es x' lo' hi' mx' tm M = .ok v M') : Okay P B w0 σ M (execOp ρ o) w v M' := by
  obtain ⟨c, hc, h⟩ := evC_ok h
  have hexec : ∀ a len cap l n m, ρ x = .slice a len cap → (Instr.sliceBounds true len cap (lo.map ρ) (hi.map ρ) (mx.map ρ)).run P w = .ok (l, n, m) w →
      (execOp ρ o).run P w = .ok (.value (.slice (if m = l then a else a.map (·.add (l * es))) (n - l) (m - l))) w := by
    intro a len cap l n m hq hb
    simp only [execOp, ho, hq, Instr.sliceAt, Instr.slice, Sem.run_bind, run_underlying' ht, Result.andThen_ok, hb, run_sizeOf' hs, Sem.run_pure]
  rcases asSlice_ok h with ⟨rfl, h2⟩ | ⟨id, off, len, cap, es', op, rfl, h2⟩
  · obtain ⟨hmn, h3⟩ := br_ok' h2
    obtain ⟨hn, h4, b1⟩ := bnd_ok h3
    obtain ⟨ln, h5, b2⟩ := bnd_ok h4
    have hv := okc_ok h5
    have r := hx.c ex hc
    generalize hq : ρ x = q at r
    cases r
    have hmxn : mx = none := by
      rcases aroOf_rel emx with ⟨q, _⟩ | ⟨_, _, _, q, _⟩
      · exact q
      · rw [q] at hmn; simp at hmn
    subst hmxn
    have c1 := run_bound (P := P) (w := w) (code := .sliceAcap) hhi ehi b1
    have c2 := run_bound (P := P) (w := w) (code := .sliceB) hlo elo b2
    have hb : (Instr.sliceBounds true 0 0 (lo.map ρ) (hi.map ρ) ((none : Option Operand).map ρ)).run P w = .ok (ln, hn, 0) w := by
      unfold Instr.sliceBounds
      rcases c1 with ⟨rfl, rfl⟩ | ⟨u1, g1, r1, _⟩ <;> rcases c2 with ⟨rfl, rfl⟩ | ⟨u2, g2, r2, _⟩
      · simp
      · simp [g2, r2]
      · simp [g1, r1]
      · simp [g1, g2, r1, r2]
    have hh : hn = 0 := by rcases b1 with ⟨_, q⟩ | ⟨_, _, _, _, q⟩ <;> omega
    have hl : ln = 0 := by rcases b2 with ⟨_, q⟩ | ⟨_, _, _, _, q⟩ <;> omega
    subst hh hl
    refine .stayc hm (c := .slice none 0 0) ?_ .nils hv
    rw [hexec _ _ _ _ _ _ hq hb]
    simp
  · obtain ⟨hb0, h3⟩ := br_ok h2
    obtain ⟨mn, h4, b0⟩ := bnd_ok h3
    obtain ⟨hn, h5, b1⟩ := bnd_ok h4
    obtain ⟨hhm, h5⟩ := br_ok h5
    have hhm : hn ≤ mn := by simpa using hhm
    obtain ⟨ln, h6, b2⟩ := bnd_ok h5
    have hv := okc_ok h6
    obtain ⟨a, cap', e1, r⟩ := hx.slice ex hc
    simp only [Bool.and_eq_true, Nat.beq_eq] at hb0
    obtain ⟨rfl, hb0⟩ := hb0
    have hcc : cap ≤ cap' := by rcases r with ⟨_, q, _⟩ | ⟨_, _, q, q', _⟩ <;> omega
    have c2 := run_bound (P := P) (w := w) (code := .sliceB) hlo elo b2
    have hlh : ln ≤ hn := by rcases b2 with ⟨_, q⟩ | ⟨_, _, _, _, q⟩ <;> omega
    rcases aroOf_rel emx with ⟨rfl, rfl⟩ | ⟨om, am, rfl, rfl, eam⟩
    · -- no max
      have hmn : mn = cap := by rcases b0 with ⟨_, q⟩ | ⟨_, _, q, _⟩ <;> first | exact q | simp at q
      subst hmn
      have b1' : (hi' = none ∧ hn = len) ∨ ∃ (a : AR) (q : IntKind), hi' = some a ∧ a.ev tm = some (.one (.c (.int q (hn : Int)))) ∧ hn ≤ cap' := by
        rcases b1 with q | ⟨a, k, q1, q2, q3⟩
        · exact .inl q
        · exact .inr ⟨a, k, q1, q2, by omega⟩
      have c1 := run_bound (P := P) (w := w) (code := .sliceAcap) hhi ehi b1'
      have hb : (Instr.sliceBounds true len cap' (lo.map ρ) (hi.map ρ) ((none : Option Operand).map ρ)).run P w = .ok (ln, hn, cap') w := by
        unfold Instr.sliceBounds
        rcases c1 with ⟨rfl, rfl⟩ | ⟨u1, g1, r1, _⟩ <;> rcases c2 with ⟨rfl, rfl⟩ | ⟨u2, g2, r2, _⟩
        · simp
        · simp [g2, r2]
        · simp [g1, r1]
        · simp [g1, g2, r1, r2]
      have hrun := hexec _ _ _ _ _ _ e1 hb
      cases op with
      | false =>
        rcases r with ⟨r, _, r3, _⟩ | ⟨q, _⟩
        · have r3 := r3 rfl
          subst r3
          simp only [Option.isSome_none, Bool.false_or, Bool.not_false, Bool.and_true, br_eq, Nat.beq_eq] at hv
          by_cases hq : cap' = ln
          · rw [if_pos hq] at hrun hv
            exact .stayc hm hrun (.slice _ _ _ _ _ _ r) hv
          · rw [if_neg hq] at hrun hv
            exact .stayc hm hrun (.slice _ _ _ _ _ _ (r.add _)) hv
        · simp at q
      | true =>
        simp only [Option.isSome_none, Bool.false_or, Bool.not_true, Bool.and_false, br_false, Bool.not_false, Bool.and_true] at hv
        rcases r with ⟨⟨b, s, r, rσ, rfl⟩, _, _, r4⟩ | ⟨_, rfl, rfl, rfl, y, hy⟩
        · obtain ⟨b', s', r', q1, q2⟩ := r4 rfl
          rw [rσ] at q1; simp at q1; obtain ⟨rfl, rfl, rfl⟩ := q1
          by_cases hq : cap' = ln
          · have h1 : hn = ln := by rcases b1 with ⟨_, q⟩ | ⟨_, _, _, _, q⟩ <;> rcases b2 with ⟨_, p⟩ | ⟨_, _, _, _, p⟩ <;> omega
            have h2 : mn = ln := by rcases b1 with ⟨_, q⟩ | ⟨_, _, _, _, q⟩ <;> rcases b2 with ⟨_, p⟩ | ⟨_, _, _, _, p⟩ <;> omega
            rw [if_pos hq] at hrun
            subst h1 h2 hq
            simp only [Nat.sub_self] at hrun hv
            exact .stayc hm hrun (.sliceZ _ _ _ _ _ rσ) hv
          · rw [if_neg hq] at hrun
            have hadd : (⟨b, s + off, none⟩ : Addr).add (ln * es) = ⟨b, s + (off + ln * es), none⟩ := by
              unfold Addr.add; split
              · rename_i q; rw [q]; rfl
              · simp; omega
            simp only [Option.map_some, hadd] at hrun
            refine .stayc hm hrun (.sliceO _ _ _ _ _ _ _ _ _ rσ (by omega) ?_) hv
            have hle : ln ≤ cap' := by omega
            have : ln * es + (cap' - ln) * es = cap' * es := by rw [← Nat.add_mul]; congr 1; omega
            omega
        · have hh : hn = 0 := by omega
          have hl : ln = 0 := by omega
          subst hh hl
          simp at hrun hv
          exact .stayc hm hrun (.sliceZ _ _ _ _ _ hy) hv
    · -- a max
      rcases aroOf_rel ehi with ⟨rfl, rfl⟩ | ⟨oh, ah, rfl, rfl, eah⟩
      · simp at hb0
      simp only [Option.isSome_some, Option.isNone_some, Bool.false_or, Bool.true_and] at hb0
      have b0' : ((some am : Option AR) = none ∧ mn = cap') ∨ ∃ (a : AR) (q : IntKind), (some am : Option AR) = some a ∧ a.ev tm = some (.one (.c (.int q (mn : Int)))) ∧ mn ≤ cap' := by
        rcases b0 with ⟨q, _⟩ | ⟨a, k, q1, q2, q3⟩
        · simp at q
        · exact .inr ⟨a, k, q1, q2, by omega⟩
      have hmc : mn ≤ cap := by rcases b0 with ⟨_, q⟩ | ⟨_, _, _, _, q⟩ <;> omega
      have c0 := run_bound (P := P) (w := w) (code := .slice3Acap) hmx emx b0'
      have c1 := run_bound (P := P) (w := w) (code := .slice3B) hhi ehi b1
      have c2' := run_bound (P := P) (w := w) (code := .slice3C) hlo elo b2
      have hb : (Instr.sliceBounds true len cap' (lo.map ρ) ((some oh).map ρ) ((some om).map ρ)).run P w = .ok (ln, hn, mn) w := by
        unfold Instr.sliceBounds
        rcases c0 with ⟨q, _⟩ | ⟨u0, g0, r0, _⟩
        · simp at q
        rcases c1 with ⟨q, _⟩ | ⟨u1, g1, r1, _⟩
        · simp at q
        simp at g0 g1
        subst g0 g1
        rcases c2' with ⟨rfl, rfl⟩ | ⟨u2, g2, r2, _⟩
        · simp [r0, r1]
        · simp [r0, r1, g2, r2]
      have hrun := hexec _ _ _ _ _ _ e1 hb
      have hRA : RA σ id off a := by
        rcases r with ⟨r, _⟩ | ⟨q1, _, q2, _⟩
        · exact r
        · subst q1 q2; simp at hb0
      simp only [Option.isSome_some, Bool.true_or, Bool.and_true, Bool.not_true, Bool.and_false, br_eq, Nat.beq_eq] at hv
      by_cases hq : mn = ln
      · rw [if_pos hq] at hrun hv
        exact .stayc hm hrun (.slice _ _ _ _ _ _ hRA) hv
      · rw [if_neg hq] at hrun hv
        exact .stayc hm hrun (.slice _ _ _ _ _ _ (hRA.add _)) hv

theorem s2b_sound {o : Oper} {s d e : TypeId} {x : Operand} {x' : AR} (ho : o.op = .convert s d x) (hs : P.underlying s = some .string) (hd : P.underlying d = some (.slice e)) (he : P.underlying e = some (.int .u8)) (hx : Hd σ tm ρ x) (ex : arOf x = some x')
    (hm : RM B w0 σ M w) (h : s2bE x' tm M = .ok v M') : Okay P B w0 σ M (execOp ρ o) w v M' := by
  obtain ⟨c, hc, h⟩ := evC_ok h
  obtain ⟨l, rfl, h⟩ := asStr_ok h
  obtain ⟨s1, e1, q1⟩ := hx.str ex hc
  have hlen := str_len q1
  have hge := grownCap_ge w s1.size 0 e
  have hw : Lib.bytesWorld w e s1 = w.drew.alloc (.cells ⟨(s1.data.toList.map fun b => Value.int .u8 b.toNat) ++ List.replicate (grownCap w s1.size 0 e - s1.size) (.int .u8 0)⟩ e ((Lib.bytesCells w e s1).size, (Lib.bytesCells w e s1).size + 1)) := by
    have hcells : Lib.bytesCells w e s1 = ⟨(s1.data.toList.map fun b => Value.int .u8 b.toNat) ++ List.replicate (grownCap w s1.size 0 e - s1.size) (.int .u8 0)⟩ := by
      apply Array.ext'
      simp [Lib.bytesCells]
    have h1 : (Lib.bytesWorld w e s1).heap = (w.drew.alloc (.cells (Lib.bytesCells w e s1) e ((Lib.bytesCells w e s1).size, (Lib.bytesCells w e s1).size + 1))).heap := by
      apply Array.ext_getElem?
      intro i
      rcases Nat.lt_trichotomy i w.heap.size with q | q | q
      · rw [Lib.bytesWorld_at_old w e s1 i q, heap_push_old w.drew _ q]; rfl
      · subst q; rw [Lib.bytesWorld_at_new]; exact (heap_push_new w.drew _).symm
      · rw [Array.getElem?_eq_none (by rw [Lib.bytesWorld_size]; omega), Array.getElem?_eq_none (by simp; omega)]
    rw [← hcells]
    unfold Lib.bytesWorld at h1 ⊢
    unfold World.freeze at h1 ⊢
    simp only [Nat.one_ne_zero, if_false] at h1 ⊢
    cases hh : w
    rw [hh] at h1
    simp only [World.alloc, World.drew] at h1 ⊢
    rw [h1]
  have hF : F2 (RC σ) (bytesOf l) (s1.data.toList.map fun b => Value.int .u8 b.toNat) := by
    subst q1
    unfold bytesOf
    generalize s1.data.toList = L
    induction L with
    | nil => exact .nil
    | cons b L ih => exact .cons (.int _ _) ih
  have hsz : (Lib.bytesCells w e s1).size = (s1.data.toList.map fun b => Value.int .u8 b.toNat).length + (List.replicate (grownCap w s1.size 0 e - s1.size) (Value.int .u8 0)).length := by
    simp [Lib.bytesCells]
  have htot : (s1.data.toList.map fun b => Value.int .u8 b.toNat).length + (List.replicate (grownCap w s1.size 0 e - s1.size) (Value.int .u8 0)).length = grownCap w s1.size 0 e := by
    have : s1.data.toList.length = s1.size := by simp
    simp only [List.length_map, List.length_replicate, this]; omega
  refine Okay.lay (E := e) (fz := ((Lib.bytesCells w e s1).size, (Lib.bytesCells w e s1).size + 1)) (ex := List.replicate (grownCap w s1.size 0 e - s1.size) (.int .u8 0)) (c := .slice (some ⟨w.heap.size, 0, none⟩) s1.size (grownCap w s1.size 0 e)) hm.drew hF
    (fun i hi => by rw [hsz]; omega) h ?_ (fun σ' q => ?_)
  · have := Lib.run_convert_string_bytes (P := P) w s d e s1 hs hd he
    rw [← hw]
    simp only [execOp, ho, e1, Sem.run_bind, this, Result.andThen_ok, Sem.run_pure]
  · have q' : σ' M.next = some (w.heap.size, 0, grownCap w s1.size 0 e) := by rw [htot] at q; exact q
    have := RC.sliceO (σ := σ') M.next 0 l.length l.length 1 (grownCap w s1.size 0 e) w.heap.size 0 (grownCap w s1.size 0 e) q' (by omega) (by omega)
    rw [hlen] at this
    unfold slO
    rw [hlen]
    exact this

theorem bytesBack_rel {A : List CV} : ∀ {l : List Nat} {cs : List Value}, bytesBack A = some l → F2 (RC σ) A cs → ∃ ns : List Int, cs = ns.map (Value.int .u8) ∧ ns = l.map Int.ofNat ∧ ∀ n ∈ l, n < 256 := by
  induction A with
  | nil => intro l cs h hF; simp [bytesBack] at h; subst h; cases hF; exact ⟨[], rfl, rfl, by simp⟩
  | cons a A ih =>
    intro l cs h hF
    cases hF with
    | @cons _ c _ cs r hF =>
      unfold bytesBack at h
      split at h
      · simp at *
      · rename_i n A' heq
        simp at heq
        obtain ⟨rfl, rfl⟩ := heq
        simp only [Bool.cond_eq_ite] at h
        split at h
        · rename_i hb
          simp only [Option.bind_eq_some_iff] at h
          obtain ⟨m, hm, h⟩ := h
          simp at h; subst h
          obtain ⟨ns, e1, e2, e3⟩ := ih hm hF
          cases r
          refine ⟨Int.ofNat n :: ns, by rw [e1]; rfl, by rw [e2]; rfl, ?_⟩
          intro k hk
          rcases List.mem_cons.1 hk with rfl | hk
          · simpa [Nat.blt_eq] using hb
          · exact e3 k hk
        · simp at h
      · simp at h
theorem foldl_push (l : List Nat) : ∀ (s : ByteArray), (∀ n ∈ l, n < 256) → ((l.map Int.ofNat).foldl (fun r n => r.push (UInt8.ofNat n.toNat)) s).data.toList.map (·.toNat) = s.data.toList.map (·.toNat) ++ l := by
  induction l with
  | nil => intro s _; simp
  | cons n l ih =>
    intro s h
    simp only [List.map_cons, List.foldl_cons]
    rw [ih _ (fun k hk => h k (by simp [hk]))]
    have : n < 256 := h n (by simp)
    simp [ByteArray.data_push]
    omega
theorem b2s_sound {o : Oper} {s d e : TypeId} {x : Operand} {x' : AR} (ho : o.op = .convert s d x) (hs : P.underlying s = some (.slice e)) (hd : P.underlying d = some .string) (he : P.underlying e = some (.int .u8)) (hx : Hd σ tm ρ x) (ex : arOf x = some x')
    (hm : RM B w0 σ M w) (h : b2sE x' tm M = .ok v M') : Okay P B w0 σ M (execOp ρ o) w v M' := by
  obtain ⟨c, hc, h⟩ := evC_ok h
  rcases asSlice_ok h with ⟨rfl, h2⟩ | ⟨id, off, len, cap, es, op, rfl, h2⟩
  · have hv := okc_ok h2
    have r := hx.c ex hc
    generalize hq : ρ x = q at r
    cases r
    refine .stayc hm (c := .string .empty) ?_ (.str _ _ rfl) hv
    simp only [execOp, ho, hq, Sem.run_bind, run_convert_bytes_string w s d e none 0 0 hs he hd]
    simp [Conv.bytesToString]
  · obtain ⟨hb, h3⟩ := br_ok h2
    obtain ⟨l, hl, h4⟩ := oRec_ok h3
    obtain ⟨b, hb', h5⟩ := oRec_ok h4
    have hv := okc_ok h5
    obtain ⟨a, cap', e1, r⟩ := hx.slice ex hc
    have hcs : ∃ cs, F2 (RC σ) l cs ∧ (loadCells a len).run P w = .ok ⟨cs⟩ w := by
      rcases r with ⟨r, _⟩ | ⟨_, rfl, _⟩
      · obtain ⟨cs, hF, hlen, hcs⟩ := hm.cells r hl
        exact ⟨cs, hF, run_loads (by rw [← forall2_length hF, hlen]) hcs⟩
      · obtain ⟨n, cc, wr, hg, hle, hgets⟩ := loads_some hl
        have := (T.gets_some _ _ _ _ hgets).1
        have : l = [] := List.eq_nil_of_length_eq_zero this
        subst this
        exact ⟨[], .nil, rfl⟩
    obtain ⟨cs, hF, hrun⟩ := hcs
    obtain ⟨ns, rfl, rfl, hlt⟩ := bytesBack_rel hb' hF
    have := run_bytesToString (P := P) w a len cap' (b.map Int.ofNat) hrun
    refine .stayc hm (c := .string _) ?_ (.str _ _ (by simpa using foldl_push b ByteArray.empty hlt)) hv
    simp only [execOp, ho, e1, Sem.run_bind, run_convert_bytes_string w s d e _ len cap' hs he hd, this, Result.andThen_ok, Sem.run_pure]
end
end Go.Ab
