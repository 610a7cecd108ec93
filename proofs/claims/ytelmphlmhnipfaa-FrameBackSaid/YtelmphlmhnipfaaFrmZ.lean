/- Frames: texts that Bytes made; the law FrameBack's loop. No condition. -/
import Derived.Test.YtelmphlmhnipfaaFrmY
import Derived.Test.YtelmphlmhnipfaaAbLaw
set_option linter.unusedSimpArgs false
set_option linter.unusedVariables false
namespace Go.Proofs.Ytelmphlmhnipfaa
open Go.Ab
variable {O : FuncId → Bool}

def fb (p : List Nat) : List Nat := hdr p.length ++ p
def cat : List (List Nat) → List Nat
  | [] => []
  | p :: ps => fb p ++ cat ps
theorem fb_len (p : List Nat) : (fb p).length = 4 + p.length := by unfold fb hdr; simp; omega
theorem num_hdr {n : Nat} (h : n < 4294967296) : num4 (n / 16777216 % 256) (n / 65536 % 256) (n / 256 % 256) (n % 256) = n := by rw [num4_eq]; omega
theorem cut_fb {p : List Nat} (h : p.length < 4294967296) (t : List Nat) : cutL (fb p ++ t) = some (p, t) := by
  show cutL (p.length / 16777216 % 256 :: p.length / 65536 % 256 :: p.length / 256 % 256 :: p.length % 256 :: (p ++ t)) = _
  unfold cutL
  dsimp only
  rw [num_hdr h, if_pos (by simp), List.take_left, List.drop_left]
theorem evf_cat {ps : List (List Nat)} (h : ∀ p ∈ ps, p.length < 4294967296) (t : List Nat) : evf (cat ps ++ t) = ps.map (·, true) ++ evf t := by
  induction ps with
  | nil => rfl
  | cons p ps ih =>
    have e : cat (p :: ps) ++ t = fb p ++ (cat ps ++ t) := by simp [cat]
    have hne : fb p ++ (cat ps ++ t) ≠ [] := by
      intro q
      have := congrArg List.length q
      rw [List.length_append, fb_len] at this
      simp at this
    rw [e, evf_some hne (cut_fb (h p (by simp)) _), ih (fun q hq => h q (by simp [hq]))]; rfl
theorem cutL_lt4 {s p r : List Nat} (h : cutL s = some (p, r)) : r.length + 4 ≤ s.length := by
  unfold cutL at h
  split at h
  · split at h
    · simp at h; rw [← h.2]; simp [List.length_drop]
    · simp at h
  · simp at h
theorem refn_len4 : ∀ (n : Nat) (s : List Nat), 4 * (refn n [] s).1.length ≤ s.length := by
  intro n
  induction n with
  | zero => intro s; simp [refn]
  | succ n ih =>
    intro s
    cases hc : cutL s with
    | none => rw [refn_none hc]; simp
    | some x =>
      obtain ⟨p, r⟩ := x
      have := cutL_lt4 hc
      have := ih r
      rw [refn_some hc]
      simp; omega
theorem byt_fb {p : List Nat} (h : Byt p) (hl : p.length ≤ 1000) : Byt (fb p) := by
  refine ⟨by rw [fb_len, maxLen_eq]; omega, fun b hb => ?_⟩
  unfold fb hdr at hb
  simp at hb
  rcases hb with rfl | rfl | rfl | rfl | hb
  · exact Nat.mod_lt _ (by decide)
  · exact Nat.mod_lt _ (by decide)
  · exact Nat.mod_lt _ (by decide)
  · exact Nat.mod_lt _ (by decide)
  · exact h.2 b hb
theorem cat_len : ∀ (ps : List (List Nat)) (c : Nat), (∀ p ∈ ps, p.length ≤ c) → (cat ps).length ≤ ps.length * (c + 4)
  | [], c, _ => by simp [cat]
  | p :: ps, c, h => by
    have h1 := cat_len ps c (fun q hq => h q (by simp [hq]))
    have h2 := h p (by simp)
    have h3 := fb_len p
    simp only [cat, List.length_append, List.length_cons, Nat.add_mul] at *
    omega
theorem cat_byt : ∀ (ps : List (List Nat)), (∀ p ∈ ps, Byt p) → ∀ b ∈ cat ps, b < 256
  | [], _, b, hb => by simp [cat] at hb
  | p :: ps, h, b, hb => by
    rw [cat, List.mem_append] at hb
    rcases hb with hb | hb
    · unfold fb hdr at hb
      simp at hb
      rcases hb with rfl | rfl | rfl | rfl | hb
      · exact Nat.mod_lt _ (by decide)
      · exact Nat.mod_lt _ (by decide)
      · exact Nat.mod_lt _ (by decide)
      · exact Nat.mod_lt _ (by decide)
      · exact (h p (by simp)).2 b hb
    · exact cat_byt ps (fun q hq => h q (by simp [hq])) b hb
theorem cat_snoc (ps : List (List Nat)) (p : List Nat) : cat (ps ++ [p]) = cat ps ++ fb p := by
  induction ps with
  | nil => simp [cat]
  | cons q ps ih => simp [cat, ih]

/-- A list of texts that came as an argument. -/
structure ArS (M : Mem) (a : CV) (ps : List (List Nat)) : Prop where
  byt : ∀ p ∈ ps, Byt p
  rd : ∀ M' : Mem, (∀ i, i < M.next → M'.b.get i = M.b.get i) → Rd M' 1 a ps.length (strs ps)
theorem strs_of {xs : List CV} : ∀ {ks : List FK}, F2 FK.ok ks xs → (∀ k ∈ ks, k = .s) → ∃ ps : List (List Nat), xs = strs ps ∧ ∀ p ∈ ps, Byt p := by
  induction xs with
  | nil => intro ks _ _; exact ⟨[], rfl, by simp⟩
  | cons x xs ih =>
    intro ks h hk
    cases h with
    | cons a r =>
      rename_i k ks
      have := hk k (by simp)
      subst this
      obtain ⟨ps, rfl, hp⟩ := ih r (fun k hk' => hk k (by simp [hk']))
      cases x with
      | str l => exact ⟨l :: ps, rfl, by simpa using ⟨a, hp⟩⟩
      | _ => exact a.elim
theorem rep_s : ∀ (n : Nat), ∀ k ∈ repFK [.s] n, k = .s
  | 0, k, h => by simp [repFK] at h
  | n + 1, k, h => by
    simp [repFK] at h
    rcases h with h | h
    · exact h
    · exact rep_s n k h
theorem ars_of {M : Mem} (hw : M.Wf) {a : CV} {len : Nat} {xs : List CV} (h : SlArg M [.s] a len xs) : ∃ ps, ps.length = len ∧ ArS M a ps := by
  cases h with
  | nil => exact ⟨[], rfl, by simp, fun _ _ => .nil⟩
  | mk id len cap o xs h1 h2 h3 h4 =>
    obtain ⟨qs, rfl, hq⟩ := strs_of h4 (rep_s cap)
    have hH := has_arg h1
    have hlt := hH.lt hw
    have hl : qs.length = cap := by
      have := forall2_length h4
      have hr : ∀ m : Nat, (repFK [FK.s] m).length = m := by
        intro m
        induction m with
        | zero => rfl
        | succ m ih => simp [repFK, ih]
      rw [hr, List.length_map] at this; exact this.symm
    refine ⟨qs.take len, by rw [List.length_take]; omega, fun p hp => hq p (List.mem_of_mem_take hp), fun M' old => ?_⟩
    have hlt' : (qs.take len).length = len := by rw [List.length_take]; omega
    rw [hlt']
    refine .mk _ _ _ _ _ _ (by rw [List.length_map, hlt']; omega) (fun j hj => ?_)
    rw [Nat.zero_add, (hH.other (old id hlt)).load j, strs, strs, List.map_take, List.getElem?_take, if_pos (by omega)]

theorem len_le {M : Mem} {ks : List FK} {a : CV} {len : Nat} {xs : List CV} (h : SlArg M ks a len xs) : len ≤ maxLen := by
  cases h with
  | nil => exact Nat.zero_le _
  | mk id len cap o xs h1 h2 h3 h4 => exact Nat.le_trans h2 h3

noncomputable abbrev c4 : Code := subC [1, 1, 1, 0, 1, 0, 0] (bodyC Try.prog 4)
structure Tm4 (a : CV) (tail : List Nat) (s : List Nat) (i : Nat) (tm : T V) : Prop where
  t0 : tm.get 0 = some (.one (.c a))
  t1 : tm.get 1 = some (.one (.c (.str tail)))
  t5 : tm.get 5 = some (.one (.c (.str s)))
  t6 : tm.get 6 = some (.one (.c (.int .i64 (i : Int))))
theorem fb_tail (p : List Nat) : List.take ((fb p).length - 4) (List.drop 4 (fb p)) = p := by
  rw [fb_len, show 4 + p.length - 4 = p.length by omega]
  show List.take p.length p = p
  exact List.take_length
theorem f4_step (ho : O 12 = false) {M : Mem} (hw : M.Wf) {a : CV} {tail s : List Nat} {ps : List (List Nat)} {i : Nat} {tm : T V} (ht : Tm4 a tail s i tm) (hr : ∀ M' : Mem, (∀ i, i < M.next → M'.b.get i = M.b.get i) → Rd M' 1 a ps.length (strs ps))
    (hi : i < ps.length) (hps : ps.length ≤ 50) (hp : ps[i].length ≤ 300) (hs : s.length ≤ 100000) :
    ∃ tm' M', (lim Try.prog O).code (.loop c4) none 120 tm [] M = (lim Try.prog O).code (.loop c4) none 120 tm' [] M' ∧ Tm4 a tail (s ++ fb ps[i]) (i + 1) tm' ∧ M'.Wf ∧ M.next ≤ M'.next ∧ ∀ i, i < M.next → M'.b.get i = M.b.get i := by
  obtain ⟨t0, t1, t5, t6⟩ := ht
  obtain ⟨id, off, cap, o, hv, l1⟩ := rd_at (hr M (fun _ _ => rfl)) hi
  obtain ⟨M', c12, wf, nx, old⟩ := bytes_run ho hw (s := ps[i]) (by omega)
  obtain ⟨id', off', cap', o', hv', l2⟩ := rd_at (hr M' old) hi
  rw [hv] at hv'
  obtain ⟨rfl, rfl, _, rfl, rfl⟩ : id = id' ∧ off = off' ∧ True ∧ cap = cap' ∧ o = o' := by cases hv'; simp
  have hl := fb_len ps[i]
  have hft := fb_tail ps[i]
  have e : hdr ps[i].length ++ ps[i] = fb ps[i] := rfl
  rw [e] at c12
  generalize fb ps[i] = f at *
  generalize ps[i] = p at *
  have i1 : ((i : Int) + 1) = ((i + 1 : Nat) : Int) := by omega
  have add := str_add s f (by omega)
  subst hv
  refine ⟨?_, M', ?_, ?_, wf, nx, old⟩
  rotate_left
  · rw [loop_step cl4_0_eq]
    unfold cl4_0
    simp (maxSteps := 4000000) (disch := omega) only [↓lenN_s, ↓lenN_n, ↓appA_eq, ↓opsN_eq, ↓goN_eq, ↓condN_eq, ↓drawN_eq, ↓drawM_eq, ↓run_seq, ↓run_ops, ↓run_draw, ↓run_cond, ↓run_ret, ↓run_skip, ↓run_exit, ↓run_block, ↓run_range, ↓ops_nil, ↓ops_cons, ↓draw_nil, ↓draw_eff, ↓draw_read, ↓draw_pure, ↓draw_alloc, ↓again_nil, ↓again_cons, ↓bind_ok', ↓bind_no', ↓co_none, ↓co_some, ↓ax_op, ↓ax_call, ↓evs_nil, ↓evs_cons, ↓evps_nil, ↓evps_cons, ↓evC_t, ↓evC_v, ↓ev1_t, ↓ev1_v, ↓ev_t, ↓ev_v, ↓asC_c, ↓asC_u, ↓as1_o, ↓asAgg_a, ↓asBool_b, ↓asInt_i, ↓asStr_s, ↓asPtr_p, ↓asSlice_s, ↓asSlice_n, ↓asFn_f, ↓asFn_y, ↓okV_s, ↓okc_eq, ↓okO_s, ↓okB_f, ↓okB_t, ↓putD_s, ↓putD_n, ↓op_mv, ↓op_pick, ↓op_alloc, ↓op_box, ↓op_build, ↓op_bslice, ↓op_mkslice, ↓op_ld1, ↓op_ldn, ↓op_st, ↓op_nilck, ↓nilOk_p, ↓nilOk_f, ↓nilOk_y, ↓op_ibin, ↓op_shift, ↓op_sbin, ↓op_beq, ↓op_nileq, ↓op_ageq, ↓op_ineg, ↓op_bnot, ↓op_i2i, ↓op_s2s, ↓op_s2b, ↓op_b2s, ↓op_mkfn, ↓op_slS, ↓op_slV, ↓op_faddr, ↓op_fld1, ↓op_fldn, ↓op_iaddrA, ↓op_iaddrS, ↓op_idx1, ↓op_idxS, ↓op_ext, ↓op_lenS, ↓op_lenV, ↓op_app, ↓op_cpy, ↓op_min, ↓fill_nil, ↓fill_cons, ↓nat_eq, ↓bnd_n, ↓bnd_s, ↓retE_nil, ↓avs_nil, ↓avs_cons, ↓av_t, ↓av_c1, ↓av_cn, ↓done_ok, ↓done_no, ↓andThen_no, ↓andThen_nx, ↓andThen_ex, ↓andThen_rt, ↓leave_rt, ↓leave_nx, ↓catch_nx, ↓catch_rt, ↓catch_ex, ↓oRec_s, ↓oRec_n, ↓br_t, ↓br_f, ↓T.get_set, eq_self, bSame_self, Nat.sub_zero, Nat.mul_one, lenN_s, lenN_n, same_c, same_a, repA_z, repA_s, putAt_e, putAt_z, putAt_s, appA_eq, condN_eq, bind_ok', asC_c, asC_u, as1_o, asAgg_a, asBool_b, asInt_i, asStr_s, asPtr_p, asSlice_s, asSlice_n, asFn_f, asFn_y, okV_s, okO_s, okB_f, okB_t, nilOk_p, nilOk_f, nilOk_y, done_ok, done_no, andThen_no, andThen_nx, andThen_ex, andThen_rt, leave_rt, leave_nx, catch_nx, catch_rt, catch_ex, oRec_s, oRec_n, br_t, br_f, T.puts_cons, T.puts_nil, List.map_cons, List.map_nil, nil_pp, nil_pq, nil_qp, nil_ss, nil_sq, nil_ff, nil_fq, int_add, int_sub, int_mul, int_eql, int_neq, int_lss, int_leq, int_gtr, int_geq, sh_shl, sh_shr, bSame_t, bSame_f, kSame_self, T.get_lf, Nat.reduceEqDiff, if_true, if_false, reduceIte, reduceCtorEq, Nat.reduceAdd, Nat.reduceMul, Nat.reduceSub, decide_true, decide_false, Int.ofNat_eq_natCast, Nat.zero_add, Nat.add_zero, Nat.zero_mul, Bool.not_true, Bool.not_false, Bool.and_true, Bool.true_and, Bool.and_false, Bool.false_and, Bool.or_true, Bool.true_or, Bool.or_false, Bool.false_or, Option.bind_some, Option.bind_none, List.nil_append, List.cons_append, List.append_nil, pack_0, pack_1, pack_2, is1_one, ext_tup, cells_c, cells_a, List.length_cons, List.length_nil, List.getElem?_cons_zero, List.getElem?_cons_succ, Nat.beq_refl, Nat.reduceBEq, Nat.reduceLeDiff, Nat.reduceBNe, Nat.reduceLT, Option.isSome_none, Option.isSome_some, Option.isNone_none, Option.isNone_some, decide_not, ble_t, ble_f, blt_t, blt_f, wrap_i64, wrap_i32, wrap_u8, wrap_u32, natOf_0, natOf_1, natOf_2, natOf_3, natOf_4, natOf_n, decide_eq_true, decide_eq_false, int_rem, int_quo, str_eql, str_neq, t0, t1, t5, t6, l1, c12, l2, hft, add, i1]
    rfl
  · refine ⟨?_, ?_, ?_, ?_⟩ <;> simp (maxSteps := 4000000) (disch := omega) only [↓lenN_s, ↓lenN_n, ↓appA_eq, ↓opsN_eq, ↓goN_eq, ↓condN_eq, ↓drawN_eq, ↓drawM_eq, ↓run_seq, ↓run_ops, ↓run_draw, ↓run_cond, ↓run_ret, ↓run_skip, ↓run_exit, ↓run_block, ↓run_range, ↓ops_nil, ↓ops_cons, ↓draw_nil, ↓draw_eff, ↓draw_read, ↓draw_pure, ↓draw_alloc, ↓again_nil, ↓again_cons, ↓bind_ok', ↓bind_no', ↓co_none, ↓co_some, ↓ax_op, ↓ax_call, ↓evs_nil, ↓evs_cons, ↓evps_nil, ↓evps_cons, ↓evC_t, ↓evC_v, ↓ev1_t, ↓ev1_v, ↓ev_t, ↓ev_v, ↓asC_c, ↓asC_u, ↓as1_o, ↓asAgg_a, ↓asBool_b, ↓asInt_i, ↓asStr_s, ↓asPtr_p, ↓asSlice_s, ↓asSlice_n, ↓asFn_f, ↓asFn_y, ↓okV_s, ↓okc_eq, ↓okO_s, ↓okB_f, ↓okB_t, ↓putD_s, ↓putD_n, ↓op_mv, ↓op_pick, ↓op_alloc, ↓op_box, ↓op_build, ↓op_bslice, ↓op_mkslice, ↓op_ld1, ↓op_ldn, ↓op_st, ↓op_nilck, ↓nilOk_p, ↓nilOk_f, ↓nilOk_y, ↓op_ibin, ↓op_shift, ↓op_sbin, ↓op_beq, ↓op_nileq, ↓op_ageq, ↓op_ineg, ↓op_bnot, ↓op_i2i, ↓op_s2s, ↓op_s2b, ↓op_b2s, ↓op_mkfn, ↓op_slS, ↓op_slV, ↓op_faddr, ↓op_fld1, ↓op_fldn, ↓op_iaddrA, ↓op_iaddrS, ↓op_idx1, ↓op_idxS, ↓op_ext, ↓op_lenS, ↓op_lenV, ↓op_app, ↓op_cpy, ↓op_min, ↓fill_nil, ↓fill_cons, ↓nat_eq, ↓bnd_n, ↓bnd_s, ↓retE_nil, ↓avs_nil, ↓avs_cons, ↓av_t, ↓av_c1, ↓av_cn, ↓done_ok, ↓done_no, ↓andThen_no, ↓andThen_nx, ↓andThen_ex, ↓andThen_rt, ↓leave_rt, ↓leave_nx, ↓catch_nx, ↓catch_rt, ↓catch_ex, ↓oRec_s, ↓oRec_n, ↓br_t, ↓br_f, ↓T.get_set, eq_self, bSame_self, Nat.sub_zero, Nat.mul_one, lenN_s, lenN_n, same_c, same_a, repA_z, repA_s, putAt_e, putAt_z, putAt_s, appA_eq, condN_eq, bind_ok', asC_c, asC_u, as1_o, asAgg_a, asBool_b, asInt_i, asStr_s, asPtr_p, asSlice_s, asSlice_n, asFn_f, asFn_y, okV_s, okO_s, okB_f, okB_t, nilOk_p, nilOk_f, nilOk_y, done_ok, done_no, andThen_no, andThen_nx, andThen_ex, andThen_rt, leave_rt, leave_nx, catch_nx, catch_rt, catch_ex, oRec_s, oRec_n, br_t, br_f, T.puts_cons, T.puts_nil, List.map_cons, List.map_nil, nil_pp, nil_pq, nil_qp, nil_ss, nil_sq, nil_ff, nil_fq, int_add, int_sub, int_mul, int_eql, int_neq, int_lss, int_leq, int_gtr, int_geq, sh_shl, sh_shr, bSame_t, bSame_f, kSame_self, T.get_lf, Nat.reduceEqDiff, if_true, if_false, reduceIte, reduceCtorEq, Nat.reduceAdd, Nat.reduceMul, Nat.reduceSub, decide_true, decide_false, Int.ofNat_eq_natCast, Nat.zero_add, Nat.add_zero, Nat.zero_mul, Bool.not_true, Bool.not_false, Bool.and_true, Bool.true_and, Bool.and_false, Bool.false_and, Bool.or_true, Bool.true_or, Bool.or_false, Bool.false_or, Option.bind_some, Option.bind_none, List.nil_append, List.cons_append, List.append_nil, pack_0, pack_1, pack_2, is1_one, ext_tup, cells_c, cells_a, List.length_cons, List.length_nil, List.getElem?_cons_zero, List.getElem?_cons_succ, Nat.beq_refl, Nat.reduceBEq, Nat.reduceLeDiff, Nat.reduceBNe, Nat.reduceLT, Option.isSome_none, Option.isSome_some, Option.isNone_none, Option.isNone_some, decide_not, ble_t, ble_f, blt_t, blt_f, wrap_i64, wrap_i32, wrap_u8, wrap_u32, natOf_0, natOf_1, natOf_2, natOf_3, natOf_4, natOf_n, decide_eq_true, decide_eq_false, int_rem, int_quo, str_eql, str_neq, t0, t1, t5, t6]
theorem f4_big (hk : ∀ M, (lim Try.prog O).call 7 [] M = .ok (.one (.c (.bool true))) M) {M : Mem} {a : CV} {tail s : List Nat} {ps : List (List Nat)} {i : Nat} {tm : T V} (ht : Tm4 a tail s i tm) (hr : Rd M 1 a ps.length (strs ps)) (hi : i < ps.length) (hp : ¬ ps[i].length ≤ 300) :
    ∃ tm', (lim Try.prog O).code (.loop c4) none 120 tm [] M = .rt tm' [] M ∧ tm'.get 4 = some (.one (.c (.bool true))) := by
  obtain ⟨t0, t1, t5, t6⟩ := ht
  obtain ⟨id, off, cap, o, hv, l1⟩ := rd_at hr hi
  generalize ps[i] = p at *
  subst hv
  refine ⟨?_, ?_, ?_⟩
  rotate_left
  · rw [loop_step cl4_0_eq]
    unfold cl4_0
    simp (maxSteps := 4000000) (disch := omega) only [↓lenN_s, ↓lenN_n, ↓appA_eq, ↓opsN_eq, ↓goN_eq, ↓condN_eq, ↓drawN_eq, ↓drawM_eq, ↓run_seq, ↓run_ops, ↓run_draw, ↓run_cond, ↓run_ret, ↓run_skip, ↓run_exit, ↓run_block, ↓run_range, ↓ops_nil, ↓ops_cons, ↓draw_nil, ↓draw_eff, ↓draw_read, ↓draw_pure, ↓draw_alloc, ↓again_nil, ↓again_cons, ↓bind_ok', ↓bind_no', ↓co_none, ↓co_some, ↓ax_op, ↓ax_call, ↓evs_nil, ↓evs_cons, ↓evps_nil, ↓evps_cons, ↓evC_t, ↓evC_v, ↓ev1_t, ↓ev1_v, ↓ev_t, ↓ev_v, ↓asC_c, ↓asC_u, ↓as1_o, ↓asAgg_a, ↓asBool_b, ↓asInt_i, ↓asStr_s, ↓asPtr_p, ↓asSlice_s, ↓asSlice_n, ↓asFn_f, ↓asFn_y, ↓okV_s, ↓okc_eq, ↓okO_s, ↓okB_f, ↓okB_t, ↓putD_s, ↓putD_n, ↓op_mv, ↓op_pick, ↓op_alloc, ↓op_box, ↓op_build, ↓op_bslice, ↓op_mkslice, ↓op_ld1, ↓op_ldn, ↓op_st, ↓op_nilck, ↓nilOk_p, ↓nilOk_f, ↓nilOk_y, ↓op_ibin, ↓op_shift, ↓op_sbin, ↓op_beq, ↓op_nileq, ↓op_ageq, ↓op_ineg, ↓op_bnot, ↓op_i2i, ↓op_s2s, ↓op_s2b, ↓op_b2s, ↓op_mkfn, ↓op_slS, ↓op_slV, ↓op_faddr, ↓op_fld1, ↓op_fldn, ↓op_iaddrA, ↓op_iaddrS, ↓op_idx1, ↓op_idxS, ↓op_ext, ↓op_lenS, ↓op_lenV, ↓op_app, ↓op_cpy, ↓op_min, ↓fill_nil, ↓fill_cons, ↓nat_eq, ↓bnd_n, ↓bnd_s, ↓retE_nil, ↓avs_nil, ↓avs_cons, ↓av_t, ↓av_c1, ↓av_cn, ↓done_ok, ↓done_no, ↓andThen_no, ↓andThen_nx, ↓andThen_ex, ↓andThen_rt, ↓leave_rt, ↓leave_nx, ↓catch_nx, ↓catch_rt, ↓catch_ex, ↓oRec_s, ↓oRec_n, ↓br_t, ↓br_f, ↓T.get_set, eq_self, bSame_self, Nat.sub_zero, Nat.mul_one, lenN_s, lenN_n, same_c, same_a, repA_z, repA_s, putAt_e, putAt_z, putAt_s, appA_eq, condN_eq, bind_ok', asC_c, asC_u, as1_o, asAgg_a, asBool_b, asInt_i, asStr_s, asPtr_p, asSlice_s, asSlice_n, asFn_f, asFn_y, okV_s, okO_s, okB_f, okB_t, nilOk_p, nilOk_f, nilOk_y, done_ok, done_no, andThen_no, andThen_nx, andThen_ex, andThen_rt, leave_rt, leave_nx, catch_nx, catch_rt, catch_ex, oRec_s, oRec_n, br_t, br_f, T.puts_cons, T.puts_nil, List.map_cons, List.map_nil, nil_pp, nil_pq, nil_qp, nil_ss, nil_sq, nil_ff, nil_fq, int_add, int_sub, int_mul, int_eql, int_neq, int_lss, int_leq, int_gtr, int_geq, sh_shl, sh_shr, bSame_t, bSame_f, kSame_self, T.get_lf, Nat.reduceEqDiff, if_true, if_false, reduceIte, reduceCtorEq, Nat.reduceAdd, Nat.reduceMul, Nat.reduceSub, decide_true, decide_false, Int.ofNat_eq_natCast, Nat.zero_add, Nat.add_zero, Nat.zero_mul, Bool.not_true, Bool.not_false, Bool.and_true, Bool.true_and, Bool.and_false, Bool.false_and, Bool.or_true, Bool.true_or, Bool.or_false, Bool.false_or, Option.bind_some, Option.bind_none, List.nil_append, List.cons_append, List.append_nil, pack_0, pack_1, pack_2, is1_one, ext_tup, cells_c, cells_a, List.length_cons, List.length_nil, List.getElem?_cons_zero, List.getElem?_cons_succ, Nat.beq_refl, Nat.reduceBEq, Nat.reduceLeDiff, Nat.reduceBNe, Nat.reduceLT, Option.isSome_none, Option.isSome_some, Option.isNone_none, Option.isNone_some, decide_not, ble_t, ble_f, blt_t, blt_f, wrap_i64, wrap_i32, wrap_u8, wrap_u32, natOf_0, natOf_1, natOf_2, natOf_3, natOf_4, natOf_n, decide_eq_true, decide_eq_false, int_rem, int_quo, str_eql, str_neq, t0, t1, t5, t6, l1, hk]
    rfl
  · simp (maxSteps := 4000000) (disch := omega) only [↓lenN_s, ↓lenN_n, ↓appA_eq, ↓opsN_eq, ↓goN_eq, ↓condN_eq, ↓drawN_eq, ↓drawM_eq, ↓run_seq, ↓run_ops, ↓run_draw, ↓run_cond, ↓run_ret, ↓run_skip, ↓run_exit, ↓run_block, ↓run_range, ↓ops_nil, ↓ops_cons, ↓draw_nil, ↓draw_eff, ↓draw_read, ↓draw_pure, ↓draw_alloc, ↓again_nil, ↓again_cons, ↓bind_ok', ↓bind_no', ↓co_none, ↓co_some, ↓ax_op, ↓ax_call, ↓evs_nil, ↓evs_cons, ↓evps_nil, ↓evps_cons, ↓evC_t, ↓evC_v, ↓ev1_t, ↓ev1_v, ↓ev_t, ↓ev_v, ↓asC_c, ↓asC_u, ↓as1_o, ↓asAgg_a, ↓asBool_b, ↓asInt_i, ↓asStr_s, ↓asPtr_p, ↓asSlice_s, ↓asSlice_n, ↓asFn_f, ↓asFn_y, ↓okV_s, ↓okc_eq, ↓okO_s, ↓okB_f, ↓okB_t, ↓putD_s, ↓putD_n, ↓op_mv, ↓op_pick, ↓op_alloc, ↓op_box, ↓op_build, ↓op_bslice, ↓op_mkslice, ↓op_ld1, ↓op_ldn, ↓op_st, ↓op_nilck, ↓nilOk_p, ↓nilOk_f, ↓nilOk_y, ↓op_ibin, ↓op_shift, ↓op_sbin, ↓op_beq, ↓op_nileq, ↓op_ageq, ↓op_ineg, ↓op_bnot, ↓op_i2i, ↓op_s2s, ↓op_s2b, ↓op_b2s, ↓op_mkfn, ↓op_slS, ↓op_slV, ↓op_faddr, ↓op_fld1, ↓op_fldn, ↓op_iaddrA, ↓op_iaddrS, ↓op_idx1, ↓op_idxS, ↓op_ext, ↓op_lenS, ↓op_lenV, ↓op_app, ↓op_cpy, ↓op_min, ↓fill_nil, ↓fill_cons, ↓nat_eq, ↓bnd_n, ↓bnd_s, ↓retE_nil, ↓avs_nil, ↓avs_cons, ↓av_t, ↓av_c1, ↓av_cn, ↓done_ok, ↓done_no, ↓andThen_no, ↓andThen_nx, ↓andThen_ex, ↓andThen_rt, ↓leave_rt, ↓leave_nx, ↓catch_nx, ↓catch_rt, ↓catch_ex, ↓oRec_s, ↓oRec_n, ↓br_t, ↓br_f, ↓T.get_set, eq_self, bSame_self, Nat.sub_zero, Nat.mul_one, lenN_s, lenN_n, same_c, same_a, repA_z, repA_s, putAt_e, putAt_z, putAt_s, appA_eq, condN_eq, bind_ok', asC_c, asC_u, as1_o, asAgg_a, asBool_b, asInt_i, asStr_s, asPtr_p, asSlice_s, asSlice_n, asFn_f, asFn_y, okV_s, okO_s, okB_f, okB_t, nilOk_p, nilOk_f, nilOk_y, done_ok, done_no, andThen_no, andThen_nx, andThen_ex, andThen_rt, leave_rt, leave_nx, catch_nx, catch_rt, catch_ex, oRec_s, oRec_n, br_t, br_f, T.puts_cons, T.puts_nil, List.map_cons, List.map_nil, nil_pp, nil_pq, nil_qp, nil_ss, nil_sq, nil_ff, nil_fq, int_add, int_sub, int_mul, int_eql, int_neq, int_lss, int_leq, int_gtr, int_geq, sh_shl, sh_shr, bSame_t, bSame_f, kSame_self, T.get_lf, Nat.reduceEqDiff, if_true, if_false, reduceIte, reduceCtorEq, Nat.reduceAdd, Nat.reduceMul, Nat.reduceSub, decide_true, decide_false, Int.ofNat_eq_natCast, Nat.zero_add, Nat.add_zero, Nat.zero_mul, Bool.not_true, Bool.not_false, Bool.and_true, Bool.true_and, Bool.and_false, Bool.false_and, Bool.or_true, Bool.true_or, Bool.or_false, Bool.false_or, Option.bind_some, Option.bind_none, List.nil_append, List.cons_append, List.append_nil, pack_0, pack_1, pack_2, is1_one, ext_tup, cells_c, cells_a, List.length_cons, List.length_nil, List.getElem?_cons_zero, List.getElem?_cons_succ, Nat.beq_refl, Nat.reduceBEq, Nat.reduceLeDiff, Nat.reduceBNe, Nat.reduceLT, Option.isSome_none, Option.isSome_some, Option.isNone_none, Option.isNone_some, decide_not, ble_t, ble_f, blt_t, blt_f, wrap_i64, wrap_i32, wrap_u8, wrap_u32, natOf_0, natOf_1, natOf_2, natOf_3, natOf_4, natOf_n, decide_eq_true, decide_eq_false, int_rem, int_quo, str_eql, str_neq]
theorem f4_end {M : Mem} {a : CV} {tail s : List Nat} {ps : List (List Nat)} {tm : T V} (ht : Tm4 a tail s ps.length tm) (hr : Rd M 1 a ps.length (strs ps)) :
    ∃ tm', (lim Try.prog O).code (.loop c4) none 120 tm [] M = .ex 0 tm' [] M ∧ Tm4 a tail s ps.length tm' := by
  obtain ⟨t0, t1, t5, t6⟩ := ht
  refine ⟨?_, ?_, ?_⟩
  rotate_left
  · rw [loop_step cl4_0_eq]
    unfold cl4_0
    simp (maxSteps := 4000000) (disch := omega) only [↓lenN_s, ↓lenN_n, ↓appA_eq, ↓opsN_eq, ↓goN_eq, ↓condN_eq, ↓drawN_eq, ↓drawM_eq, ↓run_seq, ↓run_ops, ↓run_draw, ↓run_cond, ↓run_ret, ↓run_skip, ↓run_exit, ↓run_block, ↓run_range, ↓ops_nil, ↓ops_cons, ↓draw_nil, ↓draw_eff, ↓draw_read, ↓draw_pure, ↓draw_alloc, ↓again_nil, ↓again_cons, ↓bind_ok', ↓bind_no', ↓co_none, ↓co_some, ↓ax_op, ↓ax_call, ↓evs_nil, ↓evs_cons, ↓evps_nil, ↓evps_cons, ↓evC_t, ↓evC_v, ↓ev1_t, ↓ev1_v, ↓ev_t, ↓ev_v, ↓asC_c, ↓asC_u, ↓as1_o, ↓asAgg_a, ↓asBool_b, ↓asInt_i, ↓asStr_s, ↓asPtr_p, ↓asSlice_s, ↓asSlice_n, ↓asFn_f, ↓asFn_y, ↓okV_s, ↓okc_eq, ↓okO_s, ↓okB_f, ↓okB_t, ↓putD_s, ↓putD_n, ↓op_mv, ↓op_pick, ↓op_alloc, ↓op_box, ↓op_build, ↓op_bslice, ↓op_mkslice, ↓op_ld1, ↓op_ldn, ↓op_st, ↓op_nilck, ↓nilOk_p, ↓nilOk_f, ↓nilOk_y, ↓op_ibin, ↓op_shift, ↓op_sbin, ↓op_beq, ↓op_nileq, ↓op_ageq, ↓op_ineg, ↓op_bnot, ↓op_i2i, ↓op_s2s, ↓op_s2b, ↓op_b2s, ↓op_mkfn, ↓op_slS, ↓op_slV, ↓op_faddr, ↓op_fld1, ↓op_fldn, ↓op_iaddrA, ↓op_iaddrS, ↓op_idx1, ↓op_idxS, ↓op_ext, ↓op_lenS, ↓op_lenV, ↓op_app, ↓op_cpy, ↓op_min, ↓fill_nil, ↓fill_cons, ↓nat_eq, ↓bnd_n, ↓bnd_s, ↓retE_nil, ↓avs_nil, ↓avs_cons, ↓av_t, ↓av_c1, ↓av_cn, ↓done_ok, ↓done_no, ↓andThen_no, ↓andThen_nx, ↓andThen_ex, ↓andThen_rt, ↓leave_rt, ↓leave_nx, ↓catch_nx, ↓catch_rt, ↓catch_ex, ↓oRec_s, ↓oRec_n, ↓br_t, ↓br_f, ↓T.get_set, eq_self, bSame_self, Nat.sub_zero, Nat.mul_one, lenN_s, lenN_n, same_c, same_a, repA_z, repA_s, putAt_e, putAt_z, putAt_s, appA_eq, condN_eq, bind_ok', asC_c, asC_u, as1_o, asAgg_a, asBool_b, asInt_i, asStr_s, asPtr_p, asSlice_s, asSlice_n, asFn_f, asFn_y, okV_s, okO_s, okB_f, okB_t, nilOk_p, nilOk_f, nilOk_y, done_ok, done_no, andThen_no, andThen_nx, andThen_ex, andThen_rt, leave_rt, leave_nx, catch_nx, catch_rt, catch_ex, oRec_s, oRec_n, br_t, br_f, T.puts_cons, T.puts_nil, List.map_cons, List.map_nil, nil_pp, nil_pq, nil_qp, nil_ss, nil_sq, nil_ff, nil_fq, int_add, int_sub, int_mul, int_eql, int_neq, int_lss, int_leq, int_gtr, int_geq, sh_shl, sh_shr, bSame_t, bSame_f, kSame_self, T.get_lf, Nat.reduceEqDiff, if_true, if_false, reduceIte, reduceCtorEq, Nat.reduceAdd, Nat.reduceMul, Nat.reduceSub, decide_true, decide_false, Int.ofNat_eq_natCast, Nat.zero_add, Nat.add_zero, Nat.zero_mul, Bool.not_true, Bool.not_false, Bool.and_true, Bool.true_and, Bool.and_false, Bool.false_and, Bool.or_true, Bool.true_or, Bool.or_false, Bool.false_or, Option.bind_some, Option.bind_none, List.nil_append, List.cons_append, List.append_nil, pack_0, pack_1, pack_2, is1_one, ext_tup, cells_c, cells_a, List.length_cons, List.length_nil, List.getElem?_cons_zero, List.getElem?_cons_succ, Nat.beq_refl, Nat.reduceBEq, Nat.reduceLeDiff, Nat.reduceBNe, Nat.reduceLT, Option.isSome_none, Option.isSome_some, Option.isNone_none, Option.isNone_some, decide_not, ble_t, ble_f, blt_t, blt_f, wrap_i64, wrap_i32, wrap_u8, wrap_u32, natOf_0, natOf_1, natOf_2, natOf_3, natOf_4, natOf_n, decide_eq_true, decide_eq_false, int_rem, int_quo, str_eql, str_neq, t0, t6, hr.lenV]
    rfl
  · refine ⟨?_, ?_, ?_, ?_⟩ <;> simp (maxSteps := 4000000) (disch := omega) only [↓lenN_s, ↓lenN_n, ↓appA_eq, ↓opsN_eq, ↓goN_eq, ↓condN_eq, ↓drawN_eq, ↓drawM_eq, ↓run_seq, ↓run_ops, ↓run_draw, ↓run_cond, ↓run_ret, ↓run_skip, ↓run_exit, ↓run_block, ↓run_range, ↓ops_nil, ↓ops_cons, ↓draw_nil, ↓draw_eff, ↓draw_read, ↓draw_pure, ↓draw_alloc, ↓again_nil, ↓again_cons, ↓bind_ok', ↓bind_no', ↓co_none, ↓co_some, ↓ax_op, ↓ax_call, ↓evs_nil, ↓evs_cons, ↓evps_nil, ↓evps_cons, ↓evC_t, ↓evC_v, ↓ev1_t, ↓ev1_v, ↓ev_t, ↓ev_v, ↓asC_c, ↓asC_u, ↓as1_o, ↓asAgg_a, ↓asBool_b, ↓asInt_i, ↓asStr_s, ↓asPtr_p, ↓asSlice_s, ↓asSlice_n, ↓asFn_f, ↓asFn_y, ↓okV_s, ↓okc_eq, ↓okO_s, ↓okB_f, ↓okB_t, ↓putD_s, ↓putD_n, ↓op_mv, ↓op_pick, ↓op_alloc, ↓op_box, ↓op_build, ↓op_bslice, ↓op_mkslice, ↓op_ld1, ↓op_ldn, ↓op_st, ↓op_nilck, ↓nilOk_p, ↓nilOk_f, ↓nilOk_y, ↓op_ibin, ↓op_shift, ↓op_sbin, ↓op_beq, ↓op_nileq, ↓op_ageq, ↓op_ineg, ↓op_bnot, ↓op_i2i, ↓op_s2s, ↓op_s2b, ↓op_b2s, ↓op_mkfn, ↓op_slS, ↓op_slV, ↓op_faddr, ↓op_fld1, ↓op_fldn, ↓op_iaddrA, ↓op_iaddrS, ↓op_idx1, ↓op_idxS, ↓op_ext, ↓op_lenS, ↓op_lenV, ↓op_app, ↓op_cpy, ↓op_min, ↓fill_nil, ↓fill_cons, ↓nat_eq, ↓bnd_n, ↓bnd_s, ↓retE_nil, ↓avs_nil, ↓avs_cons, ↓av_t, ↓av_c1, ↓av_cn, ↓done_ok, ↓done_no, ↓andThen_no, ↓andThen_nx, ↓andThen_ex, ↓andThen_rt, ↓leave_rt, ↓leave_nx, ↓catch_nx, ↓catch_rt, ↓catch_ex, ↓oRec_s, ↓oRec_n, ↓br_t, ↓br_f, ↓T.get_set, eq_self, bSame_self, Nat.sub_zero, Nat.mul_one, lenN_s, lenN_n, same_c, same_a, repA_z, repA_s, putAt_e, putAt_z, putAt_s, appA_eq, condN_eq, bind_ok', asC_c, asC_u, as1_o, asAgg_a, asBool_b, asInt_i, asStr_s, asPtr_p, asSlice_s, asSlice_n, asFn_f, asFn_y, okV_s, okO_s, okB_f, okB_t, nilOk_p, nilOk_f, nilOk_y, done_ok, done_no, andThen_no, andThen_nx, andThen_ex, andThen_rt, leave_rt, leave_nx, catch_nx, catch_rt, catch_ex, oRec_s, oRec_n, br_t, br_f, T.puts_cons, T.puts_nil, List.map_cons, List.map_nil, nil_pp, nil_pq, nil_qp, nil_ss, nil_sq, nil_ff, nil_fq, int_add, int_sub, int_mul, int_eql, int_neq, int_lss, int_leq, int_gtr, int_geq, sh_shl, sh_shr, bSame_t, bSame_f, kSame_self, T.get_lf, Nat.reduceEqDiff, if_true, if_false, reduceIte, reduceCtorEq, Nat.reduceAdd, Nat.reduceMul, Nat.reduceSub, decide_true, decide_false, Int.ofNat_eq_natCast, Nat.zero_add, Nat.add_zero, Nat.zero_mul, Bool.not_true, Bool.not_false, Bool.and_true, Bool.true_and, Bool.and_false, Bool.false_and, Bool.or_true, Bool.true_or, Bool.or_false, Bool.false_or, Option.bind_some, Option.bind_none, List.nil_append, List.cons_append, List.append_nil, pack_0, pack_1, pack_2, is1_one, ext_tup, cells_c, cells_a, List.length_cons, List.length_nil, List.getElem?_cons_zero, List.getElem?_cons_succ, Nat.beq_refl, Nat.reduceBEq, Nat.reduceLeDiff, Nat.reduceBNe, Nat.reduceLT, Option.isSome_none, Option.isSome_some, Option.isNone_none, Option.isNone_some, decide_not, ble_t, ble_f, blt_t, blt_f, wrap_i64, wrap_i32, wrap_u8, wrap_u32, natOf_0, natOf_1, natOf_2, natOf_3, natOf_4, natOf_n, decide_eq_true, decide_eq_false, int_rem, int_quo, str_eql, str_neq, t0, t1, t5, t6]
end Go.Proofs.Ytelmphlmhnipfaa
set_option linter.unusedSimpArgs false
set_option linter.unusedVariables false
namespace Go.Proofs.Ytelmphlmhnipfaa
open Go.Ab
variable {O : FuncId → Bool}

theorem f4_loop (ho : O 12 = false) (hk : ∀ M, (lim Try.prog O).call 7 [] M = .ok (.one (.c (.bool true))) M) {M0 : Mem} {a : CV} {tail : List Nat} {ps : List (List Nat)} (har : ArS M0 a ps) (hps : ps.length ≤ 50) :
    ∀ (d i : Nat) (tm : T V) (M : Mem), i + d = ps.length → M.Wf → M0.next ≤ M.next → (∀ i, i < M0.next → M.b.get i = M0.b.get i) → Tm4 a tail (cat (ps.take i)) i tm → (∀ p ∈ ps.take i, p.length ≤ 300) →
      (∃ tm' M', (lim Try.prog O).code (.loop c4) none 120 tm [] M = .ex 0 tm' [] M' ∧ Tm4 a tail (cat ps) ps.length tm' ∧ M'.Wf ∧ M0.next ≤ M'.next ∧ (∀ i, i < M0.next → M'.b.get i = M0.b.get i) ∧ ∀ p ∈ ps, p.length ≤ 300) ∨
      (∃ tm' M', (lim Try.prog O).code (.loop c4) none 120 tm [] M = .rt tm' [] M' ∧ tm'.get 4 = some (.one (.c (.bool true)))) := by
  intro d
  induction d with
  | zero =>
    intro i tm M hi hw hn hold ht hsm
    have hii : i = ps.length := by omega
    subst hii
    rw [List.take_length] at ht hsm
    obtain ⟨tm', e, ht'⟩ := f4_end (O := O) ht (har.rd M hold)
    exact .inl ⟨tm', M, e, ht', hw, hn, hold, hsm⟩
  | succ d ih =>
    intro i tm M hi hw hn hold ht hsm
    have hlt : i < ps.length := by omega
    by_cases hp : ps[i].length ≤ 300
    · have hcl := cat_len (ps.take i) 300 hsm
      have hsl : (cat (ps.take i)).length ≤ 100000 := by
        have : (ps.take i).length ≤ 50 := by rw [List.length_take]; omega
        have : (ps.take i).length * (300 + 4) ≤ 50 * 304 := Nat.mul_le_mul_right _ this
        omega
      obtain ⟨tm', M', e, ht', wf, nx, old⟩ := f4_step (O := O) ho hw ht (fun M' h => har.rd M' (fun j hj => (h j (by omega)).trans (hold j hj))) hlt hps hp hsl
      have htk : ps.take (i + 1) = ps.take i ++ [ps[i]] := by rw [List.take_add_one, List.getElem?_eq_getElem hlt]; rfl
      rw [e]
      refine ih (i + 1) tm' M' (by omega) wf (by omega) (fun j hj => (old j (by omega)).trans (hold j hj)) ?_ ?_
      · rw [htk, cat_snoc]; exact ht'
      · rw [htk]; intro q hq
        rw [List.mem_append] at hq
        rcases hq with hq | hq
        · exact hsm q hq
        · simp at hq; subst hq; exact hp
    · obtain ⟨tm', e, h4⟩ := f4_big (O := O) hk ht (har.rd M hold) hlt hp
      exact .inr ⟨tm', M, e, h4⟩

theorem tell_evs {most : Int} (ps : List (List Nat)) (es : List (List Nat × Bool)) : ∀ acc : List (List Nat), ((acc.length + ps.length : Nat) : Int) < most → tell most acc (ps.map (·, true) ++ es) = tell most (acc ++ ps) es := by
  induction ps with
  | nil => intro acc _; simp
  | cons p ps ih =>
    intro acc h
    simp only [List.length_cons] at h
    rw [List.map_cons, List.cons_append, tell, if_neg (by omega), ih (acc ++ [p]) (by rw [List.length_append, List.length_cons, List.length_nil]; omega), List.append_assoc]; rfl

theorem back_run {M : Mem} (hw : M.Wf) {a : CV} {ps : List (List Nat)} (har : ArS M a ps) (hpl : ps.length ≤ maxLen) {tail : List Nat} (hb : Byt tail) :
    ∃ M', (lim Try.prog (only 7)).call 4 [.c a, .c (.str tail)] M = .ok (.one (.c (.bool true))) M' := by
  have hk := fun M => known_call (O := only 7) body7 rfl M
  have hla := (har.rd M (fun _ _ => rfl)).lenV (M' := M)
  rw [maxLen_eq] at hpl
  by_cases hg : 50 < ps.length ∨ 300 < tail.length
  · refine ⟨M, ?_⟩
    rw [call_eq body4 rfl _ (by simp)]
    unfold cc4
    by_cases h1 : 50 < ps.length
    · simp (maxSteps := 4000000) (disch := omega) only [↓lenN_s, ↓lenN_n, ↓appA_eq, ↓opsN_eq, ↓goN_eq, ↓condN_eq, ↓drawN_eq, ↓drawM_eq, ↓run_seq, ↓run_ops, ↓run_draw, ↓run_cond, ↓run_ret, ↓run_skip, ↓run_exit, ↓run_block, ↓run_range, ↓ops_nil, ↓ops_cons, ↓draw_nil, ↓draw_eff, ↓draw_read, ↓draw_pure, ↓draw_alloc, ↓again_nil, ↓again_cons, ↓bind_ok', ↓bind_no', ↓co_none, ↓co_some, ↓ax_op, ↓ax_call, ↓evs_nil, ↓evs_cons, ↓evps_nil, ↓evps_cons, ↓evC_t, ↓evC_v, ↓ev1_t, ↓ev1_v, ↓ev_t, ↓ev_v, ↓asC_c, ↓asC_u, ↓as1_o, ↓asAgg_a, ↓asBool_b, ↓asInt_i, ↓asStr_s, ↓asPtr_p, ↓asSlice_s, ↓asSlice_n, ↓asFn_f, ↓asFn_y, ↓okV_s, ↓okc_eq, ↓okO_s, ↓okB_f, ↓okB_t, ↓putD_s, ↓putD_n, ↓op_mv, ↓op_pick, ↓op_alloc, ↓op_box, ↓op_build, ↓op_bslice, ↓op_mkslice, ↓op_ld1, ↓op_ldn, ↓op_st, ↓op_nilck, ↓nilOk_p, ↓nilOk_f, ↓nilOk_y, ↓op_ibin, ↓op_shift, ↓op_sbin, ↓op_beq, ↓op_nileq, ↓op_ageq, ↓op_ineg, ↓op_bnot, ↓op_i2i, ↓op_s2s, ↓op_s2b, ↓op_b2s, ↓op_mkfn, ↓op_slS, ↓op_slV, ↓op_faddr, ↓op_fld1, ↓op_fldn, ↓op_iaddrA, ↓op_iaddrS, ↓op_idx1, ↓op_idxS, ↓op_ext, ↓op_lenS, ↓op_lenV, ↓op_app, ↓op_cpy, ↓op_min, ↓fill_nil, ↓fill_cons, ↓nat_eq, ↓bnd_n, ↓bnd_s, ↓retE_nil, ↓avs_nil, ↓avs_cons, ↓av_t, ↓av_c1, ↓av_cn, ↓done_ok, ↓done_no, ↓andThen_no, ↓andThen_nx, ↓andThen_ex, ↓andThen_rt, ↓leave_rt, ↓leave_nx, ↓catch_nx, ↓catch_rt, ↓catch_ex, ↓oRec_s, ↓oRec_n, ↓br_t, ↓br_f, ↓T.get_set, eq_self, bSame_self, Nat.sub_zero, Nat.mul_one, lenN_s, lenN_n, same_c, same_a, repA_z, repA_s, putAt_e, putAt_z, putAt_s, appA_eq, condN_eq, bind_ok', asC_c, asC_u, as1_o, asAgg_a, asBool_b, asInt_i, asStr_s, asPtr_p, asSlice_s, asSlice_n, asFn_f, asFn_y, okV_s, okO_s, okB_f, okB_t, nilOk_p, nilOk_f, nilOk_y, done_ok, done_no, andThen_no, andThen_nx, andThen_ex, andThen_rt, leave_rt, leave_nx, catch_nx, catch_rt, catch_ex, oRec_s, oRec_n, br_t, br_f, T.puts_cons, T.puts_nil, List.map_cons, List.map_nil, nil_pp, nil_pq, nil_qp, nil_ss, nil_sq, nil_ff, nil_fq, int_add, int_sub, int_mul, int_eql, int_neq, int_lss, int_leq, int_gtr, int_geq, sh_shl, sh_shr, bSame_t, bSame_f, kSame_self, T.get_lf, Nat.reduceEqDiff, if_true, if_false, reduceIte, reduceCtorEq, Nat.reduceAdd, Nat.reduceMul, Nat.reduceSub, decide_true, decide_false, Int.ofNat_eq_natCast, Nat.zero_add, Nat.add_zero, Nat.zero_mul, Bool.not_true, Bool.not_false, Bool.and_true, Bool.true_and, Bool.and_false, Bool.false_and, Bool.or_true, Bool.true_or, Bool.or_false, Bool.false_or, Option.bind_some, Option.bind_none, List.nil_append, List.cons_append, List.append_nil, pack_0, pack_1, pack_2, is1_one, ext_tup, cells_c, cells_a, List.length_cons, List.length_nil, List.getElem?_cons_zero, List.getElem?_cons_succ, Nat.beq_refl, Nat.reduceBEq, Nat.reduceLeDiff, Nat.reduceBNe, Nat.reduceLT, Option.isSome_none, Option.isSome_some, Option.isNone_none, Option.isNone_some, decide_not, ble_t, ble_f, blt_t, blt_f, wrap_i64, wrap_i32, wrap_u8, wrap_u32, natOf_0, natOf_1, natOf_2, natOf_3, natOf_4, natOf_n, decide_eq_true, decide_eq_false, int_rem, int_quo, str_eql, str_neq, hk, hla]
    · have h2 : 300 < tail.length := by omega
      simp (maxSteps := 4000000) (disch := omega) only [↓lenN_s, ↓lenN_n, ↓appA_eq, ↓opsN_eq, ↓goN_eq, ↓condN_eq, ↓drawN_eq, ↓drawM_eq, ↓run_seq, ↓run_ops, ↓run_draw, ↓run_cond, ↓run_ret, ↓run_skip, ↓run_exit, ↓run_block, ↓run_range, ↓ops_nil, ↓ops_cons, ↓draw_nil, ↓draw_eff, ↓draw_read, ↓draw_pure, ↓draw_alloc, ↓again_nil, ↓again_cons, ↓bind_ok', ↓bind_no', ↓co_none, ↓co_some, ↓ax_op, ↓ax_call, ↓evs_nil, ↓evs_cons, ↓evps_nil, ↓evps_cons, ↓evC_t, ↓evC_v, ↓ev1_t, ↓ev1_v, ↓ev_t, ↓ev_v, ↓asC_c, ↓asC_u, ↓as1_o, ↓asAgg_a, ↓asBool_b, ↓asInt_i, ↓asStr_s, ↓asPtr_p, ↓asSlice_s, ↓asSlice_n, ↓asFn_f, ↓asFn_y, ↓okV_s, ↓okc_eq, ↓okO_s, ↓okB_f, ↓okB_t, ↓putD_s, ↓putD_n, ↓op_mv, ↓op_pick, ↓op_alloc, ↓op_box, ↓op_build, ↓op_bslice, ↓op_mkslice, ↓op_ld1, ↓op_ldn, ↓op_st, ↓op_nilck, ↓nilOk_p, ↓nilOk_f, ↓nilOk_y, ↓op_ibin, ↓op_shift, ↓op_sbin, ↓op_beq, ↓op_nileq, ↓op_ageq, ↓op_ineg, ↓op_bnot, ↓op_i2i, ↓op_s2s, ↓op_s2b, ↓op_b2s, ↓op_mkfn, ↓op_slS, ↓op_slV, ↓op_faddr, ↓op_fld1, ↓op_fldn, ↓op_iaddrA, ↓op_iaddrS, ↓op_idx1, ↓op_idxS, ↓op_ext, ↓op_lenS, ↓op_lenV, ↓op_app, ↓op_cpy, ↓op_min, ↓fill_nil, ↓fill_cons, ↓nat_eq, ↓bnd_n, ↓bnd_s, ↓retE_nil, ↓avs_nil, ↓avs_cons, ↓av_t, ↓av_c1, ↓av_cn, ↓done_ok, ↓done_no, ↓andThen_no, ↓andThen_nx, ↓andThen_ex, ↓andThen_rt, ↓leave_rt, ↓leave_nx, ↓catch_nx, ↓catch_rt, ↓catch_ex, ↓oRec_s, ↓oRec_n, ↓br_t, ↓br_f, ↓T.get_set, eq_self, bSame_self, Nat.sub_zero, Nat.mul_one, lenN_s, lenN_n, same_c, same_a, repA_z, repA_s, putAt_e, putAt_z, putAt_s, appA_eq, condN_eq, bind_ok', asC_c, asC_u, as1_o, asAgg_a, asBool_b, asInt_i, asStr_s, asPtr_p, asSlice_s, asSlice_n, asFn_f, asFn_y, okV_s, okO_s, okB_f, okB_t, nilOk_p, nilOk_f, nilOk_y, done_ok, done_no, andThen_no, andThen_nx, andThen_ex, andThen_rt, leave_rt, leave_nx, catch_nx, catch_rt, catch_ex, oRec_s, oRec_n, br_t, br_f, T.puts_cons, T.puts_nil, List.map_cons, List.map_nil, nil_pp, nil_pq, nil_qp, nil_ss, nil_sq, nil_ff, nil_fq, int_add, int_sub, int_mul, int_eql, int_neq, int_lss, int_leq, int_gtr, int_geq, sh_shl, sh_shr, bSame_t, bSame_f, kSame_self, T.get_lf, Nat.reduceEqDiff, if_true, if_false, reduceIte, reduceCtorEq, Nat.reduceAdd, Nat.reduceMul, Nat.reduceSub, decide_true, decide_false, Int.ofNat_eq_natCast, Nat.zero_add, Nat.add_zero, Nat.zero_mul, Bool.not_true, Bool.not_false, Bool.and_true, Bool.true_and, Bool.and_false, Bool.false_and, Bool.or_true, Bool.true_or, Bool.or_false, Bool.false_or, Option.bind_some, Option.bind_none, List.nil_append, List.cons_append, List.append_nil, pack_0, pack_1, pack_2, is1_one, ext_tup, cells_c, cells_a, List.length_cons, List.length_nil, List.getElem?_cons_zero, List.getElem?_cons_succ, Nat.beq_refl, Nat.reduceBEq, Nat.reduceLeDiff, Nat.reduceBNe, Nat.reduceLT, Option.isSome_none, Option.isSome_some, Option.isNone_none, Option.isNone_some, decide_not, ble_t, ble_f, blt_t, blt_f, wrap_i64, wrap_i32, wrap_u8, wrap_u32, natOf_0, natOf_1, natOf_2, natOf_3, natOf_4, natOf_n, decide_eq_true, decide_eq_false, int_rem, int_quo, str_eql, str_neq, hk, hla]
  · have hps : ps.length ≤ 50 := by omega
    have htl : tail.length ≤ 300 := by omega
    generalize htm : (((((((((T.lf.set 0 (V.one (V1.c a))).set 1 (V.one (V1.c (CV.str tail)))).set 4 (V.one (V1.c (CV.bool false)))).set 14 (V.one (V1.c a))).set 15 (V.one (V1.c (CV.int .i64 (ps.length : Int))))).set 16 (V.one (V1.c (CV.bool false)))).set 17 (V.one (V1.c (CV.bool false)))).set 18 (V.one (V1.c (CV.str tail)))).set 19 (V.one (V1.c (CV.int .i64 (tail.length : Int)))) |>.set 20 (V.one (V1.c (CV.bool false))) |>.set 21 (V.one (V1.c (CV.bool false))) |>.set 5 (V.one (V1.c (CV.str []))) |>.set 6 (V.one (V1.c (CV.int .i64 0)))) = tm
    have ht : Tm4 a tail (cat (ps.take 0)) 0 tm := by
      subst htm
      refine ⟨?_, ?_, ?_, ?_⟩
      · simp (maxSteps := 4000000) (disch := omega) only [↓lenN_s, ↓lenN_n, ↓appA_eq, ↓opsN_eq, ↓goN_eq, ↓condN_eq, ↓drawN_eq, ↓drawM_eq, ↓run_seq, ↓run_ops, ↓run_draw, ↓run_cond, ↓run_ret, ↓run_skip, ↓run_exit, ↓run_block, ↓run_range, ↓ops_nil, ↓ops_cons, ↓draw_nil, ↓draw_eff, ↓draw_read, ↓draw_pure, ↓draw_alloc, ↓again_nil, ↓again_cons, ↓bind_ok', ↓bind_no', ↓co_none, ↓co_some, ↓ax_op, ↓ax_call, ↓evs_nil, ↓evs_cons, ↓evps_nil, ↓evps_cons, ↓evC_t, ↓evC_v, ↓ev1_t, ↓ev1_v, ↓ev_t, ↓ev_v, ↓asC_c, ↓asC_u, ↓as1_o, ↓asAgg_a, ↓asBool_b, ↓asInt_i, ↓asStr_s, ↓asPtr_p, ↓asSlice_s, ↓asSlice_n, ↓asFn_f, ↓asFn_y, ↓okV_s, ↓okc_eq, ↓okO_s, ↓okB_f, ↓okB_t, ↓putD_s, ↓putD_n, ↓op_mv, ↓op_pick, ↓op_alloc, ↓op_box, ↓op_build, ↓op_bslice, ↓op_mkslice, ↓op_ld1, ↓op_ldn, ↓op_st, ↓op_nilck, ↓nilOk_p, ↓nilOk_f, ↓nilOk_y, ↓op_ibin, ↓op_shift, ↓op_sbin, ↓op_beq, ↓op_nileq, ↓op_ageq, ↓op_ineg, ↓op_bnot, ↓op_i2i, ↓op_s2s, ↓op_s2b, ↓op_b2s, ↓op_mkfn, ↓op_slS, ↓op_slV, ↓op_faddr, ↓op_fld1, ↓op_fldn, ↓op_iaddrA, ↓op_iaddrS, ↓op_idx1, ↓op_idxS, ↓op_ext, ↓op_lenS, ↓op_lenV, ↓op_app, ↓op_cpy, ↓op_min, ↓fill_nil, ↓fill_cons, ↓nat_eq, ↓bnd_n, ↓bnd_s, ↓retE_nil, ↓avs_nil, ↓avs_cons, ↓av_t, ↓av_c1, ↓av_cn, ↓done_ok, ↓done_no, ↓andThen_no, ↓andThen_nx, ↓andThen_ex, ↓andThen_rt, ↓leave_rt, ↓leave_nx, ↓catch_nx, ↓catch_rt, ↓catch_ex, ↓oRec_s, ↓oRec_n, ↓br_t, ↓br_f, ↓T.get_set, eq_self, bSame_self, Nat.sub_zero, Nat.mul_one, lenN_s, lenN_n, same_c, same_a, repA_z, repA_s, putAt_e, putAt_z, putAt_s, appA_eq, condN_eq, bind_ok', asC_c, asC_u, as1_o, asAgg_a, asBool_b, asInt_i, asStr_s, asPtr_p, asSlice_s, asSlice_n, asFn_f, asFn_y, okV_s, okO_s, okB_f, okB_t, nilOk_p, nilOk_f, nilOk_y, done_ok, done_no, andThen_no, andThen_nx, andThen_ex, andThen_rt, leave_rt, leave_nx, catch_nx, catch_rt, catch_ex, oRec_s, oRec_n, br_t, br_f, T.puts_cons, T.puts_nil, List.map_cons, List.map_nil, nil_pp, nil_pq, nil_qp, nil_ss, nil_sq, nil_ff, nil_fq, int_add, int_sub, int_mul, int_eql, int_neq, int_lss, int_leq, int_gtr, int_geq, sh_shl, sh_shr, bSame_t, bSame_f, kSame_self, T.get_lf, Nat.reduceEqDiff, if_true, if_false, reduceIte, reduceCtorEq, Nat.reduceAdd, Nat.reduceMul, Nat.reduceSub, decide_true, decide_false, Int.ofNat_eq_natCast, Nat.zero_add, Nat.add_zero, Nat.zero_mul, Bool.not_true, Bool.not_false, Bool.and_true, Bool.true_and, Bool.and_false, Bool.false_and, Bool.or_true, Bool.true_or, Bool.or_false, Bool.false_or, Option.bind_some, Option.bind_none, List.nil_append, List.cons_append, List.append_nil, pack_0, pack_1, pack_2, is1_one, ext_tup, cells_c, cells_a, List.length_cons, List.length_nil, List.getElem?_cons_zero, List.getElem?_cons_succ, Nat.beq_refl, Nat.reduceBEq, Nat.reduceLeDiff, Nat.reduceBNe, Nat.reduceLT, Option.isSome_none, Option.isSome_some, Option.isNone_none, Option.isNone_some, decide_not, ble_t, ble_f, blt_t, blt_f, wrap_i64, wrap_i32, wrap_u8, wrap_u32, natOf_0, natOf_1, natOf_2, natOf_3, natOf_4, natOf_n, decide_eq_true, decide_eq_false, int_rem, int_quo, str_eql, str_neq]
      · simp (maxSteps := 4000000) (disch := omega) only [↓lenN_s, ↓lenN_n, ↓appA_eq, ↓opsN_eq, ↓goN_eq, ↓condN_eq, ↓drawN_eq, ↓drawM_eq, ↓run_seq, ↓run_ops, ↓run_draw, ↓run_cond, ↓run_ret, ↓run_skip, ↓run_exit, ↓run_block, ↓run_range, ↓ops_nil, ↓ops_cons, ↓draw_nil, ↓draw_eff, ↓draw_read, ↓draw_pure, ↓draw_alloc, ↓again_nil, ↓again_cons, ↓bind_ok', ↓bind_no', ↓co_none, ↓co_some, ↓ax_op, ↓ax_call, ↓evs_nil, ↓evs_cons, ↓evps_nil, ↓evps_cons, ↓evC_t, ↓evC_v, ↓ev1_t, ↓ev1_v, ↓ev_t, ↓ev_v, ↓asC_c, ↓asC_u, ↓as1_o, ↓asAgg_a, ↓asBool_b, ↓asInt_i, ↓asStr_s, ↓asPtr_p, ↓asSlice_s, ↓asSlice_n, ↓asFn_f, ↓asFn_y, ↓okV_s, ↓okc_eq, ↓okO_s, ↓okB_f, ↓okB_t, ↓putD_s, ↓putD_n, ↓op_mv, ↓op_pick, ↓op_alloc, ↓op_box, ↓op_build, ↓op_bslice, ↓op_mkslice, ↓op_ld1, ↓op_ldn, ↓op_st, ↓op_nilck, ↓nilOk_p, ↓nilOk_f, ↓nilOk_y, ↓op_ibin, ↓op_shift, ↓op_sbin, ↓op_beq, ↓op_nileq, ↓op_ageq, ↓op_ineg, ↓op_bnot, ↓op_i2i, ↓op_s2s, ↓op_s2b, ↓op_b2s, ↓op_mkfn, ↓op_slS, ↓op_slV, ↓op_faddr, ↓op_fld1, ↓op_fldn, ↓op_iaddrA, ↓op_iaddrS, ↓op_idx1, ↓op_idxS, ↓op_ext, ↓op_lenS, ↓op_lenV, ↓op_app, ↓op_cpy, ↓op_min, ↓fill_nil, ↓fill_cons, ↓nat_eq, ↓bnd_n, ↓bnd_s, ↓retE_nil, ↓avs_nil, ↓avs_cons, ↓av_t, ↓av_c1, ↓av_cn, ↓done_ok, ↓done_no, ↓andThen_no, ↓andThen_nx, ↓andThen_ex, ↓andThen_rt, ↓leave_rt, ↓leave_nx, ↓catch_nx, ↓catch_rt, ↓catch_ex, ↓oRec_s, ↓oRec_n, ↓br_t, ↓br_f, ↓T.get_set, eq_self, bSame_self, Nat.sub_zero, Nat.mul_one, lenN_s, lenN_n, same_c, same_a, repA_z, repA_s, putAt_e, putAt_z, putAt_s, appA_eq, condN_eq, bind_ok', asC_c, asC_u, as1_o, asAgg_a, asBool_b, asInt_i, asStr_s, asPtr_p, asSlice_s, asSlice_n, asFn_f, asFn_y, okV_s, okO_s, okB_f, okB_t, nilOk_p, nilOk_f, nilOk_y, done_ok, done_no, andThen_no, andThen_nx, andThen_ex, andThen_rt, leave_rt, leave_nx, catch_nx, catch_rt, catch_ex, oRec_s, oRec_n, br_t, br_f, T.puts_cons, T.puts_nil, List.map_cons, List.map_nil, nil_pp, nil_pq, nil_qp, nil_ss, nil_sq, nil_ff, nil_fq, int_add, int_sub, int_mul, int_eql, int_neq, int_lss, int_leq, int_gtr, int_geq, sh_shl, sh_shr, bSame_t, bSame_f, kSame_self, T.get_lf, Nat.reduceEqDiff, if_true, if_false, reduceIte, reduceCtorEq, Nat.reduceAdd, Nat.reduceMul, Nat.reduceSub, decide_true, decide_false, Int.ofNat_eq_natCast, Nat.zero_add, Nat.add_zero, Nat.zero_mul, Bool.not_true, Bool.not_false, Bool.and_true, Bool.true_and, Bool.and_false, Bool.false_and, Bool.or_true, Bool.true_or, Bool.or_false, Bool.false_or, Option.bind_some, Option.bind_none, List.nil_append, List.cons_append, List.append_nil, pack_0, pack_1, pack_2, is1_one, ext_tup, cells_c, cells_a, List.length_cons, List.length_nil, List.getElem?_cons_zero, List.getElem?_cons_succ, Nat.beq_refl, Nat.reduceBEq, Nat.reduceLeDiff, Nat.reduceBNe, Nat.reduceLT, Option.isSome_none, Option.isSome_some, Option.isNone_none, Option.isNone_some, decide_not, ble_t, ble_f, blt_t, blt_f, wrap_i64, wrap_i32, wrap_u8, wrap_u32, natOf_0, natOf_1, natOf_2, natOf_3, natOf_4, natOf_n, decide_eq_true, decide_eq_false, int_rem, int_quo, str_eql, str_neq]
      · simp (maxSteps := 4000000) (disch := omega) only [↓lenN_s, ↓lenN_n, ↓appA_eq, ↓opsN_eq, ↓goN_eq, ↓condN_eq, ↓drawN_eq, ↓drawM_eq, ↓run_seq, ↓run_ops, ↓run_draw, ↓run_cond, ↓run_ret, ↓run_skip, ↓run_exit, ↓run_block, ↓run_range, ↓ops_nil, ↓ops_cons, ↓draw_nil, ↓draw_eff, ↓draw_read, ↓draw_pure, ↓draw_alloc, ↓again_nil, ↓again_cons, ↓bind_ok', ↓bind_no', ↓co_none, ↓co_some, ↓ax_op, ↓ax_call, ↓evs_nil, ↓evs_cons, ↓evps_nil, ↓evps_cons, ↓evC_t, ↓evC_v, ↓ev1_t, ↓ev1_v, ↓ev_t, ↓ev_v, ↓asC_c, ↓asC_u, ↓as1_o, ↓asAgg_a, ↓asBool_b, ↓asInt_i, ↓asStr_s, ↓asPtr_p, ↓asSlice_s, ↓asSlice_n, ↓asFn_f, ↓asFn_y, ↓okV_s, ↓okc_eq, ↓okO_s, ↓okB_f, ↓okB_t, ↓putD_s, ↓putD_n, ↓op_mv, ↓op_pick, ↓op_alloc, ↓op_box, ↓op_build, ↓op_bslice, ↓op_mkslice, ↓op_ld1, ↓op_ldn, ↓op_st, ↓op_nilck, ↓nilOk_p, ↓nilOk_f, ↓nilOk_y, ↓op_ibin, ↓op_shift, ↓op_sbin, ↓op_beq, ↓op_nileq, ↓op_ageq, ↓op_ineg, ↓op_bnot, ↓op_i2i, ↓op_s2s, ↓op_s2b, ↓op_b2s, ↓op_mkfn, ↓op_slS, ↓op_slV, ↓op_faddr, ↓op_fld1, ↓op_fldn, ↓op_iaddrA, ↓op_iaddrS, ↓op_idx1, ↓op_idxS, ↓op_ext, ↓op_lenS, ↓op_lenV, ↓op_app, ↓op_cpy, ↓op_min, ↓fill_nil, ↓fill_cons, ↓nat_eq, ↓bnd_n, ↓bnd_s, ↓retE_nil, ↓avs_nil, ↓avs_cons, ↓av_t, ↓av_c1, ↓av_cn, ↓done_ok, ↓done_no, ↓andThen_no, ↓andThen_nx, ↓andThen_ex, ↓andThen_rt, ↓leave_rt, ↓leave_nx, ↓catch_nx, ↓catch_rt, ↓catch_ex, ↓oRec_s, ↓oRec_n, ↓br_t, ↓br_f, ↓T.get_set, eq_self, bSame_self, Nat.sub_zero, Nat.mul_one, lenN_s, lenN_n, same_c, same_a, repA_z, repA_s, putAt_e, putAt_z, putAt_s, appA_eq, condN_eq, bind_ok', asC_c, asC_u, as1_o, asAgg_a, asBool_b, asInt_i, asStr_s, asPtr_p, asSlice_s, asSlice_n, asFn_f, asFn_y, okV_s, okO_s, okB_f, okB_t, nilOk_p, nilOk_f, nilOk_y, done_ok, done_no, andThen_no, andThen_nx, andThen_ex, andThen_rt, leave_rt, leave_nx, catch_nx, catch_rt, catch_ex, oRec_s, oRec_n, br_t, br_f, T.puts_cons, T.puts_nil, List.map_cons, List.map_nil, nil_pp, nil_pq, nil_qp, nil_ss, nil_sq, nil_ff, nil_fq, int_add, int_sub, int_mul, int_eql, int_neq, int_lss, int_leq, int_gtr, int_geq, sh_shl, sh_shr, bSame_t, bSame_f, kSame_self, T.get_lf, Nat.reduceEqDiff, if_true, if_false, reduceIte, reduceCtorEq, Nat.reduceAdd, Nat.reduceMul, Nat.reduceSub, decide_true, decide_false, Int.ofNat_eq_natCast, Nat.zero_add, Nat.add_zero, Nat.zero_mul, Bool.not_true, Bool.not_false, Bool.and_true, Bool.true_and, Bool.and_false, Bool.false_and, Bool.or_true, Bool.true_or, Bool.or_false, Bool.false_or, Option.bind_some, Option.bind_none, List.nil_append, List.cons_append, List.append_nil, pack_0, pack_1, pack_2, is1_one, ext_tup, cells_c, cells_a, List.length_cons, List.length_nil, List.getElem?_cons_zero, List.getElem?_cons_succ, Nat.beq_refl, Nat.reduceBEq, Nat.reduceLeDiff, Nat.reduceBNe, Nat.reduceLT, Option.isSome_none, Option.isSome_some, Option.isNone_none, Option.isNone_some, decide_not, ble_t, ble_f, blt_t, blt_f, wrap_i64, wrap_i32, wrap_u8, wrap_u32, natOf_0, natOf_1, natOf_2, natOf_3, natOf_4, natOf_n, decide_eq_true, decide_eq_false, int_rem, int_quo, str_eql, str_neq]; rfl
      · simp (maxSteps := 4000000) (disch := omega) only [↓lenN_s, ↓lenN_n, ↓appA_eq, ↓opsN_eq, ↓goN_eq, ↓condN_eq, ↓drawN_eq, ↓drawM_eq, ↓run_seq, ↓run_ops, ↓run_draw, ↓run_cond, ↓run_ret, ↓run_skip, ↓run_exit, ↓run_block, ↓run_range, ↓ops_nil, ↓ops_cons, ↓draw_nil, ↓draw_eff, ↓draw_read, ↓draw_pure, ↓draw_alloc, ↓again_nil, ↓again_cons, ↓bind_ok', ↓bind_no', ↓co_none, ↓co_some, ↓ax_op, ↓ax_call, ↓evs_nil, ↓evs_cons, ↓evps_nil, ↓evps_cons, ↓evC_t, ↓evC_v, ↓ev1_t, ↓ev1_v, ↓ev_t, ↓ev_v, ↓asC_c, ↓asC_u, ↓as1_o, ↓asAgg_a, ↓asBool_b, ↓asInt_i, ↓asStr_s, ↓asPtr_p, ↓asSlice_s, ↓asSlice_n, ↓asFn_f, ↓asFn_y, ↓okV_s, ↓okc_eq, ↓okO_s, ↓okB_f, ↓okB_t, ↓putD_s, ↓putD_n, ↓op_mv, ↓op_pick, ↓op_alloc, ↓op_box, ↓op_build, ↓op_bslice, ↓op_mkslice, ↓op_ld1, ↓op_ldn, ↓op_st, ↓op_nilck, ↓nilOk_p, ↓nilOk_f, ↓nilOk_y, ↓op_ibin, ↓op_shift, ↓op_sbin, ↓op_beq, ↓op_nileq, ↓op_ageq, ↓op_ineg, ↓op_bnot, ↓op_i2i, ↓op_s2s, ↓op_s2b, ↓op_b2s, ↓op_mkfn, ↓op_slS, ↓op_slV, ↓op_faddr, ↓op_fld1, ↓op_fldn, ↓op_iaddrA, ↓op_iaddrS, ↓op_idx1, ↓op_idxS, ↓op_ext, ↓op_lenS, ↓op_lenV, ↓op_app, ↓op_cpy, ↓op_min, ↓fill_nil, ↓fill_cons, ↓nat_eq, ↓bnd_n, ↓bnd_s, ↓retE_nil, ↓avs_nil, ↓avs_cons, ↓av_t, ↓av_c1, ↓av_cn, ↓done_ok, ↓done_no, ↓andThen_no, ↓andThen_nx, ↓andThen_ex, ↓andThen_rt, ↓leave_rt, ↓leave_nx, ↓catch_nx, ↓catch_rt, ↓catch_ex, ↓oRec_s, ↓oRec_n, ↓br_t, ↓br_f, ↓T.get_set, eq_self, bSame_self, Nat.sub_zero, Nat.mul_one, lenN_s, lenN_n, same_c, same_a, repA_z, repA_s, putAt_e, putAt_z, putAt_s, appA_eq, condN_eq, bind_ok', asC_c, asC_u, as1_o, asAgg_a, asBool_b, asInt_i, asStr_s, asPtr_p, asSlice_s, asSlice_n, asFn_f, asFn_y, okV_s, okO_s, okB_f, okB_t, nilOk_p, nilOk_f, nilOk_y, done_ok, done_no, andThen_no, andThen_nx, andThen_ex, andThen_rt, leave_rt, leave_nx, catch_nx, catch_rt, catch_ex, oRec_s, oRec_n, br_t, br_f, T.puts_cons, T.puts_nil, List.map_cons, List.map_nil, nil_pp, nil_pq, nil_qp, nil_ss, nil_sq, nil_ff, nil_fq, int_add, int_sub, int_mul, int_eql, int_neq, int_lss, int_leq, int_gtr, int_geq, sh_shl, sh_shr, bSame_t, bSame_f, kSame_self, T.get_lf, Nat.reduceEqDiff, if_true, if_false, reduceIte, reduceCtorEq, Nat.reduceAdd, Nat.reduceMul, Nat.reduceSub, decide_true, decide_false, Int.ofNat_eq_natCast, Nat.zero_add, Nat.add_zero, Nat.zero_mul, Bool.not_true, Bool.not_false, Bool.and_true, Bool.true_and, Bool.and_false, Bool.false_and, Bool.or_true, Bool.true_or, Bool.or_false, Bool.false_or, Option.bind_some, Option.bind_none, List.nil_append, List.cons_append, List.append_nil, pack_0, pack_1, pack_2, is1_one, ext_tup, cells_c, cells_a, List.length_cons, List.length_nil, List.getElem?_cons_zero, List.getElem?_cons_succ, Nat.beq_refl, Nat.reduceBEq, Nat.reduceLeDiff, Nat.reduceBNe, Nat.reduceLT, Option.isSome_none, Option.isSome_some, Option.isNone_none, Option.isNone_some, decide_not, ble_t, ble_f, blt_t, blt_f, wrap_i64, wrap_i32, wrap_u8, wrap_u32, natOf_0, natOf_1, natOf_2, natOf_3, natOf_4, natOf_n, decide_eq_true, decide_eq_false, int_rem, int_quo, str_eql, str_neq]; rfl
    have hloop := f4_loop (O := only 7) rfl hk har hps ps.length 0 tm M (by omega) hw (Nat.le_refl _) (fun _ _ => rfl) ht (by simp)
    rcases hloop with ⟨tm', M1, e, ⟨t0, t1, t5, t6⟩, wf1, nx1, old1, hsm⟩ | ⟨tm', M1, e, h4⟩
    · have hbig : ∀ p ∈ ps, p.length < 4294967296 := fun p hp => by have := hsm p hp; omega
      have hcb := cat_byt ps har.byt
      have hcl : (cat ps).length ≤ 15200 := by
        have := cat_len ps 300 hsm
        have : ps.length * (300 + 4) ≤ 50 * 304 := Nat.mul_le_mul_right _ hps
        omega
      have bs : Byt (cat ps) := ⟨by rw [maxLen_eq]; omega, hcb⟩
      have bst : Byt (cat ps ++ tail) := ⟨by rw [maxLen_eq, List.length_append]; omega, fun b h => by
        rw [List.mem_append] at h
        rcases h with h | h
        · exact hcb b h
        · exact hb.2 b h⟩
      have ev1 : evf (cat ps) = ps.map (·, true) ++ [] := by have := evf_cat hbig []; rwa [List.append_nil, evf_nil] at this
      have ev2 : evf (cat ps ++ tail) = ps.map (·, true) ++ evf tail := evf_cat hbig tail
      have evt := evf_ref (tail.length + 1) tail (by omega)
      have hq4 := refn_len4 (tail.length + 1) tail
      have hnone : (refn (tail.length + 1) [] tail).1 = [] → (refn (tail.length + 1) [] tail).2 = tail := by
        intro h
        cases hc : cutL tail with
        | none => rw [refn_none hc]
        | some x => obtain ⟨p, r⟩ := x; rw [refn_some hc] at h; simp at h
      generalize hR : refn (tail.length + 1) [] tail = R at evt hq4 hnone
      obtain ⟨qs, rest⟩ := R
      dsimp only at evt hq4 hnone
      have hel1 : (evf (cat ps)).length < 2147483648 := by rw [ev1]; simp; omega
      have helt : (evf tail).length < 2147483648 := by rw [evt]; have := evL_len qs rest; omega
      have hel2 : (evf (cat ps ++ tail)).length < 2147483648 := by rw [ev2, evt, List.length_append, List.length_map]; have := evL_len qs rest; omega
      have ht1 : tell 100 [] (evf (cat ps)) = (ps, false) := by rw [ev1, tell_evs ps [] [] (by simp; omega)]; rfl
      have ht2 : tell 200 [] (evf (cat ps ++ tail)) = (ps ++ qs, !decide (rest = [])) := by
        rw [ev2, tell_evs ps _ [] (by simp; omega), evt, List.nil_append, tell_all rest qs ps (by omega)]
      have ht3 : tellC 0 (evf tail) = (qs.length, !decide (rest = [])) := by rw [evt, tellC_eq, Nat.zero_add]
      obtain ⟨M2, v1, c1, sl1, wf2, nx2, old2⟩ := split_run (O := only 7) rfl rfl rfl rfl wf1 bs hel1 100
      rw [ht1] at c1 sl1
      dsimp only at c1 sl1
      have ra : Rd M2 1 a ps.length (strs ps) := har.rd M2 (fun i hi => (old2 i (by omega)).trans (old1 i hi))
      have c2 := same_run (O := only 7) rfl sl1.rd ra (by omega) (by omega)
      obtain ⟨M3, c3, wf3, nx3, old3⟩ := count_run (O := only 7) rfl rfl rfl rfl wf2 hb helt
      rw [ht3] at c3
      dsimp only at c3
      obtain ⟨M4, v2, c4', sl2, wf4, nx4, old4⟩ := split_run (O := only 7) rfl rfl rfl rfl wf3 bst hel2 200
      rw [ht2] at c4' sl2
      dsimp only at c4' sl2
      have sl1' : Sl M4 M1.next 1 v1 ps.length (strs ps) := (sl1.other (fun i _ h => old3 i h) wf2).other (fun i _ h => old4 i h) wf3
      have c5 := same_run (O := only 7) rfl sl2.rd sl1'.rd (by rw [List.length_append]; omega) (by omega)
      have l1 := fun M' => sl1'.rd.lenV (M' := M')
      have l2 := fun M' => sl2.rd.lenV (M' := M')
      have add := str_add (cat ps) tail (by omega)
      have hql : qs.length ≤ 75 := by omega
      have hsum : (ps ++ qs).length = ps.length + qs.length := List.length_append
      refine ⟨M4, ?_⟩
      rw [call_eq body4 rfl _ (by simp)]
      unfold cc4
      rw [hsum] at l2
      by_cases hq : 0 < qs.length
      · clear ht1 ht2 ht3 hel1 helt hel2 ev1 ev2 evt hnone c5 sl1' sl2 ra hcb hbig hcl bs bst
        generalize hx : (!decide (rest = [])) = x at *
        have ec : ((ps.length : Int) + (qs.length : Int)) = ((ps.length + qs.length : Nat) : Int) := by omega
        simp (maxSteps := 4000000) (disch := omega) only [↓lenN_s, ↓lenN_n, ↓appA_eq, ↓opsN_eq, ↓goN_eq, ↓condN_eq, ↓drawN_eq, ↓drawM_eq, ↓run_seq, ↓run_ops, ↓run_draw, ↓run_cond, ↓run_ret, ↓run_skip, ↓run_exit, ↓run_block, ↓run_range, ↓ops_nil, ↓ops_cons, ↓draw_nil, ↓draw_eff, ↓draw_read, ↓draw_pure, ↓draw_alloc, ↓again_nil, ↓again_cons, ↓bind_ok', ↓bind_no', ↓co_none, ↓co_some, ↓ax_op, ↓ax_call, ↓evs_nil, ↓evs_cons, ↓evps_nil, ↓evps_cons, ↓evC_t, ↓evC_v, ↓ev1_t, ↓ev1_v, ↓ev_t, ↓ev_v, ↓asC_c, ↓asC_u, ↓as1_o, ↓asAgg_a, ↓asBool_b, ↓asInt_i, ↓asStr_s, ↓asPtr_p, ↓asSlice_s, ↓asSlice_n, ↓asFn_f, ↓asFn_y, ↓okV_s, ↓okc_eq, ↓okO_s, ↓okB_f, ↓okB_t, ↓putD_s, ↓putD_n, ↓op_mv, ↓op_pick, ↓op_alloc, ↓op_box, ↓op_build, ↓op_bslice, ↓op_mkslice, ↓op_ld1, ↓op_ldn, ↓op_st, ↓op_nilck, ↓nilOk_p, ↓nilOk_f, ↓nilOk_y, ↓op_ibin, ↓op_shift, ↓op_sbin, ↓op_beq, ↓op_nileq, ↓op_ageq, ↓op_ineg, ↓op_bnot, ↓op_i2i, ↓op_s2s, ↓op_s2b, ↓op_b2s, ↓op_mkfn, ↓op_slS, ↓op_slV, ↓op_faddr, ↓op_fld1, ↓op_fldn, ↓op_iaddrA, ↓op_iaddrS, ↓op_idx1, ↓op_idxS, ↓op_ext, ↓op_lenS, ↓op_lenV, ↓op_app, ↓op_cpy, ↓op_min, ↓fill_nil, ↓fill_cons, ↓nat_eq, ↓bnd_n, ↓bnd_s, ↓retE_nil, ↓avs_nil, ↓avs_cons, ↓av_t, ↓av_c1, ↓av_cn, ↓done_ok, ↓done_no, ↓andThen_no, ↓andThen_nx, ↓andThen_ex, ↓andThen_rt, ↓leave_rt, ↓leave_nx, ↓catch_nx, ↓catch_rt, ↓catch_ex, ↓oRec_s, ↓oRec_n, ↓br_t, ↓br_f, ↓T.get_set, eq_self, bSame_self, Nat.sub_zero, Nat.mul_one, lenN_s, lenN_n, same_c, same_a, repA_z, repA_s, putAt_e, putAt_z, putAt_s, appA_eq, condN_eq, bind_ok', asC_c, asC_u, as1_o, asAgg_a, asBool_b, asInt_i, asStr_s, asPtr_p, asSlice_s, asSlice_n, asFn_f, asFn_y, okV_s, okO_s, okB_f, okB_t, nilOk_p, nilOk_f, nilOk_y, done_ok, done_no, andThen_no, andThen_nx, andThen_ex, andThen_rt, leave_rt, leave_nx, catch_nx, catch_rt, catch_ex, oRec_s, oRec_n, br_t, br_f, T.puts_cons, T.puts_nil, List.map_cons, List.map_nil, nil_pp, nil_pq, nil_qp, nil_ss, nil_sq, nil_ff, nil_fq, int_add, int_sub, int_mul, int_eql, int_neq, int_lss, int_leq, int_gtr, int_geq, sh_shl, sh_shr, bSame_t, bSame_f, kSame_self, T.get_lf, Nat.reduceEqDiff, if_true, if_false, reduceIte, reduceCtorEq, Nat.reduceAdd, Nat.reduceMul, Nat.reduceSub, decide_true, decide_false, Int.ofNat_eq_natCast, Nat.zero_add, Nat.add_zero, Nat.zero_mul, Bool.not_true, Bool.not_false, Bool.and_true, Bool.true_and, Bool.and_false, Bool.false_and, Bool.or_true, Bool.true_or, Bool.or_false, Bool.false_or, Option.bind_some, Option.bind_none, List.nil_append, List.cons_append, List.append_nil, pack_0, pack_1, pack_2, is1_one, ext_tup, cells_c, cells_a, List.length_cons, List.length_nil, List.getElem?_cons_zero, List.getElem?_cons_succ, Nat.beq_refl, Nat.reduceBEq, Nat.reduceLeDiff, Nat.reduceBNe, Nat.reduceLT, Option.isSome_none, Option.isSome_some, Option.isNone_none, Option.isNone_some, decide_not, ble_t, ble_f, blt_t, blt_f, wrap_i64, wrap_i32, wrap_u8, wrap_u32, natOf_0, natOf_1, natOf_2, natOf_3, natOf_4, natOf_n, decide_eq_true, decide_eq_false, int_rem, int_quo, str_eql, str_neq, hk, hla, htm, loop_code cl4_0_eq, e, t0, t1, t5, t6, c1, c2, c3, add, c4', l1, l2, ec]
      · have hq0 : qs = [] := List.length_eq_zero_iff.1 (by omega)
        subst hq0
        have hrt := hnone rfl
        subst hrt
        rw [List.append_nil] at c5
        simp only [decide_true] at c5
        clear ht1 ht2 ht3 hel1 helt hel2 ev1 ev2 evt hnone sl1' sl2 ra hcb hbig hcl bs bst hR
        generalize hx : (!decide (rest = [])) = x at *
        simp only [List.length_nil] at c3
        simp (maxSteps := 4000000) (disch := omega) only [↓lenN_s, ↓lenN_n, ↓appA_eq, ↓opsN_eq, ↓goN_eq, ↓condN_eq, ↓drawN_eq, ↓drawM_eq, ↓run_seq, ↓run_ops, ↓run_draw, ↓run_cond, ↓run_ret, ↓run_skip, ↓run_exit, ↓run_block, ↓run_range, ↓ops_nil, ↓ops_cons, ↓draw_nil, ↓draw_eff, ↓draw_read, ↓draw_pure, ↓draw_alloc, ↓again_nil, ↓again_cons, ↓bind_ok', ↓bind_no', ↓co_none, ↓co_some, ↓ax_op, ↓ax_call, ↓evs_nil, ↓evs_cons, ↓evps_nil, ↓evps_cons, ↓evC_t, ↓evC_v, ↓ev1_t, ↓ev1_v, ↓ev_t, ↓ev_v, ↓asC_c, ↓asC_u, ↓as1_o, ↓asAgg_a, ↓asBool_b, ↓asInt_i, ↓asStr_s, ↓asPtr_p, ↓asSlice_s, ↓asSlice_n, ↓asFn_f, ↓asFn_y, ↓okV_s, ↓okc_eq, ↓okO_s, ↓okB_f, ↓okB_t, ↓putD_s, ↓putD_n, ↓op_mv, ↓op_pick, ↓op_alloc, ↓op_box, ↓op_build, ↓op_bslice, ↓op_mkslice, ↓op_ld1, ↓op_ldn, ↓op_st, ↓op_nilck, ↓nilOk_p, ↓nilOk_f, ↓nilOk_y, ↓op_ibin, ↓op_shift, ↓op_sbin, ↓op_beq, ↓op_nileq, ↓op_ageq, ↓op_ineg, ↓op_bnot, ↓op_i2i, ↓op_s2s, ↓op_s2b, ↓op_b2s, ↓op_mkfn, ↓op_slS, ↓op_slV, ↓op_faddr, ↓op_fld1, ↓op_fldn, ↓op_iaddrA, ↓op_iaddrS, ↓op_idx1, ↓op_idxS, ↓op_ext, ↓op_lenS, ↓op_lenV, ↓op_app, ↓op_cpy, ↓op_min, ↓fill_nil, ↓fill_cons, ↓nat_eq, ↓bnd_n, ↓bnd_s, ↓retE_nil, ↓avs_nil, ↓avs_cons, ↓av_t, ↓av_c1, ↓av_cn, ↓done_ok, ↓done_no, ↓andThen_no, ↓andThen_nx, ↓andThen_ex, ↓andThen_rt, ↓leave_rt, ↓leave_nx, ↓catch_nx, ↓catch_rt, ↓catch_ex, ↓oRec_s, ↓oRec_n, ↓br_t, ↓br_f, ↓T.get_set, eq_self, bSame_self, Nat.sub_zero, Nat.mul_one, lenN_s, lenN_n, same_c, same_a, repA_z, repA_s, putAt_e, putAt_z, putAt_s, appA_eq, condN_eq, bind_ok', asC_c, asC_u, as1_o, asAgg_a, asBool_b, asInt_i, asStr_s, asPtr_p, asSlice_s, asSlice_n, asFn_f, asFn_y, okV_s, okO_s, okB_f, okB_t, nilOk_p, nilOk_f, nilOk_y, done_ok, done_no, andThen_no, andThen_nx, andThen_ex, andThen_rt, leave_rt, leave_nx, catch_nx, catch_rt, catch_ex, oRec_s, oRec_n, br_t, br_f, T.puts_cons, T.puts_nil, List.map_cons, List.map_nil, nil_pp, nil_pq, nil_qp, nil_ss, nil_sq, nil_ff, nil_fq, int_add, int_sub, int_mul, int_eql, int_neq, int_lss, int_leq, int_gtr, int_geq, sh_shl, sh_shr, bSame_t, bSame_f, kSame_self, T.get_lf, Nat.reduceEqDiff, if_true, if_false, reduceIte, reduceCtorEq, Nat.reduceAdd, Nat.reduceMul, Nat.reduceSub, decide_true, decide_false, Int.ofNat_eq_natCast, Nat.zero_add, Nat.add_zero, Nat.zero_mul, Bool.not_true, Bool.not_false, Bool.and_true, Bool.true_and, Bool.and_false, Bool.false_and, Bool.or_true, Bool.true_or, Bool.or_false, Bool.false_or, Option.bind_some, Option.bind_none, List.nil_append, List.cons_append, List.append_nil, pack_0, pack_1, pack_2, is1_one, ext_tup, cells_c, cells_a, List.length_cons, List.length_nil, List.getElem?_cons_zero, List.getElem?_cons_succ, Nat.beq_refl, Nat.reduceBEq, Nat.reduceLeDiff, Nat.reduceBNe, Nat.reduceLT, Option.isSome_none, Option.isSome_some, Option.isNone_none, Option.isNone_some, decide_not, ble_t, ble_f, blt_t, blt_f, wrap_i64, wrap_i32, wrap_u8, wrap_u32, natOf_0, natOf_1, natOf_2, natOf_3, natOf_4, natOf_n, decide_eq_true, decide_eq_false, int_rem, int_quo, str_eql, str_neq, hk, hla, htm, loop_code cl4_0_eq, e, t0, t1, t5, t6, c1, c2, c3, add, c4', l1, l2, c5, hx, Int.natCast_zero, Int.cast_ofNat_Int]
    · refine ⟨M1, ?_⟩
      rw [call_eq body4 rfl _ (by simp)]
      unfold cc4
      simp (maxSteps := 4000000) (disch := omega) only [↓lenN_s, ↓lenN_n, ↓appA_eq, ↓opsN_eq, ↓goN_eq, ↓condN_eq, ↓drawN_eq, ↓drawM_eq, ↓run_seq, ↓run_ops, ↓run_draw, ↓run_cond, ↓run_ret, ↓run_skip, ↓run_exit, ↓run_block, ↓run_range, ↓ops_nil, ↓ops_cons, ↓draw_nil, ↓draw_eff, ↓draw_read, ↓draw_pure, ↓draw_alloc, ↓again_nil, ↓again_cons, ↓bind_ok', ↓bind_no', ↓co_none, ↓co_some, ↓ax_op, ↓ax_call, ↓evs_nil, ↓evs_cons, ↓evps_nil, ↓evps_cons, ↓evC_t, ↓evC_v, ↓ev1_t, ↓ev1_v, ↓ev_t, ↓ev_v, ↓asC_c, ↓asC_u, ↓as1_o, ↓asAgg_a, ↓asBool_b, ↓asInt_i, ↓asStr_s, ↓asPtr_p, ↓asSlice_s, ↓asSlice_n, ↓asFn_f, ↓asFn_y, ↓okV_s, ↓okc_eq, ↓okO_s, ↓okB_f, ↓okB_t, ↓putD_s, ↓putD_n, ↓op_mv, ↓op_pick, ↓op_alloc, ↓op_box, ↓op_build, ↓op_bslice, ↓op_mkslice, ↓op_ld1, ↓op_ldn, ↓op_st, ↓op_nilck, ↓nilOk_p, ↓nilOk_f, ↓nilOk_y, ↓op_ibin, ↓op_shift, ↓op_sbin, ↓op_beq, ↓op_nileq, ↓op_ageq, ↓op_ineg, ↓op_bnot, ↓op_i2i, ↓op_s2s, ↓op_s2b, ↓op_b2s, ↓op_mkfn, ↓op_slS, ↓op_slV, ↓op_faddr, ↓op_fld1, ↓op_fldn, ↓op_iaddrA, ↓op_iaddrS, ↓op_idx1, ↓op_idxS, ↓op_ext, ↓op_lenS, ↓op_lenV, ↓op_app, ↓op_cpy, ↓op_min, ↓fill_nil, ↓fill_cons, ↓nat_eq, ↓bnd_n, ↓bnd_s, ↓retE_nil, ↓avs_nil, ↓avs_cons, ↓av_t, ↓av_c1, ↓av_cn, ↓done_ok, ↓done_no, ↓andThen_no, ↓andThen_nx, ↓andThen_ex, ↓andThen_rt, ↓leave_rt, ↓leave_nx, ↓catch_nx, ↓catch_rt, ↓catch_ex, ↓oRec_s, ↓oRec_n, ↓br_t, ↓br_f, ↓T.get_set, eq_self, bSame_self, Nat.sub_zero, Nat.mul_one, lenN_s, lenN_n, same_c, same_a, repA_z, repA_s, putAt_e, putAt_z, putAt_s, appA_eq, condN_eq, bind_ok', asC_c, asC_u, as1_o, asAgg_a, asBool_b, asInt_i, asStr_s, asPtr_p, asSlice_s, asSlice_n, asFn_f, asFn_y, okV_s, okO_s, okB_f, okB_t, nilOk_p, nilOk_f, nilOk_y, done_ok, done_no, andThen_no, andThen_nx, andThen_ex, andThen_rt, leave_rt, leave_nx, catch_nx, catch_rt, catch_ex, oRec_s, oRec_n, br_t, br_f, T.puts_cons, T.puts_nil, List.map_cons, List.map_nil, nil_pp, nil_pq, nil_qp, nil_ss, nil_sq, nil_ff, nil_fq, int_add, int_sub, int_mul, int_eql, int_neq, int_lss, int_leq, int_gtr, int_geq, sh_shl, sh_shr, bSame_t, bSame_f, kSame_self, T.get_lf, Nat.reduceEqDiff, if_true, if_false, reduceIte, reduceCtorEq, Nat.reduceAdd, Nat.reduceMul, Nat.reduceSub, decide_true, decide_false, Int.ofNat_eq_natCast, Nat.zero_add, Nat.add_zero, Nat.zero_mul, Bool.not_true, Bool.not_false, Bool.and_true, Bool.true_and, Bool.and_false, Bool.false_and, Bool.or_true, Bool.true_or, Bool.or_false, Bool.false_or, Option.bind_some, Option.bind_none, List.nil_append, List.cons_append, List.append_nil, pack_0, pack_1, pack_2, is1_one, ext_tup, cells_c, cells_a, List.length_cons, List.length_nil, List.getElem?_cons_zero, List.getElem?_cons_succ, Nat.beq_refl, Nat.reduceBEq, Nat.reduceLeDiff, Nat.reduceBNe, Nat.reduceLT, Option.isSome_none, Option.isSome_some, Option.isNone_none, Option.isNone_some, decide_not, ble_t, ble_f, blt_t, blt_f, wrap_i64, wrap_i32, wrap_u8, wrap_u32, natOf_0, natOf_1, natOf_2, natOf_3, natOf_4, natOf_n, decide_eq_true, decide_eq_false, int_rem, int_quo, str_eql, str_neq, hk, hla, htm, loop_code cl4_0_eq, e, h4]
end Go.Proofs.Ytelmphlmhnipfaa
