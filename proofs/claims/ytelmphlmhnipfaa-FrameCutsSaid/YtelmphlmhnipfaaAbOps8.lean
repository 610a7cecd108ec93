/- Every operation that calls nothing, as the evaluator carries it out, is what the model does. No condition. -/
import Derived.Test.YtelmphlmhnipfaaAbOps7
namespace Go.Ab
open Go.RowKit

section
variable {P : Program} {B : Nat} {w0 w : World} {σ : Sg} {M M' : Mem} {tm : T V} {ρ : Operand → Value} {v : V}

theorem bin_sound {o : Oper} {op : BinOp} {t t' : TypeId} {x y : Operand} {x' y' : AR} {a : AOp} (ho : o.op = .binOp op t x y t') (hx : Hd σ tm ρ x) (hy : Hd σ tm ρ y) (ex : arOf x = some x') (ey : arOf y = some y')
    (hb : binOf P op t x' y' = some a) (hm : RM B w0 σ M w) (h : a.ev tm M = .ok v M') : Okay P B w0 σ M (execOp ρ o) w v M' := by
  by_cases hsh : op = .shl ∨ op = .shr
  · have : a = .shift op x' y' := by rcases hsh with rfl | rfl <;> simp [binOf] at hb <;> exact hb.symm
    subst this
    exact shift_sound ho hsh hx hy ex ey hm h
  · have hop : op ≠ .shl ∧ op ≠ .shr := ⟨fun q => hsh (.inl q), fun q => hsh (.inr q)⟩
    have hb : ((P.underlying t).bind fun u => match u with
      | .int _ => some (.ibin op x' y')
      | .string => some (.sbin op x' y')
      | _ => match op with
        | .eql => eqOf P false t x' y'
        | .neq => eqOf P true t x' y'
        | _ => none) = some a := by
      rw [← hb]; cases op <;> first | rfl | exact absurd rfl hop.1 | exact absurd rfl hop.2
    simp only [Option.bind_eq_some_iff] at hb
    obtain ⟨u, hu, hb⟩ := hb
    have heq : ∀ neg, op = (if neg then .neq else .eql) → eqOf P neg t x' y' = some a → Okay P B w0 σ M (execOp ρ o) w v M' := by
      intro neg hn he
      simp only [eqOf, hu, Option.bind_some] at he
      cases u <;> simp at he
      case bool => subst he; exact beq_sound ho hn hu hx hy ex ey hm h
      case pointer => subst he; exact nileq_sound (k := .p) ho hn hu trivial hx hy ex ey hm h
      case slice => subst he; exact nileq_sound (k := .s) ho hn hu trivial hx hy ex ey hm h
      case map => subst he; exact nileq_sound (k := .m) ho hn hu trivial hx hy ex ey hm h
      case func => subst he; exact nileq_sound (k := .f) ho hn hu trivial hx hy ex ey hm h
      all_goals
        simp only [Bool.cond_eq_ite] at he
        split at he
        · simp at he
        · rename_i hg
          simp only [Option.bind_eq_some_iff] at he
          obtain ⟨s, hs, l, hl, he⟩ := he
          simp at he; subst he
          exact ageq_sound ho hn (by simpa using hg) hs hl (by simp [aggT, hu, descAgg]) hx hy ex ey hm h
    cases u <;> simp only at hb
    case int => simp at hb; subst hb; exact ibin_sound ho hop hx hy ex ey hm h
    case string => simp at hb; subst hb; exact sbin_sound ho hop hx hy ex ey hm h
    all_goals
      cases op <;> simp only at hb <;> first
        | exact heq false rfl hb
        | exact heq true rfl hb
        | simp at hb

theorem builtin_sound {o : Oper} {c : Call} {b : Builtin} {xs : List AR} {a : AOp} (ho : o.op = .call c) (hc : c.callee = .builtin b) (hx : ∀ x ∈ c.args.toList, Hd σ tm ρ x) (exs : arsOf c.args.toList = some xs)
    (hb : builtinOf P b c.argTypes.toList xs = some a) (hm : RM B w0 σ M w) (h : a.ev tm M = .ok v M') : Okay P B w0 σ M (execOp ρ o) w v M' := by
  have hF := arsOf_map exs
  unfold builtinOf at hb
  split at hb
  · -- len
    rename_i t ts x' xs' hts
    simp only [Option.bind_eq_some_iff] at hb
    obtain ⟨u, hu, hb⟩ := hb
    generalize hargs : c.args.toList = args at hF hx
    cases hF with
    | @cons x _ r _ ea hF =>
      cases u <;> simp at hb
      case string => subst hb; exact len_sound ho hc hts hu (.inl ⟨rfl, rfl⟩) hargs (hx x (by simp)) ea hm h
      case slice => subst hb; exact len_sound ho hc hts hu (.inr ⟨rfl, _, rfl⟩) hargs (hx x (by simp)) ea hm h
  · -- append
    rename_i t u x' y' hts
    simp only [Option.bind_eq_some_iff] at hb
    obtain ⟨e, he, i, hi, d, hd, hb⟩ := hb
    generalize hargs : c.args.toList = args at hF hx
    cases hF with
    | @cons x _ r _ ea hF =>
      cases hF with
      | @cons y _ r _ eb hF =>
        cases hF
        have key : (d = .string ∨ ∃ q, d = .slice q) ∧ (cond (Nat.beq i.size 0 || Nat.ble 512 i.bytes) none ((zeroT P e).bind fun z => cond (Nat.beq z.cells.length i.size) (some (.app i.size i.bytes x' y')) none)) = some a := by
          cases d <;> simp only at hb <;> first
            | exact ⟨.inl rfl, hb⟩
            | exact ⟨.inr ⟨_, rfl⟩, hb⟩
            | simp at hb
        obtain ⟨hk, hb⟩ := key
        simp only [Bool.cond_eq_ite] at hb
        split at hb
        · simp at hb
        · rename_i hsz
          simp at hsz
          simp only [Option.bind_eq_some_iff] at hb
          obtain ⟨z, hz, hb⟩ := hb
          split at hb
          · rename_i hzl
            simp at hb; subst hb
            exact app_sound ho hc hts hargs he hd hk hi (by omega) hz (by simpa using hzl) (hx x (by simp)) (hx y (by simp)) ea eb hm h
          · simp at hb
  · -- copy
    rename_i t ts x' y' hts
    simp only [Option.bind_eq_some_iff] at hb
    obtain ⟨e, he, s, hs, hb⟩ := hb
    generalize hargs : c.args.toList = args at hF hx
    cases hF with
    | @cons x _ r _ ea hF =>
      cases hF with
      | @cons y _ r _ eb hF =>
        cases hF
        simp only [Bool.cond_eq_ite] at hb
        split at hb
        · simp at hb
        · simp at hb; subst hb
          exact cpy_sound ho hc hts hargs he hs (hx x (by simp)) (hx y (by simp)) ea eb hm h
  · -- min
    rename_i x' y'
    simp at hb; subst hb
    generalize hargs : c.args.toList = args at hF hx
    cases hF with
    | @cons x _ r _ ea hF =>
      cases hF with
      | @cons y _ r _ eb hF =>
        cases hF
        exact min_sound ho hc hargs (hx x (by simp)) (hx y (by simp)) ea eb hm h
  · simp at hb

theorem mem_operands_map {parts : Array (Nat × Operand)} {p : Nat × Operand} (h : p ∈ parts.toList) : p.2 ∈ (parts.toList.map (·.2)).toArray := by
  simp only [List.mem_toArray, List.mem_map]
  exact ⟨p, h, rfl⟩

set_option maxHeartbeats 1000000 in
theorem aop_sound {o : Oper} {a : AOp} (h : aopOf P o.op = some a) (hx : ∀ x ∈ o.op.operands, Hd σ tm ρ x) (hm : RM B w0 σ M w) (he : a.ev tm M = .ok v M') : Okay P B w0 σ M (execOp ρ o) w v M' := by
  generalize ho : o.op = op at h hx
  cases op <;> simp only [aopOf, Option.bind_eq_some_iff] at h <;> (try (simp at h; done)) <;> simp only [Op.operands] at hx
  case move x =>
    obtain ⟨a1, e1, h⟩ := h; simp at h; subst h
    exact mv_sound (.inl ho) (hx _ (by simp)) e1 hm he
  case assign x =>
    obtain ⟨a1, e1, h⟩ := h; simp at h; subst h
    exact mv_sound (.inr ho) (hx _ (by simp)) e1 hm he
  case pick c x y =>
    obtain ⟨a1, e1, a2, e2, a3, e3, h⟩ := h; simp at h; subst h
    exact pick_sound ho (hx _ (by simp)) (hx _ (by simp)) (hx _ (by simp)) e1 e2 e3 hm he
  case alloc e =>
    obtain ⟨z, hz, h⟩ := h; simp at h; subst h
    exact alloc_sound (tm := tm) ho hz hm he
  case box e x =>
    obtain ⟨a1, e1, h⟩ := h; simp at h; subst h
    exact box_sound ho (hx _ (by simp)) e1 hm he
  case build t parts =>
    obtain ⟨z, hz, d, hd, h⟩ := h
    simp only [Bool.cond_eq_ite] at h
    split at h
    · rename_i hdd
      simp only [Bool.and_eq_true] at hdd
      simp only [Option.bind_eq_some_iff] at h
      obtain ⟨ps, hps, h⟩ := h
      simp at h; subst h
      exact build_sound ho hz hd hdd.1 hdd.2 hps (fun p hp => hx _ (mem_operands_map hp)) hm he
    · simp at h
  case buildSlice t len parts =>
    obtain ⟨e, het, s, hs, h⟩ := h
    simp only [Bool.cond_eq_ite] at h
    split at h
    · simp at h
    · rename_i hc
      simp at hc
      simp only [Option.bind_eq_some_iff] at h
      obtain ⟨z, hz, h⟩ := h
      split at h
      · rename_i hzl
        simp only [Option.bind_eq_some_iff] at h
        obtain ⟨ps, hps, h⟩ := h
        simp at h; subst h
        exact bslice_sound ho het hs (by omega) hz (by simpa using hzl) hps (fun p hp => hx _ (mem_operands_map hp)) hm he
      · simp at h
  case load t x =>
    obtain ⟨g, hg, s, hs, a1, e1, h⟩ := h
    simp at h; subst h
    cases g with
    | true => exact ldn_sound ho hg hs (hx _ (by simp)) e1 hm he
    | false => exact ld1_sound ho hg (hx _ (by simp)) e1 hm he
  case store t x y =>
    obtain ⟨s, hs, a1, e1, a2, e2, h⟩ := h
    simp at h; subst h
    exact st_sound ho hs (hx _ (by simp)) (hx _ (by simp)) e1 e2 hm he
  case nilCheck x =>
    obtain ⟨a1, e1, h⟩ := h; simp at h; subst h
    exact nilck_sound ho (hx _ (by simp)) e1 hm he
  case binOp op t x y t' =>
    obtain ⟨a1, e1, a2, e2, h⟩ := h
    exact bin_sound ho (hx _ (by simp)) (hx _ (by simp)) e1 e2 h hm he
  case unOp op t x =>
    obtain ⟨a1, e1, h⟩ := h
    cases op <;> simp at h <;> subst h
    · exact ineg_sound ho (hx _ (by simp)) e1 hm he
    · exact inv_sound ho (hx _ (by simp)) e1 hm he
    · exact bnot_sound ho (hx _ (by simp)) e1 hm he
  case convert s d x =>
    obtain ⟨u, hu, u', hu', a1, e1, h⟩ := h
    cases u <;> cases u' <;> simp at h
    · subst h; exact i2i_sound ho hu hu' (hx _ (by simp)) e1 hm he
    · subst h; exact s2s_sound ho hu hu' (hx _ (by simp)) e1 hm he
    · obtain ⟨w', hw', h⟩ := Option.bind_eq_some_iff.1 h
      cases w' <;> (try (simp at h; done))
      rename_i k
      cases k <;> (try (simp at h; done)) <;> simp at h
      subst h
      exact s2b_sound ho hu hu' hw' (hx _ (by simp)) e1 hm he
    · obtain ⟨w', hw', h⟩ := Option.bind_eq_some_iff.1 h
      cases w' <;> (try (simp at h; done))
      rename_i k
      cases k <;> (try (simp at h; done)) <;> simp at h
      subst h
      exact b2s_sound ho hu hu' hw' (hx _ (by simp)) e1 hm he
  case makeFunc fn first caps =>
    cases fn <;> simp only at h <;> (try (simp at h; done))
    simp only [Bool.cond_eq_ite] at h
    split at h
    rotate_left
    · simp at h
    rename_i hf
    obtain ⟨l, hl, h⟩ := Option.bind_eq_some_iff.1 h
    simp at h; subst h
    exact mkfn_sound ho (by simpa using hf) (fun x hx' => hx x (by simp at hx' ⊢; exact .inr hx')) hl hm he
  case makeSlice t l c =>
    obtain ⟨e, het, i, hi, h⟩ := h
    simp only [Bool.cond_eq_ite] at h
    split at h
    · simp at h
    · simp only [Option.bind_eq_some_iff] at h
      obtain ⟨z, hz, h⟩ := h
      split at h
      · rename_i hzl
        simp only [Option.bind_eq_some_iff] at h
        obtain ⟨a1, e1, a2, e2, h⟩ := h
        simp at h; subst h
        exact mkslice_sound ho het hi hz (by simpa using hzl) (hx _ (by simp)) (hx _ (by simp)) e1 e2 hm he
      · simp at h
  case slice t x lo hi mx =>
    obtain ⟨u, hu, a1, e1, lo', elo, hi', ehi, mx', emx, h⟩ := h
    have hlo : ∀ o, lo = some o → Hd σ tm ρ o := fun o q => hx o (by simp [q])
    have hhi : ∀ o, hi = some o → Hd σ tm ρ o := fun o q => hx o (by simp [q])
    have hmx : ∀ o, mx = some o → Hd σ tm ρ o := fun o q => hx o (by simp [q])
    have hnone : mx' = none → mx = none := by
      intro q
      rcases aroOf_rel emx with ⟨q1, _⟩ | ⟨_, _, _, q1, _⟩
      · exact q1
      · rw [q] at q1; simp at q1
    cases u <;> try (simp at h; done)
    case string =>
      cases mx' <;> simp at h
      subst h
      obtain rfl := hnone rfl
      exact slS_sound ho hu (hx _ (by simp)) hlo hhi e1 elo ehi hm he
    case slice e =>
      simp only [Option.bind_eq_some_iff] at h
      obtain ⟨s, hs, h⟩ := h
      simp at h; subst h
      exact slV_sound ho hu hs (hx _ (by simp)) hlo hhi hmx e1 elo ehi emx hm he
    case array n e =>
      cases mx' <;> simp only at h <;> (try (simp at h; done))
      obtain ⟨s, hs, h⟩ := Option.bind_eq_some_iff.1 h
      simp at h; subst h
      obtain rfl := hnone rfl
      exact slA_sound ho hu hs (hx _ (by simp)) hlo hhi e1 elo ehi hm he
  case fieldAddr s x f =>
    obtain ⟨d, hd, a1, e1, h⟩ := h
    cases d <;> simp only at h <;> (try (simp at h; done))
    simp only [Option.bind_eq_some_iff, Bool.cond_eq_ite] at h
    obtain ⟨fl, hf, n, hn, h⟩ := h
    split at h
    · simp at h
    · rename_i hn0
      simp at h; subst h
      exact faddr_sound ho hd hf hn (by simpa using hn0) (hx _ (by simp)) e1 hm he
  case field t x f =>
    obtain ⟨d, hd, a1, e1, h⟩ := h
    cases d <;> simp only at h <;> (try (simp at h; done))
    simp only [Option.bind_eq_some_iff] at h
    obtain ⟨fl, hf, g, hg, n, hn, h⟩ := h
    simp at h; subst h
    cases g with
    | true => exact fldn_sound ho hd hf hg hn (hx _ (by simp)) e1 hm he
    | false => exact fld1_sound ho hd hf hg (hx _ (by simp)) e1 hm he
  case indexAddr t x i =>
    obtain ⟨d, hd, a1, e1, a2, e2, h⟩ := h
    cases d <;> simp only at h <;> (try (simp at h; done))
    · simp only [Option.bind_eq_some_iff] at h
      obtain ⟨n, hn, h⟩ := h
      simp at h; subst h
      exact iaddrS_sound ho hd hn (hx _ (by simp)) (hx _ (by simp)) e1 e2 hm he
    · simp only [Option.bind_eq_some_iff] at h
      obtain ⟨n, hn, h⟩ := h
      simp at h; subst h
      exact iaddrA_sound ho hd hn (hx _ (by simp)) (hx _ (by simp)) e1 e2 hm he
  case index t x i =>
    obtain ⟨d, hd, a1, e1, a2, e2, h⟩ := h
    cases d <;> simp only at h <;> (try (simp at h; done))
    · simp at h; subst h
      exact idxS_sound ho hd (hx _ (by simp)) (hx _ (by simp)) e1 e2 hm he
    · simp only [Option.bind_eq_some_iff] at h
      obtain ⟨g, hg, n, hn, h⟩ := h
      simp at h; subst h
      cases g with
      | true => exact idxn_sound ho hd hn hg (hx _ (by simp)) (hx _ (by simp)) e1 e2 hm he
      | false => exact idx1_sound ho hd hn hg (hx _ (by simp)) (hx _ (by simp)) e1 e2 hm he
  case extract x i =>
    obtain ⟨a1, e1, h⟩ := h; simp at h; subst h
    exact ext_sound ho (hx _ (by simp)) e1 hm he
  case call c =>
    cases hc : c.callee <;> rw [hc] at h <;> simp only [Option.bind_eq_some_iff] at h <;> (try (simp at h; done))
    obtain ⟨xs, hxs, h⟩ := h
    exact builtin_sound ho hc (fun x hx' => hx x (by simp [Call.operands, hc]; simpa using hx')) hxs h hm he
end
end Go.Ab
