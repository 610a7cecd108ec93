/- From the evaluator's run of a law, at any arguments, to the row that says that the law returns true. Conditions: Good P, and those that are named. -/
import Derived.Test.YtelmphlmhnipfaaAbArgs
import Derived.Test.YtelmphlmhnipfaaAbTell
import Derived.ProofKit
import Derived.ChangeOld
namespace Go.Ab
open Go.RowKit Go.ChangeShapes

/-- What a parameter is. -/
inductive PK where | cell (k : FK) | agg (ks : List FK) | sl (ks : List FK)
def PK.ok (M : Mem) : PK → V1 → Prop
  | .cell k, .c x => k.ok x
  | .agg ks, .agg xs => F2 FK.ok ks xs
  | .sl ks, .c x => ∃ len xs, SlArg M ks x len xs
  | _, _ => False
theorem PK.ok.more {M M' : Mem} (h : More M M') {k : PK} {x : V1} (q : k.ok M x) : k.ok M' x := by
  cases k with
  | cell k => cases x with
    | c x => exact q
    | agg => exact q.elim
  | agg ks => cases x with
    | c x => exact q.elim
    | agg xs => exact q
  | sl ks => cases x with
    | c x => obtain ⟨len, xs, r⟩ := q; exact ⟨len, xs, r.more h⟩
    | agg => exact q.elim
section
variable (P : Program)
noncomputable def pkOf (t : TypeId) : Option PK :=
  match P.underlying t with
  | some (.slice e) => (flatK P 8 e).bind fun ks => cond (Nat.beq (P.cellsOf e) ks.length && Nat.blt 0 ks.length) (some (.sl ks)) none
  | some (.struct _) | some (.array _ _) => (flatK P 8 t).bind fun ks => some (.agg ks)
  | some _ => (flatK P 8 t).bind fun ks => match ks with | [k] => some (.cell k) | _ => none
  | none => none
noncomputable def pksOf : List TypeId → Option (List PK)
  | [] => some []
  | t :: r => (pkOf P t).bind fun k => (pksOf r).bind fun ks => some (k :: ks)
end
section
variable {H : Type} {enc : TypeId × Value → H} {P : Program} {held : Bool} {B : Nat} {w0 w : World}
theorem arg_in {σ : Sg} {M : Mem} (h : RM B w0 σ M w) (hB : w.heap.size = B) {t : TypeId} {k : PK} {v : Value} {y : DataW H} {ps : List MemPlace} (hk : pkOf P t = some k)
    {base : Nat} (ho : Value.okWide P w .any base t v) (ht : DataW.Trod enc P w 0 (fun _ => true) held t v y ps) (hz : w.noneFrozen ps) :
    ∃ σ' M' x, Laid B w0 w σ M σ' M' ∧ R1 σ' x v ∧ k.ok M' x := by
  unfold pkOf at hk
  have noagg : (∀ fs, P.underlying t ≠ some (.struct fs)) → (∀ n e, P.underlying t ≠ some (.array n e)) → ∀ cs, v ≠ .agg cs := by
    intro h1 h2 cs hv
    subst hv
    unfold Value.okWide at ho
    split at ho
    · rename_i q; exact h1 _ q
    · rename_i q; exact h2 _ _ q
    · unfold Cell.okWide at ho
      split at ho <;> simp_all [Cell.ok]
  split at hk
  · rename_i e hu
    simp only [Option.bind_eq_some_iff] at hk
    obtain ⟨ks, hks, hk⟩ := hk
    cases hc : (Nat.beq (P.cellsOf e) ks.length && Nat.blt 0 ks.length) with
    | false => rw [hc] at hk; simp at hk
    | true =>
      rw [hc] at hk; simp at hk; subst hk
      rw [Bool.and_eq_true] at hc
      obtain ⟨σ', M', x, len, xs, h1, h2, h3⟩ := slice_arg h hB hu hks (Nat.eq_of_beq_eq_true hc.1) (by have := hc.2; rw [Nat.blt_eq] at this; exact this) ho ht hz
      exact ⟨σ', M', .c x, h1, h2, len, xs, h3⟩
  · rename_i fs hu
    simp only [Option.bind_eq_some_iff] at hk
    obtain ⟨ks, hks, hk⟩ := hk
    simp at hk; subst hk
    unfold Value.okWide at ho
    rw [hu] at ho
    obtain ⟨cs, rfl, _⟩ := ho
    obtain ⟨xs, h1, h2⟩ := agg_arg hks ht
    exact ⟨σ, M, .agg xs, .refl h, h1 σ, h2⟩
  · rename_i n e hu
    simp only [Option.bind_eq_some_iff] at hk
    obtain ⟨ks, hks, hk⟩ := hk
    simp at hk; subst hk
    unfold Value.okWide at ho
    rw [hu] at ho
    obtain ⟨cs, rfl, _⟩ := ho
    obtain ⟨xs, h1, h2⟩ := agg_arg hks ht
    exact ⟨σ, M, .agg xs, .refl h, h1 σ, h2⟩
  · rename_i u h1 h2 hu
    simp only [Option.bind_eq_some_iff] at hk
    obtain ⟨ks, hks, hk⟩ := hk
    split at hk
    · simp at hk; subst hk
      obtain ⟨x, g1, g2⟩ := cell_arg hks (noagg (fun fs q => by rw [hu] at q; exact h1 fs (Option.some.inj q)) (fun n e q => by rw [hu] at q; exact h2 n e (Option.some.inj q))) ht
      exact ⟨σ, M, .c x, .refl h, g1 σ, g2⟩
    · simp at hk
  · simp at hk

theorem args_in (hB : w.heap.size = B) : ∀ (ts : List TypeId) (pks : List PK) (vs : List Value) (ds : List (DataW H)) (ps : List MemPlace) (σ : Sg) (M : Mem), pksOf P ts = some pks → RM B w0 σ M w →
    (∀ (j : Nat) t v, ts[j]? = some t → vs[j]? = some v → ∃ base, Value.okWide P w .any base t v) → DataW.TrodAll enc P w 0 (fun _ => true) held ts vs ds ps → w.noneFrozen ps →
    ∃ σ' M' xs, Laid B w0 w σ M σ' M' ∧ F2 (R1 σ') xs vs ∧ F2 (PK.ok M') pks xs := by
  intro ts
  induction ts with
  | nil =>
    intro pks vs ds ps σ M hk h ho ht hz
    simp [pksOf] at hk; subst hk
    obtain ⟨rfl, rfl, rfl⟩ := trodAll_nil ht
    exact ⟨σ, M, [], .refl h, .nil, .nil⟩
  | cons t ts ih =>
    intro pks vs ds ps σ M hk h ho ht hz
    simp only [pksOf, Option.bind_eq_some_iff] at hk
    obtain ⟨k, hk1, ks, hk2, hk⟩ := hk
    simp at hk; subst hk
    obtain ⟨v, vs', d, ds', p, q, rfl, rfl, rfl, hd, hrest⟩ := trodAll_cons ht
    obtain ⟨base, ho0⟩ := ho 0 t v rfl rfl
    obtain ⟨σ1, M1, x, l1, r1, k1⟩ := arg_in h hB hk1 ho0 hd (fun b off hm => hz b off (List.mem_append_left _ hm))
    obtain ⟨σ2, M2, xs, l2, r2, k2⟩ := ih ks vs' ds' q σ1 M1 hk2 l1.1 (fun j t v a b => ho (j + 1) t v a b) hrest (fun b off hm => hz b off (List.mem_append_right _ hm))
    exact ⟨σ2, M2, x :: xs, ⟨l2.1, l1.2.1.trans l2.2.1, l1.2.2.trans l2.2.2⟩, .cons (r1.mono l2.2.1) r2, .cons (k1.more l2.2.2) k2⟩

theorem trodAll_stays (hl : laidOutB P = true) {W W' : World} (hb : Below W.heap.size W W') : ∀ (ts : List TypeId) (vs : List Value) (ds : List (DataW H)) (ps : List MemPlace), (ts.all fun t => P.readableRec t && decide (t < P.types.size)) = true →
    DataW.TrodAll enc P W 0 (fun _ => true) true ts vs ds ps → (∀ x ∈ ps, x.block < W.heap.size) → DataW.TrodAll enc P W' 0 (fun b => decide (b < W.heap.size)) true ts vs ds ps := by
  intro ts
  induction ts with
  | nil => intro vs ds ps _ h _; obtain ⟨rfl, rfl, rfl⟩ := trodAll_nil h; exact trodAll_mk0
  | cons t ts ih =>
    intro vs ds ps hr h hlt
    rw [List.all_cons, Bool.and_eq_true, Bool.and_eq_true, decide_eq_true_iff] at hr
    obtain ⟨v, vs', d, ds', p, q, rfl, rfl, rfl, hd, hrest⟩ := trodAll_cons h
    exact ⟨p, q, Below.trod hl hr.1.1 hr.1.2 hd hb (fun x hx => hlt x (List.mem_append_left _ hx)), ih _ _ _ hr.2 hrest (fun x hx => hlt x (List.mem_append_right _ hx)), rfl⟩
end

/-- Memory in which nothing lies beyond its end. -/
def Mem.Wf (M : Mem) : Prop := ∀ id, M.next ≤ id → M.b.get id = none
/-- **A LAW THAT THE EVALUATOR FINDS TRUE AT ANY ARGUMENTS.** -/
theorem law_calls {H : Type} {enc : TypeId × Value → H} {P : Program} (hP : Good P) {O : FuncId → Bool} (hO : Knows P O) {f : FuncId} {W : World} {ts : List TypeId} {pks : List PK} {args : Array Value} {ds : List (DataW H)} {ps : List MemPlace}
    (hk : pksOf P ts = some pks) (ho : ∀ (j : Nat) t v, ts[j]? = some t → args.toList[j]? = some v → ∃ base, Value.okWide P W .any base t v) (ht : DataW.TrodAll enc P W 0 (fun _ => true) true ts args.toList ds ps) (hz : W.noneFrozen ps)
    (run : ∀ (M : Mem) (xs : List V1), M.Wf → F2 (PK.ok M) pks xs → ∃ M', (lim P O).call f xs M = .ok (.one (.c (.bool true))) M') :
    Calls P f args W fun e W' => e = .returned (.bool true) ∧ Below W.heap.size W W' := by
  obtain ⟨σ, M, xs, ⟨hm, _, _⟩, hr, hp⟩ := args_in rfl ts pks args.toList ds ps _ _ hk (rm_start W) ho ht hz
  obtain ⟨M', hc⟩ := run M xs hm.fresh hp
  obtain ⟨k, hc⟩ := lim_ok P O hc
  have := ((sound hP hO k).call W.heap.size W σ M W f xs args.toList _ M' 0 hm hr hc).2
  refine (callsIn_wide.1 this).mono fun e w' ⟨σ', c, he, _, hm', hc'⟩ => ?_
  subst he
  cases hc' with
  | one _ _ h1 => cases h1 with
    | c _ _ hc => cases hc with
      | bool b => exact ⟨rfl, hm'.below⟩

/-- What a row of that form asks behind the call. -/
theorem law_post {H : Type} {enc : TypeId × Value → H} {P : Program} {fn : Func} {s : ChangeSpec} {W W' : World} {args : Array Value} {ds : List (DataW H)} {before : List MemPlace} {tb : TypeId} (hl : laidOutB P = true)
    (hr : (fn.params.toList.all fun t => P.readableRec t && decide (t < P.types.size)) = true) (hb : P.underlying tb = some .bool) (hrt : fn.resultTypes = #[tb]) (hvars : s.vars = [])
    (hres : (s.fn H (ds ++ [])).results = [.lit (.bool true)]) (hargs : (s.fn H (ds ++ [])).args = ds) (hvs : (s.fn H (ds ++ [])).vars = [])
    (hW : DataW.Whole enc P fn.params.toList s.vars false W args.toList ds [] before) (bel : Below W.heap.size W W') : s.post enc P fn false true false false W args (.bool true) W' := by
  have hlt := hW.lt
  obtain ⟨p, q, hA, hV, hps, hfz, hnd⟩ := hW
  subst hps
  refine ⟨ds, [], p ++ q, [], p, [], ⟨p, q, hA, hV, rfl, hfz, hnd⟩, ?_, ?_, ?_, bel.frame _, fun h => by cases h⟩
  · rw [hres, hrt]; exact trodAll_mk1 (shut_bool hb _)
  · rw [hargs]; exact trodAll_stays hl bel _ _ _ _ hr hA (fun x hx => hlt x (List.mem_append_left _ hx))
  · rw [hvars, hvs]; rfl
end Go.Ab
