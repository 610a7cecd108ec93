/- THE EVALUATOR IS SOUND: where it answers, the model does, whatever is drawn. Conditions: Good P. -/
import Derived.Test.YtelmphlmhnipfaaAbDraw4
import Derived.RangeFuncNested
namespace Go.Ab
open Go.RowKit

section
variable {P : Program} {B : Nat} {w0 w : World} {σ : Sg} {M M' : Mem} {tm tm' : T V} {k : Nat} {R : Rec} {ro rnd : Option Nat} {n nt : Nat} {Q : Exit → Act → World → Prop} {v : V}

theorem PostR.later {σ' : Sg} {res : Rn} (hs : Stp σ M σ' M') (h : PostR B w0 σ M nt Q res) : PostR B w0 σ' M' nt Q res := by
  cases res with
  | no => exact h
  | nx tm mk M2 => exact fun σ'' a w s1 => h σ'' a w (hs.trans s1)
  | ex id tm mk M2 => exact fun σ'' a w s1 => h σ'' a w (hs.trans s1)
  | rt tm mk M2 => exact fun σ'' a w s1 => h σ'' a w (hs.trans s1)
theorem post_oRec {α : Type} {f : α → Rn} {o : Option α} (h : PostR B w0 σ M nt Q (oRec .no f o)) : ∃ a, o = some a ∧ PostR B w0 σ M nt Q (f a) := by
  cases o with
  | none => exact h.elim
  | some a => exact ⟨a, rfl, h⟩
theorem post_evC {f : CV → Rn} {x : AR} (h : PostR B w0 σ M nt Q (evC .no f x tm)) : ∃ c, x.ev tm = some (.one (.c c)) ∧ PostR B w0 σ M nt Q (f c) := by
  obtain ⟨u, hu, h⟩ := post_oRec h
  cases u with
  | one y => cases y with
    | c c => exact ⟨c, hu, h⟩
    | agg l => exact h.elim
  | tup l => exact h.elim
  | undef => exact h.elim

/-- A record of a loop, or a mark's block, changed in its place. -/
theorem RM.setObj (h : RM B w0 σ M w) {id b : Nat} {k0 k1 : Blk} {o : Obj} (e : σ id = some (b, 0, 1)) (hg : M.b.get id = some k0) (hk0 : k0.live) (hk0m : k0.mut) (hnc : ∀ c E fz, w.heap[b]? ≠ some (.cells c E fz)) (hB : B ≤ b) (hk1 : RB σ B (w.putObj b o) b 0 1 k1) :
    RM B w0 σ (M.upd id k1) (w.putObj b o) ∧ Stp σ M σ (M.upd id k1) := by
  have hlt := h.dom _ _ _ _ e
  have hlive : ∀ (i : Nat) (k : Blk), (if i = id then some k1 else M.b.get i) = some k → k.live → ∃ k', M.b.get i = some k' ∧ k'.live ∧ (k.mut → k'.mut) := by
    intro i k hk' hl
    split at hk'
    · subst_vars; exact ⟨_, hg, hk0, fun _ => hk0m⟩
    · exact ⟨k, hk', hl, fun q => q⟩
  refine ⟨⟨h.below.trans ⟨rfl, rfl, rfl, by simp, fun j hj => World.putObj_heap_other (by omega)⟩, by simpa using h.base, fun i b' s' r' q => ⟨(h.dom i b' s' r' q).1, by simpa using (h.dom i b' s' r' q).2⟩, fun i hi => ?_, fun i b' s' r' q e' f' => ?_, fun i j b' si ri sj rj ki kj hij e1 e2 f1 f2 l1 l2 => ?_⟩,
    ⟨.refl _, fun _ _ q => q, fun i _ q => ?_, Nat.le_refl _⟩⟩
  · have hi : M.next ≤ i := hi
    rw [get_upd, if_neg (by omega)]; exact h.fresh i hi
  · rw [get_upd] at f'
    split at f'
    · simp at f'; subst f'; subst_vars
      rw [e] at e'; simp at e'; obtain ⟨rfl, rfl, rfl⟩ := e'
      exact hk1
    · rename_i hne
      have hb := h.blk i b' s' r' q e' f'
      by_cases hbb : b' = b
      · subst hbb
        cases q with
        | dead => trivial
        | cells nn c wr => obtain ⟨C, E, fz, h1, _⟩ := hb; exact absurd h1 (hnc _ _ _)
        | loop => obtain ⟨rfl, rfl, _⟩ := hb; have := h.sep i id b' 0 1 0 1 _ _ hne e' e f' hg trivial hk0 (.inl trivial); omega
        | dfr => obtain ⟨rfl, rfl, _⟩ := hb; have := h.sep i id b' 0 1 0 1 _ _ hne e' e f' hg trivial hk0 (.inl trivial); omega
      · exact hb.world (World.putObj_heap_other hbb)
  · rw [get_upd] at f1 f2
    obtain ⟨k1', q1, l1', m1⟩ := hlive i ki f1 l1
    obtain ⟨k2', q2, l2', m2⟩ := hlive j kj f2 l2
    exact fun m => h.sep i j b' si ri sj rj k1' k2' hij e1 e2 q1 q2 l1' l2' (m.imp m1 m2)
  · rw [get_upd, if_neg (fun hh => by subst hh; rw [e] at q; simp at q)]

/-- A loop's record, as the model holds it. -/
theorem RM.loopAt (h : RM B w0 σ M w) {id b s r : Nat} {st : LoopState} {pend : Option Code} {tm : T V} {nt d : Nat} {ps : List Tmp} {asg body : Code} (e : σ id = some (b, s, r)) (hg : M.b.get id = some (.loop st pend tm nt ps asg body d)) :
    s = 0 ∧ r = 1 ∧ B ≤ b ∧ ∃ fn tmps dd, w.heap[b]? = some (.loop { state := st, pending := pend, fn, tmps, params := ⟨ps⟩, assign := asg, body, defers := dd }) ∧ tmps.size = nt ∧ RT σ tm tmps ∧ σ d = some (dd, 0, 1) := h.blk _ _ _ _ _ e hg

/-- A loop's record's state and pending jump, changed. -/
theorem RM.setLoop (h : RM B w0 σ M w) {id b : Nat} {st st' : LoopState} {pend pend' : Option Code} {tm : T V} {nt d : Nat} {ps : List Tmp} {asg body : Code} (e : σ id = some (b, 0, 1)) (hg : M.b.get id = some (.loop st pend tm nt ps asg body d)) :
    ∃ r : Loop, w.heap[b]? = some (.loop r) ∧ r.state = st ∧ r.pending = pend ∧ RM B w0 σ (M.upd id (.loop st' pend' tm nt ps asg body d)) (w.putObj b (.loop { r with state := st', pending := pend' })) ∧ Stp σ M σ (M.upd id (.loop st' pend' tm nt ps asg body d)) := by
  obtain ⟨_, _, hB, fn, tmps, dd, hh, hz, ht, hd⟩ := h.loopAt e hg
  have hlt := (h.dom _ _ _ _ e).2
  have := h.setObj (k1 := .loop st' pend' tm nt ps asg body d) (o := .loop { state := st', pending := pend', fn, tmps, params := ⟨ps⟩, assign := asg, body, defers := dd }) e hg trivial trivial (fun c E fz q => by rw [hh] at q; simp at q) hB
    ⟨rfl, rfl, hB, fn, tmps, dd, World.putObj_heap_same hlt, hz, ht, hd⟩
  exact ⟨_, hh, rfl, rfl, this.1, this.2⟩

theorem bind_rel : ∀ (ps : List Tmp) (args : List V1) (vs : List Value) (tm tm1 : T V) (tmps : Array Value), bindA ps args tm nt = some tm1 → F2 (R1 σ) args vs → tmps.size = nt → RT σ tm tmps →
    ps.length = vs.length ∧ RT σ tm1 ((ps.zip vs).foldl (fun tmps p => tmps.setIfInBounds p.1 p.2) tmps) ∧ ((ps.zip vs).foldl (fun tmps p => tmps.setIfInBounds p.1 p.2) tmps).size = nt
  | [], [], vs, tm, tm1, tmps, h, hF, hz, ht => by
    cases hF
    simp [bindA] at h; subst h
    exact ⟨rfl, ht, hz⟩
  | [], _ :: _, vs, tm, tm1, tmps, h, hF, hz, ht => by simp [bindA] at h
  | _ :: _, [], vs, tm, tm1, tmps, h, hF, hz, ht => by simp [bindA] at h
  | t :: ps, a :: args, vs, tm, tm1, tmps, h, hF, hz, ht => by
    cases hF with
    | @cons _ c _ cs r hF =>
      simp only [bindA, br_eq] at h
      split at h
      · rename_i hb
        have hb : t < nt := by simpa [Nat.blt_eq] using hb
        have := bind_rel ps args cs (tm.set t (.one a)) tm1 (tmps.setIfInBounds t c) h hF (by simpa using hz) (ht.set (by rw [hz]; exact hb) (.one _ _ r))
        exact ⟨by simp [this.1], this.2⟩
      · simp at h

theorem wide_depth (q : (Fn ro).depth.isSome = true) (m : Nat) : 1 ≤ m := by simp [Fn, Fence.wide] at q

/-- A round. -/
theorem round_step (hR : SoundR P k R) {l b : Nat} {args : List V1} {vs : List Value} (hm : RM B w0 σ M w) (hF : F2 (R1 σ) args vs) (hl : σ l = some (b, 0, 1)) (h : roundA R l args M = .ok v M') :
    ∃ fn tmps asg body, (Instr.yield b ⟨vs⟩).run P w = .ok (.round b fn tmps asg body) w ∧ RoundIn Fence.wide n P b fn tmps asg body w (Ans B w0 σ M v M') := by
  obtain ⟨bk, hbk, h⟩ := oRec_ok h
  cases bk with
  | cells => simp [Blk.asLoop] at h
  | dfr => simp [Blk.asLoop] at h
  | dead => simp [Blk.asLoop] at h
  | loop st pend tml ntl ps asg body d =>
    simp only [Blk.asLoop] at h
    obtain ⟨tm1, htm1, h⟩ := oRec_ok h
    obtain ⟨_, _, hB, fn, tmps, dd, hh, hz, ht, hd⟩ := hm.loopAt hl hbk
    obtain ⟨hlen, ht1, hz1⟩ := bind_rel ps args vs tml tm1 tmps htm1 hF hz ht
    refine ⟨fn, _, asg, body, run_yield hh (by simp [hlen]), ?_⟩
    have hfold : ((⟨ps⟩ : Array Tmp).zip ⟨vs⟩).foldl (fun tmps (p : Tmp × Value) => tmps.setIfInBounds p.1 p.2) tmps = (ps.zip vs).foldl (fun tmps p => tmps.setIfInBounds p.1 p.2) tmps := by
      simp
    show RoundIn Fence.wide n P b fn (((⟨ps⟩ : Array Tmp).zip ⟨vs⟩).foldl (fun tmps (p : Tmp × Value) => tmps.setIfInBounds p.1 p.2) tmps) asg body w _
    rw [hfold]
    refine roundIn_of_wpIn trivial ?_
    cases hc : R.code asg (some l) ntl tm1 [] M with
    | no => rw [hc] at h; simp at h
    | ex id a b c => rw [hc] at h; simp at h
    | rt a b c => rw [hc] at h; simp at h
    | nx tm2 mk2 M2 =>
      rw [hc] at h
      have h : midRound R l ntl body tm2 mk2 M2 = .ok v M' := h
      refine hR.code B w0 σ M w asg (some l) (some b) ntl tm1 [] _ n _ hm ht1 hz1 .nil (.inr ⟨l, b, rfl, rfl, hl⟩) ?_
      rw [hc]
      intro σ2 a2 w2 hs2 hm2 ht2 hz2 hmk2
      cases mk2 with
      | cons => simp [midRound] at h
      | nil =>
        have h : oRec .no (Blk.asLoop .no fun st pend tm' nt' ps asg body' d =>
          br (isReady st) (Rn.rec (motive := fun _ => Out) .no (endRound l none true) (fun id => endRound l (some (.exit id)) false) (endRound l (some .ret) false)
            (R.code body (some l) ntl tm2 [] (M2.upd l (.loop .busy pend tm' nt' ps asg body' d)))) .no) (M2.b.get l) = .ok v M' := h
        obtain ⟨bk2, hbk2, h⟩ := oRec_ok h
        cases bk2 with
        | cells => simp [Blk.asLoop] at h
        | dfr => simp [Blk.asLoop] at h
        | dead => simp [Blk.asLoop] at h
        | loop st2 pend2 tml2 ntl2 ps2 asg2 body2 d2 =>
          simp only [Blk.asLoop] at h
          obtain ⟨hready, h7⟩ := br_ok h
          clear h
          have hready : st2 = .ready := by cases st2 <;> simp [isReady] at hready; rfl
          subst hready
          have hl2 := hs2.le _ _ hl
          obtain ⟨r2, hh2, hst2, hpd2, hm3, hs3⟩ := hm2.setLoop (st' := .busy) (pend' := pend2) hl2 hbk2
          have hr2eq : ({ r2 with state := .busy, pending := pend2 } : Loop) = { r2 with state := .busy } := by cases r2; simp at hpd2; simp [hpd2]
          rw [hr2eq] at hm3
          refine ⟨_, run_beginRound hh2 hst2, ?_⟩
          refine hR.code B w0 σ2 (M2.upd l (.loop .busy pend2 tml2 ntl2 ps2 asg2 body2 d2)) _ body (some l) (some b) ntl tm2 [] a2 n _ hm3 ht2 hz2 hmk2 (.inr ⟨l, b, rfl, rfl, hl2⟩) ?_
          have fin : ∀ (jump : Option Code) (ok : Bool) (hj : ok = jump.isNone) (tm4 : T V) (mk4 : List Nat) (M4 : Mem), endRound l jump ok tm4 mk4 M4 = .ok v M' → ∀ (σ4 : Sg) (w4 : World), Stp σ2 (M2.upd l (.loop .busy pend2 tml2 ntl2 ps2 asg2 body2 d2)) σ4 M4 → RM B w0 σ4 M4 w4 →
              ∃ v' w', (Instr.endRound b jump).run P w4 = .ok v' w' ∧ Ans B w0 σ M v M' (.returned v') w' := by
            intro jump ok hj tm4 mk4 M4 h σ4 w4 hs4 hm4
            cases mk4 with
            | cons => simp [endRound] at h
            | nil =>
              have h : oRec .no (Blk.asLoop .no fun _ _ tm nt ps asg body d => okc (.bool ok) (M4.upd l (.loop (br ok .ready .done) jump tm nt ps asg body d))) (M4.b.get l) = .ok v M' := h
              obtain ⟨bk4, hbk4, h⟩ := oRec_ok h
              cases bk4 with
              | cells => simp [Blk.asLoop] at h
              | dfr => simp [Blk.asLoop] at h
              | dead => simp [Blk.asLoop] at h
              | loop st4 pend4 tml4 ntl4 ps4 asg4 body4 d4 =>
                simp only [Blk.asLoop] at h
                obtain ⟨rfl, rfl⟩ := okc_ok h
                have hl4 := hs4.le _ _ hl2
                obtain ⟨r4, hh4, hst4, hpd4, hm5, hs5⟩ := hm4.setLoop (st' := br ok .ready .done) (pend' := jump) hl4 hbk4
                have hend := run_endRound (P := P) jump hh4
                have hst : (if jump.isNone then LoopState.ready else .done) = br ok .ready .done := by rw [hj]; cases jump <;> rfl
                rw [hst] at hend
                exact ⟨_, _, hend, σ4, _, rfl, ((hs2.trans hs3).trans hs4).trans hs5, hm5, by rw [← hj]; exact .one _ _ (.c _ _ (.bool _))⟩
          cases hb : R.code body (some l) ntl tm2 [] (M2.upd l (.loop .busy pend2 tml2 ntl2 ps2 asg2 body2 d2)) with
          | no => rw [hb] at h7; simp at h7
          | nx tm4 mk4 M4 => rw [hb] at h7; exact fun σ4 a4 w4 hs4 hm4 _ _ _ => fin none true rfl tm4 mk4 M4 h7 σ4 w4 hs4 hm4
          | ex id tm4 mk4 M4 => rw [hb] at h7; exact fun σ4 a4 w4 hs4 hm4 _ _ _ => fin (some (.exit id)) false rfl tm4 mk4 M4 h7 σ4 w4 hs4 hm4
          | rt tm4 mk4 M4 => rw [hb] at h7; exact fun σ4 a4 w4 hs4 hm4 _ _ _ => fin (some .ret) false rfl tm4 mk4 M4 h7 σ4 w4 hs4 hm4

theorem avsOf_rel : ∀ {l : List ResultVar} {as : List AV}, avsOf P l = some as → F2 (fun r a => avOf P r = some a) l as
  | [], as, h => by simp [avsOf] at h; subst h; exact .nil
  | r :: l, as, h => by
    simp only [avsOf, Option.bind_eq_some_iff] at h
    obtain ⟨a, ha, m, hm, h⟩ := h
    simp at h; subst h
    exact .cons ha (avsOf_rel hm)

def resOf (tmps : Array Value) : ResultVar → Sem Value
  | .tmp t => pure (tmps.getD t undef)
  | .cell a t => do loadVar t (← asAddr (tmps.getD a undef))
theorem results_eq (fn : Func) (tmps : Array Value) : results fn tmps = (do let vs ← fn.results.mapM (resOf tmps); pure (if h : vs.size = 1 then vs[0] else .tuple vs)) := by
  unfold results
  congr 1

theorem res_rel {r : ResultVar} {a : AV} {tmps : Array Value} {x : V1} (ha : avOf P r = some a) (h : a.ev tm M = some x) (hm : RM B w0 σ M w) (ht : RT σ tm tmps) :
    ∃ c, (resOf tmps r).run P w = .ok c w ∧ R1 σ x c := by
  cases r with
  | tmp t =>
    simp [avOf] at ha; subst ha
    have h : oRec none (V.as1 none some) (tm.get t) = some x := h
    cases hv : tm.get t with
    | none => rw [hv] at h; simp at h
    | some u =>
      rw [hv] at h
      cases u with
      | one y =>
        simp [V.as1] at h; subst h
        have := ht t _ hv
        cases this with | one _ _ r => exact ⟨_, rfl, r⟩
      | tup l => simp [V.as1] at h
      | undef => simp [V.as1] at h
  | cell a0 t =>
    simp only [avOf, Option.bind_eq_some_iff] at ha
    obtain ⟨g, hg, s, hs, ha⟩ := ha
    simp at ha; subst ha
    have key : ∀ (f : Nat → Nat → Option V1), oRec none (V.asC none (CV.asPtr none f)) (tm.get a0) = some x → ∃ id off ad, f id off = some x ∧ tmps.getD a0 undef = .pointer (some ad) ∧ RA σ id off ad := by
      intro f h
      cases hv : tm.get a0 with
      | none => rw [hv] at h; simp at h
      | some u =>
        rw [hv] at h
        cases u with
        | one y => cases y with
          | c c =>
            cases c <;> simp [V.asC, CV.asPtr] at h
            have := ht a0 _ hv
            generalize tmps.getD a0 undef = q at this
            cases this with | one _ _ r => cases r with | c _ _ r => cases r with | ptr _ _ ad r => exact ⟨_, _, ad, h, rfl, r⟩
          | agg l => simp [V.asC] at h
        | tup l => simp [V.asC] at h
        | undef => simp [V.asC] at h
    cases g with
    | true =>
      obtain ⟨id, off, ad, hf, hq, r⟩ := key _ h
      cases hl : M.loads id off s with
      | none => rw [hl] at hf; simp at hf
      | some l =>
        rw [hl] at hf
        simp at hf; subst hf
        obtain ⟨cs, hF, hlen, hcs⟩ := hm.cells r hl
        refine ⟨.agg ⟨cs⟩, ?_, .agg _ _ hF⟩
        have hk : cs.length = s := by rw [← forall2_length hF, hlen]
        simp only [resOf, hq, asAddr, Sem.run_bind, Sem.run_pure, Result.andThen_ok, loadVar, run_isAgg' hg, if_true, run_sizeOf' hs, run_loads hk hcs]
    | false =>
      obtain ⟨id, off, ad, hf, hq, r⟩ := key _ h
      cases hl : M.load id off with
      | none => rw [hl] at hf; simp at hf
      | some y =>
        rw [hl] at hf
        simp at hf; subst hf
        obtain ⟨c, hc, r'⟩ := hm.cell r hl
        refine ⟨c, ?_, .c _ _ r'⟩
        simp [resOf, hq, asAddr, loadVar, run_isAgg' hg, hc]

theorem results_rel {fn : Func} {as : List AV} {tmps : Array Value} {vs : List V1} (ha : avsOf P fn.results.toList = some as) (h : avsE tm M as = some vs) (hm : RM B w0 σ M w) (ht : RT σ tm tmps) :
    ∃ c, (results fn tmps).run P w = .ok c w ∧ RV σ (packA vs) c := by
  have hF := avsOf_rel ha
  have key : ∀ (l : List ResultVar) (as : List AV) (vs : List V1), F2 (fun r a => avOf P r = some a) l as → avsE tm M as = some vs →
      ∃ cs : List Value, (l.mapM (resOf tmps)).run P w = .ok cs w ∧ F2 (R1 σ) vs cs := by
    intro l as vs hF
    induction hF generalizing vs with
    | nil => intro h; have h : some [] = some vs := h; simp at h; subst h; exact ⟨[], rfl, .nil⟩
    | @cons r a l as hra hF ih =>
      intro h
      have h : oRec none (fun v => oRec none (fun vs => some (v :: vs)) (avsE tm M as)) (a.ev tm M) = some vs := h
      cases hx : a.ev tm M with
      | none => rw [hx] at h; simp at h
      | some x =>
        rw [hx] at h
        cases hxs : avsE tm M as with
        | none => rw [hxs] at h; simp at h
        | some xs =>
          rw [hxs] at h
          simp at h; subst h
          obtain ⟨cs, h1, h2⟩ := ih _ hxs
          obtain ⟨c, h3, h4⟩ := res_rel hra hx hm ht
          refine ⟨c :: cs, ?_, .cons h4 h2⟩
          rw [List.mapM_cons]
          simp only [Sem.run_bind, h3, h1, Result.andThen_ok, Sem.run_pure]
  obtain ⟨cs, h1, h2⟩ := key _ _ _ hF h
  have hrun : (results fn tmps).run P w = .ok (if h : (⟨cs⟩ : Array Value).size = 1 then (⟨cs⟩ : Array Value)[0] else .tuple ⟨cs⟩) w := by
    rw [results_eq, Array.mapM_eq_mapM_toList]
    simp only [Sem.run_bind, Sem.run_map, Sem.run_pure]
    rw [h1]
    rfl
  rw [hrun]
  refine ⟨_, rfl, ?_⟩
  cases h2 with
  | nil => exact .tup _ _ .nil
  | cons r h2 =>
    cases h2 with
    | nil => exact .one _ _ r
    | cons r2 h2 => exact .tup _ _ (.cons r (.cons r2 h2))

/-- The marks at a function's end. -/
theorem marks_rel {fn : Func} {tmps : Array Value} {Rr : Ending → World → Prop} : ∀ (mk : List Nat) (ds : List Deferred) (σ : Sg) (M M' : Mem) (w : World), unmark mk M = some M' → MK σ mk ds → RM B w0 σ M w →
    (∀ w', RM B w0 σ M' w' → Stp σ M σ M' → ∃ v, (results fn tmps).run P w' = .ok v w' ∧ Rr (.returned v) w') → LeavesInM Fence.wide n P fn tmps Rr ds .returning w := by
  intro mk
  induction mk with
  | nil =>
    intro ds σ M M' w h hmk hm hf
    have h : some M = some M' := h
    simp at h; subst h
    cases hmk
    exact hf w hm (.refl _ _)
  | cons d mk ih =>
    intro ds σ M M' w h hmk hm hf
    cases hmk with
    | @cons _ dd _ ds hd hmk =>
      obtain ⟨b, hb, rfl⟩ := hd
      have h : oRec none (Blk.asDfr none fun o => br o (unmark mk (M.upd d (.dfr false))) none) (M.b.get d) = some M' := h
      cases hbk : M.b.get d with
      | none => rw [hbk] at h; simp at h
      | some bk =>
        rw [hbk] at h
        cases bk with
        | cells => simp [Blk.asDfr] at h
        | loop => simp [Blk.asDfr] at h
        | dead => simp [Blk.asDfr] at h
        | dfr o =>
          cases o with
          | false => simp [Blk.asDfr] at h
          | true =>
            have h : unmark mk (M.upd d (.dfr false)) = some M' := by simpa [Blk.asDfr] using h
            obtain ⟨_, _, hB, hh⟩ := hm.blk _ _ _ _ _ hb hbk
            simp at hh
            have hlt := (hm.dom _ _ _ _ hb).2
            obtain ⟨hm1, hs1⟩ := hm.setObj (k1 := .dfr false) (o := .deferred none) hb hbk trivial trivial (fun c E fz q => by rw [hh] at q; simp at q) hB ⟨rfl, rfl, hB, by rw [World.putObj_heap_same hlt]; rfl⟩
            refine ⟨by simp, .inl ⟨b, _, rfl, run_takeDeferred hh, ?_⟩⟩
            exact ih ds σ _ M' _ h hmk hm1 (fun w' hm' hs' => hf w' hm' (hs1.trans hs'))

/-- A call. -/
theorem callB_step (hR : SoundR P k R) {f : FuncId} {args : List V1} {vs : List Value} (hm : RM B w0 σ M w) (hF : F2 (R1 σ) args vs) (h : callB P R f args M = .ok v M') :
    (∃ (fn : Func) (c : Code), P.funcs[f]? = some fn ∧ fn.body = some c) ∧ CallsIn Fence.wide n P f ⟨vs⟩ w (Ans B w0 σ M v M') := by
  obtain ⟨cf, hcf, h⟩ := oRec_ok h
  simp only [cfOf, Option.bind_eq_some_iff] at hcf
  obtain ⟨fn, hfn, c, hc, as, has, hcf⟩ := hcf
  simp at hcf; subst hcf
  obtain ⟨hle, h⟩ := br_ok h
  have hle : args.length ≤ fn.ntmps := by simpa using hle
  refine ⟨⟨fn, c, hfn, hc⟩, callsIn_of_wp_marks hfn hc trivial ?_⟩
  have hlen := forall2_length hF
  have hz : ((⟨vs⟩ : Array Value) ++ Array.replicate (fn.ntmps - (⟨vs⟩ : Array Value).size) undef).size = fn.ntmps := by simp; omega
  have ht : RT σ (T.puts (args.map V.one) .lf 0) ((⟨vs⟩ : Array Value) ++ Array.replicate (fn.ntmps - (⟨vs⟩ : Array Value).size) undef) := by
    intro t u e
    rw [T.get_puts] at e
    split at e
    · rename_i hb
      simp at e
      obtain ⟨a, ha, rfl⟩ := e
      obtain ⟨y, hy, r⟩ := forall2_get hF _ _ ha
      have hlt : t < vs.length := (List.getElem?_eq_some_iff.1 hy).1
      have : ((⟨vs⟩ : Array Value) ++ Array.replicate (fn.ntmps - (⟨vs⟩ : Array Value).size) undef).getD t undef = y := by
        rw [Array.getD_eq_getD_getElem?, Array.getElem?_append_left (by simpa using hlt)]
        simp [hy]
      rw [this]
      exact .one _ _ r
    · simp at e
  have fin : ∀ (tm' : T V) (mk : List Nat) (M1 : Mem), retE as tm' mk M1 = .ok v M' → ∀ (σ1 : Sg) (a1 : Act) (w1 : World), Stp σ M σ1 M1 → RM B w0 σ1 M1 w1 → RT σ1 tm' a1.tmps → MK σ1 mk a1.defers →
      LeavesInM Fence.wide n P fn a1.tmps (Ans B w0 σ M v M') a1.defers .returning w1 := by
    intro tm' mk M1 h σ1 a1 w1 hs1 hm1 ht1 hmk1
    obtain ⟨M2, hM2, h⟩ := oRec_ok h
    obtain ⟨rs, hrs, h⟩ := oRec_ok h
    simp at h
    obtain ⟨rfl, rfl⟩ := h
    refine marks_rel mk a1.defers σ1 M1 M2 w1 hM2 hmk1 hm1 (fun w' hm' hs' => ?_)
    obtain ⟨c, h1, h2⟩ := results_rel has hrs hm' ht1
    exact ⟨c, h1, σ1, c, rfl, hs1.trans hs', hm', h2⟩
  refine hR.code B w0 σ M w c none none fn.ntmps _ [] _ n _ hm ht hz .nil (.inl ⟨rfl, rfl⟩) ?_
  cases hb : R.code c none fn.ntmps (T.puts (args.map V.one) .lf 0) [] M with
  | no => rw [hb] at h; simp at h
  | ex id tm4 mk4 M4 => rw [hb] at h; simp at h
  | nx tm4 mk4 M4 => rw [hb] at h; exact fun σ4 a4 w4 hs4 hm4 ht4 _ hmk4 => fin tm4 mk4 M4 h σ4 a4 w4 hs4 hm4 ht4 hmk4
  | rt tm4 mk4 M4 => rw [hb] at h; exact fun σ4 a4 w4 hs4 hm4 ht4 _ hmk4 => fin tm4 mk4 M4 h σ4 a4 w4 hs4 hm4 ht4 hmk4

/-- What is known of the functions of which something is known. -/
def Knows (P : Program) (O : FuncId → Bool) : Prop := ∀ f, O f = true → ∀ w : World, Calls P f #[] w fun e w' => e = .returned (.bool true) ∧ Below w.heap.size w w'
theorem knows_none (P : Program) : Knows P noneKnown := fun _ h => by simp [noneKnown] at h
theorem RM.below' (h : RM B w0 σ M w) {w' : World} (b : Below w.heap.size w w') : RM B w0 σ M w' where
  below := h.below.trans (b.mono h.base)
  base := Nat.le_trans h.base b.size
  dom := fun id b' s r e => ⟨(h.dom id b' s r e).1, Nat.lt_of_lt_of_le (h.dom id b' s r e).2 b.size⟩
  fresh := h.fresh
  blk := fun id b' s r k e g => (h.blk id b' s r k e g).world (b.block b' (h.dom id b' s r e).2)
  sep := h.sep
theorem call_step {O : FuncId → Bool} (hO : Knows P O) (hR : SoundR P k R) {f : FuncId} {args : List V1} {vs : List Value} (hm : RM B w0 σ M w) (hF : F2 (R1 σ) args vs) (h : callA P O R f args M = .ok v M') :
    (∃ (fn : Func) (c : Code), P.funcs[f]? = some fn ∧ fn.body = some c) ∧ CallsIn Fence.wide n P f ⟨vs⟩ w (Ans B w0 σ M v M') := by
  unfold callA at h
  cases ho : O f with
  | false => rw [ho] at h; exact callB_step hR hm hF h
  | true =>
    rw [ho, br_true] at h
    obtain ⟨cf, hcf, h⟩ := oRec_ok h
    simp only [cfOf, Option.bind_eq_some_iff] at hcf
    obtain ⟨fn, hfn, c, hc, _⟩ := hcf
    refine ⟨⟨fn, c, hfn, hc⟩, ?_⟩
    cases args with
    | cons => simp at h
    | nil =>
      cases hF
      simp at h
      obtain ⟨rfl, rfl⟩ := h
      refine callsIn_wide.2 ((hO f ho w).mono fun e w' ⟨he, hb⟩ => ?_)
      exact ⟨σ, _, he, .refl _ _, hm.below' hb, .one _ _ (.c _ _ (.bool true))⟩

/-- Behind a range over a function. -/
theorem range_step (hP : Good P) (hR : SoundR P k R) {g : AR} {g' : Operand} {ps : Array Tmp} {asg body : Code} {mk : List Nat} {a : Act} {M0 : Mem} {mark : List Deferred} {d dd : Nat} {wl : World}
    (eg : arOf g' = some g) (hg0 : Hd σ tm a.eval g')
    (hfence : ∀ fn, (Instr.enterLoop fn a.tmps ps asg body (Fn ro).round).run P w = .ok (wl.heap.size, mark) (wl.alloc (.loop { state := .ready, pending := none, fn, tmps := a.tmps, params := ps, assign := asg, body, defers := dd })))
    (hm : RM B w0 σ M wl) (hs0 : Stp σ M0 σ M) (hd : σ d = some (dd, 0, 1)) (ht : RT σ tm a.tmps) (hz : a.tmps.size = nt) (hmk : MK σ mk (mark ++ a.defers))
    (h : PostR B w0 σ M0 nt Q (range1 R g ps.toList asg body nt tm d mk M)) : (Code.rangeFunc g' ps asg body).wpIn (Fn ro) n P Q a w := by
  obtain ⟨fv, hfv, h⟩ := post_evC h
  have rf := hg0.c eg hfv
  generalize hq : a.eval g' = gv at rf
  cases fv <;> (try exact h.elim)
  rename_i hh caps
  cases rf with
  | fn _ _ cs hcs =>
    have h : PostR B w0 σ M0 nt Q (Out.bind .no (fun _ M' => endRange M.next tm mk M') (R.call hh (.c (.yld M.next) :: caps.map capV) (M.put (.loop .ready none tm nt ps.toList asg body d)))) := h
    cases hc : R.call hh (.c (.yld M.next) :: caps.map capV) (M.put (.loop .ready none tm nt ps.toList asg body d)) with
    | no => rw [hc] at h; exact h.elim
    | ok v1 M1 =>
      rw [hc] at h
      have h : PostR B w0 σ M0 nt Q (endRange M.next tm mk M1) := h
      refine wpIn_rangeFunc fun fn _ => ?_
      have hno := none_of_next hm (Nat.le_refl _)
      have hle := Sg.upd_le (x := (wl.heap.size, 0, 1)) hno
      have hB := hm.base
      -- the record is placed
      have hm1 : RM B w0 (σ.upd M.next (wl.heap.size, 0, 1)) (M.put (.loop .ready none tm nt ps.toList asg body d)) (wl.alloc (.loop { state := .ready, pending := none, fn, tmps := a.tmps, params := ps, assign := asg, body, defers := dd })) :=
        (hm.put _).place (id := M.next) (k := .loop .ready none tm nt ps.toList asg body d) (Nat.lt_succ_self _) hno (by rw [get_put, if_pos rfl]) _ ⟨rfl, rfl, hB, fn, a.tmps, dd, heap_push_new _ _, hz, ht.mono hle, hle _ _ hd⟩
      have hs1 := Stp.placed hm (.loop .ready none tm nt ps.toList asg body d) (wl.heap.size, 0, 1)
      have hl := Sg.upd_same σ M.next (wl.heap.size, 0, 1)
      obtain ⟨⟨fnc, cd, hfn, hcd⟩, hcall⟩ := hR.call B w0 _ _ _ hh (.c (.yld M.next) :: caps.map capV) (.func (.yield wl.heap.size) #[] #[] :: cs) v1 M1 (n - 1) hm1
        (.cons (.c _ _ (.yld _ _ hl)) (caps_rel (forall2_mono (fun _ _ ⟨ad, r, e⟩ => ⟨ad, r.mono hle, e⟩) hcs))) hc
      have hname := hP.names hh fnc hfn (by rw [hcd]; rfl)
      refine ⟨wl.heap.size, mark, (wl.alloc (.loop { state := .ready, pending := none, fn, tmps := a.tmps, params := ps, assign := asg, body, defers := dd })), { target := .fn (.func hh) ⟨cs⟩, args := #[.func (.yield wl.heap.size) #[] #[]] }, (wl.alloc (.loop { state := .ready, pending := none, fn, tmps := a.tmps, params := ps, assign := asg, body, defers := dd })), hh, ⟨.func (.yield wl.heap.size) #[] #[] :: cs⟩, (wl.alloc (.loop { state := .ready, pending := none, fn, tmps := a.tmps, params := ps, assign := asg, body, defers := dd })), hfence fn, ?_, fun _ _ => trivial, ?_, fun q => wide_depth q n, ?_⟩
      · have e : (#[Operand.const (.func (.yield wl.heap.size) #[] #[])] : Array Operand).map a.eval = #[.func (.yield wl.heap.size) #[] #[]] := by simp [Act.eval]
        simp only [resolve, e, hq, Deferred.ofValue, Sem.run_pure, Array.empty_append]
      · simp only [invoke, callFunc, Sem.run_bind, run_program, Result.andThen_ok, hfn, hname, hcd]
        simp
      have hcall : CallsIn (Fn ro) (n - 1) P hh ⟨.func (.yield wl.heap.size) #[] #[] :: cs⟩ (wl.alloc (.loop { state := .ready, pending := none, fn, tmps := a.tmps, params := ps, assign := asg, body, defers := dd })) (Ans B w0 (σ.upd M.next (wl.heap.size, 0, 1)) (M.put (.loop .ready none tm nt ps.toList asg body d)) v1 M1) := hcall
      refine hcall.mono ?_
      rintro e w3 ⟨σ3, c3, rfl, hs3, hm3, hv3⟩
      obtain ⟨bk, hbk, h⟩ := post_oRec h
      cases bk with
      | cells => exact h.elim
      | dfr => exact h.elim
      | dead => exact h.elim
      | loop st pend tml ntl psl asgl bodyl dl =>
        have h : PostR B w0 σ M0 nt Q (br (isBusy st) .no (jumpE pend tm mk (M1.upd M.next (.loop .exhausted pend tml ntl psl asgl bodyl dl)))) := h
        have hl3 := hs3.le _ _ hl
        obtain ⟨r, hhr, hst, hpd, hm4, hs4⟩ := hm3.setLoop (st' := .exhausted) (pend' := pend) hl3 hbk
        have hnb : isBusy st = false := by
          cases hb : isBusy st with
          | false => rfl
          | true => rw [hb] at h; exact h.elim
        rw [hnb] at h
        have h : PostR B w0 σ M0 nt Q (jumpE pend tm mk (M1.upd M.next (.loop .exhausted pend tml ntl psl asgl bodyl dl))) := h
        have hstb : r.state ≠ .busy := by rw [hst]; intro q; rw [q] at hnb; simp [isBusy] at hnb
        have hrq : ({ r with state := .exhausted, pending := pend } : Loop) = { r with state := .exhausted } := by cases r; simp at hpd; simp [hpd]
        rw [hrq] at hm4
        refine ⟨pend, _, by rw [← hpd]; exact run_endLoop hhr hstb, ?_⟩
        have hsAll : Stp σ M0 σ3 (M1.upd M.next (.loop .exhausted pend tml ntl psl asgl bodyl dl)) := ((hs0.trans hs1).trans hs3).trans hs4
        have hle3 : Le σ σ3 := hle.trans hs3.le
        have ht3 : RT σ3 tm a.tmps := ht.mono hle3
        have hmk3 : MK σ3 mk (mark ++ a.defers) := hmk.mono hle3
        cases pend with
        | none => exact h σ3 { a with defers := mark ++ a.defers } _ hsAll hm4 ht3 hz hmk3
        | some j =>
          cases j <;> (try exact h.elim)
          · exact wpIn_exit (h σ3 { a with defers := mark ++ a.defers } _ hsAll hm4 ht3 hz hmk3)
          · exact wpIn_ret (h σ3 { a with defers := mark ++ a.defers } _ hsAll hm4 ht3 hz hmk3)

/-- Code that is no loop. -/
theorem code_step (hP : Good P) (hR : SoundR P k R) {c : Code} {mk : List Nat} {a : Act} (hm : RM B w0 σ M w) (ht : RT σ tm a.tmps) (hz : a.tmps.size = nt) (hmk : MK σ mk a.defers) (hro : FRel σ rnd ro)
    (hnl : ∀ c', c ≠ .loop c') (h : PostR B w0 σ M nt Q (codeC c P R rnd nt tm mk M)) : c.wpIn (Fn ro) n P Q a w := by
  cases c with
  | skip => exact wpIn_skip (h σ a w (.refl _ _) hm ht hz hmk)
  | label l => exact wpIn_label (h σ a w (.refl _ _) hm ht hz hmk)
  | exit id => exact wpIn_exit (h σ a w (.refl _ _) hm ht hz hmk)
  | ret => exact wpIn_ret (h σ a w (.refl _ _) hm ht hz hmk)
  | refuse s => exact h.elim
  | goto l => exact h.elim
  | scope c => exact h.elim
  | loop c => exact absurd rfl (hnl c)
  | region id ops draw =>
    have h : PostR B w0 σ M nt Q (St.bind .no (fun tm' M' => .nx tm' mk M') (br draw (drawR P ops nt R tm M) (listR P ops nt R tm M))) := h
    cases draw with
    | true =>
      rw [br_true] at h
      cases hd : drawR P ops nt R tm M with
      | no => rw [hd] at h; exact h.elim
      | ok tm' M' =>
        rw [hd] at h
        exact draw_sound hP hR hd hm ht hz (fun σ' a' w' hs hm' ht' hz' hd' => h σ' a' w' hs hm' ht' hz' (by rw [hd']; exact hmk.mono hs.le))
    | false =>
      rw [br_false] at h
      cases hl : listR P ops nt R tm M with
      | no => rw [hl] at h; exact h.elim
      | ok tm' M' =>
        rw [hl] at h
        unfold listR at hl
        cases hcs : cosOf P ops nt ops.toList with
        | none => rw [hcs] at hl; simp at hl
        | some cs =>
          rw [hcs] at hl
          refine wpIn_region ?_
          have := ops_sound (ro := ro) (n := n) hP hR (Q := Q) ops.toList 0 cs σ M tm tm' M' a w (by simp) hcs hl hm ht hz (fun σ' a' w' hs hm' ht' hz' hd' => h σ' a' w' hs hm' ht' hz' (by rw [hd']; exact hmk.mono hs.le))
          simpa using this
  | seq x y =>
    have h : PostR B w0 σ M nt Q (Rn.rec (motive := fun _ => Rn) .no (fun tm mk M => R.code y rnd nt tm mk M) .ex .rt (R.code x rnd nt tm mk M)) := h
    refine wpIn_seq (hR.code B w0 σ M w x rnd ro nt tm mk a n _ hm ht hz hmk hro ?_)
    cases hx : R.code x rnd nt tm mk M with
    | no => rw [hx] at h; exact h.elim
    | ex id tm1 mk1 M1 => rw [hx] at h; exact h
    | rt tm1 mk1 M1 => rw [hx] at h; exact h
    | nx tm1 mk1 M1 =>
      rw [hx] at h
      intro σ1 a1 w1 hs1 hm1 ht1 hz1 hmk1
      exact hR.code B w0 σ1 M1 w1 y rnd ro nt tm1 mk1 a1 n Q hm1 ht1 hz1 hmk1 (hro.mono hs1.le) (PostR.later hs1 h)
  | cond x y z =>
    obtain ⟨x', ex, h⟩ := post_oRec h
    obtain ⟨cv, hcv, h⟩ := post_evC h
    cases cv <;> (try exact h.elim)
    rename_i t
    have h : PostR B w0 σ M nt Q (R.code (br t y z) rnd nt tm mk M) := h
    have e := (ht.hd x).bool ex hcv
    refine wpIn_cond e ?_
    rw [br_eq] at h
    exact hR.code B w0 σ M w _ rnd ro nt tm mk a n Q hm ht hz hmk hro h
  | block id c =>
    have h : PostR B w0 σ M nt Q (Rn.rec (motive := fun _ => Rn) .no .nx (fun id' tm mk M => br (Nat.beq id' id) (.nx tm mk M) (.ex id' tm mk M)) .rt (R.code c rnd nt tm mk M)) := h
    refine wpIn_block (hR.code B w0 σ M w c rnd ro nt tm mk a n _ hm ht hz hmk hro ?_)
    cases hx : R.code c rnd nt tm mk M with
    | no => rw [hx] at h; exact h.elim
    | nx tm1 mk1 M1 => rw [hx] at h; exact h
    | rt tm1 mk1 M1 => rw [hx] at h; exact h
    | ex id' tm1 mk1 M1 =>
      rw [hx] at h
      have h : PostR B w0 σ M nt Q (br (Nat.beq id' id) (.nx tm1 mk1 M1) (.ex id' tm1 mk1 M1)) := h
      rw [br_eq] at h
      intro σ1 a1 w1 hs1 hm1 ht1 hz1 hmk1
      show (if id' = id then Q .normal a1 w1 else Q (.exit id') a1 w1)
      by_cases hid : id' = id
      · rw [if_pos (by simpa using hid)] at h
        rw [if_pos hid]; exact h σ1 a1 w1 hs1 hm1 ht1 hz1 hmk1
      · rw [if_neg (by simpa using hid)] at h
        rw [if_neg hid]; exact h σ1 a1 w1 hs1 hm1 ht1 hz1 hmk1
  | rangeFunc g ps asg body =>
    obtain ⟨g', eg, h⟩ := post_oRec h
    rcases hro with ⟨rfl, rfl⟩ | ⟨l, b, rfl, rfl, hl⟩
    · -- an outermost loop
      have h : PostR B w0 σ M nt Q (range1 R g' ps.toList asg body nt tm M.next (M.next :: mk) (M.put (.dfr true))) := h
      have hno := none_of_next hm (Nat.le_refl _)
      have hle := Sg.upd_le (x := (w.heap.size, 0, 1)) hno
      have hm1 : RM B w0 (σ.upd M.next (w.heap.size, 0, 1)) (M.put (.dfr true)) (w.alloc (.deferred (some []))) :=
        (hm.put _).place (id := M.next) (k := .dfr true) (Nat.lt_succ_self _) hno (by rw [get_put, if_pos rfl]) _ ⟨rfl, rfl, hm.base, heap_push_new _ _⟩
      have hs1 := Stp.placed hm (.dfr true) (w.heap.size, 0, 1)
      have hd := Sg.upd_same σ M.next (w.heap.size, 0, 1)
      refine range_step (σ := σ.upd M.next (w.heap.size, 0, 1)) (M0 := M.put (.dfr true)) (M := M.put (.dfr true)) (wl := w.alloc (.deferred (some []))) (mark := [{ target := .collected w.heap.size, args := #[] }]) (dd := w.heap.size) (d := M.next) (mk := M.next :: mk)
        hP hR eg ((ht.mono hle).hd g) (fun fn => ?_) hm1 (.refl _ _) hd (ht.mono hle) hz (.cons ⟨_, hd, rfl⟩ (hmk.mono hle)) (PostR.later hs1 h)
      have := run_enterLoop_outer (P := P) (w := w) fn a.tmps ps asg body
      simpa [World.size_alloc, Fn_none, Fence.wide] using this
    · -- a loop in a round
      have h : PostR B w0 σ M nt Q (oRec .no (Blk.asLoop .no fun _ _ _ _ _ _ _ d => range1 R g' ps.toList asg body nt tm d mk M) (M.b.get l)) := h
      obtain ⟨bk, hbk, h⟩ := post_oRec h
      cases bk with
      | cells => exact h.elim
      | dfr => exact h.elim
      | dead => exact h.elim
      | loop st pend tml ntl psl asgl bodyl d =>
        obtain ⟨_, _, hB, fnl, tmpsl, dd, hh, hzl, htl, hd⟩ := hm.loopAt hl hbk
        exact range_step (σ := σ) (M0 := M) (M := M) (wl := w) (mark := []) (dd := dd) (d := d) (mk := mk) hP hR eg (ht.hd g) (fun fn => run_enterLoop_inner hh fn a.tmps ps asg body) hm (.refl _ _) hd ht hz hmk h

/-- **THE EVALUATOR IS SOUND.** -/
theorem sound (hP : Good P) {O : FuncId → Bool} (hO : Knows P O) : ∀ k, SoundR P k (runA P O k) := by
  intro k
  induction k with
  | zero =>
    exact ⟨fun _ _ _ _ _ _ _ _ _ _ _ _ _ _ _ _ _ _ _ h => h.elim, fun _ _ _ _ _ _ _ _ _ _ _ _ _ _ _ _ _ _ _ h => h.elim, fun _ _ _ _ _ _ _ _ _ _ _ _ _ h => by simp [runA, rec0] at h, fun _ _ _ _ _ _ _ _ _ _ _ _ _ _ _ h => by simp [runA, rec0] at h⟩
  | succ k ih =>
    have loop : ∀ (B : Nat) (w0 : World) (σ : Sg) (M : Mem) (w : World) (c : Code) (rnd ro : Option Nat) (nt : Nat) (tm : T V) (mk : List Nat) (a : Act) (n : Nat) (Q : Exit → Act → World → Prop),
        RM B w0 σ M w → RT σ tm a.tmps → a.tmps.size = nt → MK σ mk a.defers → FRel σ rnd ro → PostR B w0 σ M nt Q ((runA P O (k + 1)).code (.loop c) rnd nt tm mk M) → Code.roundsIn (Fn ro) n P c Q (k + 1) a w := by
      intro B w0 σ M w c rnd ro nt tm mk a n Q hm ht hz hmk hro h
      have h : PostR B w0 σ M nt Q (Rn.rec (motive := fun _ => Rn) .no (fun tm mk M => (runA P O k).code (.loop c) rnd nt tm mk M) .ex .rt ((runA P O k).code c rnd nt tm mk M)) := h
      refine ih.code B w0 σ M w c rnd ro nt tm mk a n _ hm ht hz hmk hro ?_
      cases hx : (runA P O k).code c rnd nt tm mk M with
      | no => rw [hx] at h; exact h.elim
      | ex id tm1 mk1 M1 => rw [hx] at h; exact h
      | rt tm1 mk1 M1 => rw [hx] at h; exact h
      | nx tm1 mk1 M1 =>
        rw [hx] at h
        intro σ1 a1 w1 hs1 hm1 ht1 hz1 hmk1
        exact ih.loop B w0 σ1 M1 w1 c rnd ro nt tm1 mk1 a1 n Q hm1 ht1 hz1 hmk1 (hro.mono hs1.le) (PostR.later hs1 h)
    refine ⟨?_, loop, ?_, ?_⟩
    · intro B w0 σ M w c rnd ro nt tm mk a n Q hm ht hz hmk hro h
      by_cases hl : ∃ c', c = .loop c'
      · obtain ⟨c', rfl⟩ := hl
        exact wpIn_loop_rounds (k + 1) (loop B w0 σ M w c' rnd ro nt tm mk a n Q hm ht hz hmk hro h)
      · exact code_step hP ih hm ht hz hmk hro (fun c' q => hl ⟨c', q⟩) h
    · intro B w0 σ M w f args vs v M' n hm hF h
      exact call_step hO ih hm hF h
    · intro B w0 σ M w l b args vs v M' n hm hF hl h
      exact round_step ih hm hF hl h
end
end Go.Ab
