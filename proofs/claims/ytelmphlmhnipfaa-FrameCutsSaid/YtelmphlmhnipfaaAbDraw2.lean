/- A region that draws its order: the plan, and what waits. Condition: Good P. -/
import Derived.Test.YtelmphlmhnipfaaAbDraw
namespace Go.Ab
open Go.RowKit

/-! ### The plan -/
theorem firstQ_mem {done : Nat} {eff : Bool} : ∀ {l : List PI} {p : PI}, firstQ done eff l = some p → p ∈ l
  | [], p, h => by simp [firstQ] at h
  | q :: r, p, h => by
    simp only [firstQ, Bool.cond_eq_ite] at h
    split at h
    · simp at h; subst h; simp
    · exact List.mem_cons_of_mem _ (firstQ_mem h)
theorem without_mem {i : Nat} : ∀ {l : List PI} {p : PI}, p ∈ without i l → p ∈ l
  | [], p, h => by simp [without] at h
  | q :: r, p, h => by
    simp only [without, Bool.cond_eq_ite] at h
    split at h
    · exact List.mem_cons_of_mem _ h
    · rcases List.mem_cons.1 h with rfl | h
      · simp
      · exact List.mem_cons_of_mem _ (without_mem h)
theorem canon_mem : ∀ (n done : Nat) (l : List PI) (p : PI), p ∈ canon n done l → p ∈ l
  | 0, _, _, _, h => by simp [canon] at h
  | n + 1, done, l, p, h => by
    unfold canon at h
    split at h
    · rename_i q hq
      rcases List.mem_cons.1 h with rfl | h
      · exact firstQ_mem hq
      · exact without_mem (canon_mem n _ _ p h)
    · split at h
      · rename_i q hq
        rcases List.mem_cons.1 h with rfl | h
        · exact firstQ_mem hq
        · exact without_mem (canon_mem n _ _ p h)
      · simp at h
theorem pairsOk_pw {ops : Array Oper} {ms : List Nat} : ∀ {l : List PI}, pairsOk ops ms l = true → l.Pairwise fun p q => pairOk ops ms p q = true
  | [], _ => .nil
  | p :: r, h => by
    simp only [pairsOk, Bool.and_eq_true, List.all_eq_true] at h
    exact .cons h.1 (pairsOk_pw h.2)

/-- What is known of an item of the plan. -/
structure PF (P : Program) (ops : Array Oper) (nt : Nat) (p : PI) : Prop where
  at_ : ops[p.i]? = some p.o
  co : coOf P ops nt p.o = some p.c
  kd : p.k = p.c.x.kind
  lay : layOk p = true
  edges : ∀ e ∈ p.o.after, Region.binds .any e = true → e.on < p.i

theorem items_pf {P : Program} {ops : Array Oper} {nt : Nat} : ∀ (l : List Oper) (cs : List CO) (j : Nat), ops.toList.drop j = l → cosOf P ops nt l = some cs → ∀ p ∈ itemsOf l cs j, ops[p.i]? = some p.o ∧ coOf P ops nt p.o = some p.c ∧ p.k = p.c.x.kind
  | [], cs, j, _, hc, p, hp => by simp [itemsOf] at hp
  | o :: l, cs, j, hl, hc, p, hp => by
    simp only [cosOf, Option.bind_eq_some_iff] at hc
    obtain ⟨c, hco, cs', hcs', hc⟩ := hc
    simp at hc; subst hc
    simp only [itemsOf] at hp
    rcases List.mem_cons.1 hp with rfl | hp
    · refine ⟨?_, hco, rfl⟩
      have := congrArg (fun l => l[0]?) hl
      simpa using this
    · exact items_pf l cs' (j + 1) (by have := congrArg (List.drop 1) hl; simpa [Nat.add_comm] using this) hcs' p hp

theorem plan_facts {P : Program} {ops : Array Oper} {nt : Nat} {cs : List CO} (hc : cosOf P ops nt ops.toList = some cs) (hp : planOk ops cs = true) :
    (∀ p ∈ planOf ops cs, PF P ops nt p) ∧ ((planOf ops cs).Pairwise fun p q => pairOk ops (masks ops) p q = true) ∧ (∀ i, i < ops.size → ∃ p ∈ planOf ops cs, p.i = i) ∧ (planOf ops cs).length = ops.size := by
  simp only [planOk, Bool.and_eq_true, Nat.beq_eq, List.all_eq_true, List.any_eq_true, List.mem_range] at hp
  obtain ⟨⟨⟨⟨h1, h2⟩, h3⟩, h4⟩, h5⟩ := hp
  refine ⟨fun p hp => ?_, pairsOk_pw h2, fun i hi => ?_, h1⟩
  · have hmem := canon_mem _ _ _ p hp
    obtain ⟨a, b, c⟩ := items_pf ops.toList cs 0 (by simp) hc p hmem
    refine ⟨a, b, c, h4 p hmem, fun e he hb => ?_⟩
    have := h5 p hmem
    rw [← Array.all_toList, List.all_eq_true] at this
    have := this e (by simpa using he)
    rw [hb] at this
    simpa [Nat.blt_eq] using this
  · obtain ⟨p, hp, hi'⟩ := h3 i hi
    exact ⟨p, hp, by simpa using hi'⟩

theorem pairOk_ne {ops : Array Oper} {ms : List Nat} {p q : PI} (h : pairOk ops ms p q = true) : p.i ≠ q.i := by
  simp only [pairOk, Bool.and_eq_true] at h
  intro hh
  have h1 := h.1.1.1
  have h2 : Nat.beq q.i q.i = true := by rw [Nat.beq_eq]
  rw [hh, h2] at h1
  simp at h1
theorem pairOk_eff {ops : Array Oper} {ms : List Nat} {p q : PI} (h : pairOk ops ms p q = true) (he : p.k.isEff = true) : anc ms q.i p.i = true := by
  simp only [pairOk, Bool.and_eq_true] at h
  have := h.1.1.2
  rw [he] at this
  simpa using this
theorem pairOk_dst {ops : Array Oper} {ms : List Nat} {p q : PI} (h : pairOk ops ms p q = true) {d : Tmp} (h1 : p.o.dst = some d) (h2 : q.o.dst = some d) : False := by
  simp only [pairOk, Bool.and_eq_true] at h
  have := h.1.2
  simp [dstNe, h1, h2] at this
theorem pairOk_apart {ops : Array Oper} {ms : List Nat} {p q : PI} (h : pairOk ops ms p q = true) : anc ms q.i p.i = true ∨ (∀ d, p.o.dst = some d → d ∉ usesOf ops q.o) ∧ (∀ d, q.o.dst = some d → d ∉ usesOf ops p.o) := by
  simp only [pairOk, Bool.and_eq_true] at h
  have h := h.2
  simp only [apart2, Bool.or_eq_true, Bool.and_eq_true] at h
  rcases h with h | ⟨h1, h2⟩
  · exact .inl h
  · refine .inr ⟨fun d hd hm => ?_, fun d hd hm => ?_⟩
    · rw [hd] at h1
      simp at h1
      exact h1 d hm rfl
    · rw [hd] at h2
      simp at h2
      exact h2 d hm rfl

/-- Every operation's edges bind it behind smaller numbers. -/
def Bounded (ops : Array Oper) : Prop := ∀ i o, ops[i]? = some o → ∀ e ∈ o.after, Region.binds .any e = true → e.on < i
theorem anc_lt {ops : Array Oper} (hb : Bounded ops) {i j : Nat} (h : anc (masks ops) i j = true) : j < i := by
  refine anc_behind h (fun k => k < i) (fun k o hk ho e he hbe => Nat.lt_trans (hb k o ho e he hbe) hk) (fun o ho e he hbe => hb i o ho e he hbe)

/-! ### What waits -/
structure PD where
  p : PI
  tm : T V
  v : V
  id : Nat
  al : Bool

section
variable {P : Program} {B : Nat} {w0 w : World} {k : Nat} {R : Rec} {ro : Option Nat} {n : Nat}

/-- What is known of memory by one that waits. -/
def PM (R : Rec) (ms : List Nat) (σ : Sg) (M0 M : Mem) (last : Option Nat) (wl : List (PI × T V × V)) (x : PD) : Prop :=
  (x.al = false ∧ ((∀ M2, x.p.c.ev R x.tm M2 = .ok x.v M2) ∨ (x.p.k.isRead = true ∧ wantG x.p.c.guard x.tm = some true ∧ (x.p, x.tm, x.v) ∈ wl ∧ ∀ e, last = some e → anc ms e x.p.i = false))) ∨
  (x.al = true ∧ isLay x.p.o.op = true ∧ wantG x.p.c.guard x.tm = some true ∧ σ x.id = none ∧ M0.next ≤ x.id ∧ x.id < M.next ∧
    ∃ a cs mk, x.p.c.x = .op a ∧ (∀ M2, a.ev x.tm M2 = lay M2 cs mk) ∧ x.v = .one (.c (mk x.id)) ∧ M.b.get x.id = some (.cells cs.length (T.puts cs .lf 0) true))

structure DInv (P : Program) (ops : Array Oper) (nt : Nat) (R : Rec) (B : Nat) (w0 : World) (σ0 : Sg) (M0 : Mem) (a0 : Act) (listed : Array Bool) (pd : List PD) (rest : List PI) (last : Option Nat) (wl : List (PI × T V × V)) (tm : T V) (M : Mem) (σ : Sg) (a : Act) (w : World) : Prop where
  size : listed.size = ops.size
  lst : ∀ i, i < ops.size → (listed.getD i true = false ↔ ∃ p ∈ pd.map (·.p) ++ rest, p.i = i)
  clo : Closed ops (fun i => listed.getD i false = true)
  bd : Bounded ops
  la : ∀ e, last = some e → listed.getD e false = true
  pw : (pd.map (·.p) ++ rest).Pairwise fun p q => pairOk ops (masks ops) p q = true
  sub : ∀ p ∈ pd.map (·.p) ++ rest, PF P ops nt p
  quiet : ∀ x ∈ pd, x.p.k.isEff = false
  ti : ∀ t v, tm.get t = some v → (∀ y ∈ pd, y.p.o.dst = some t → v = y.v) ∧ ((∀ y ∈ pd, y.p.o.dst ≠ some t) → RV σ v (a.tmps.getD t undef))
  hx : ∀ x ∈ pd, ∀ t ∈ usesOf ops x.p.o, ∀ v, x.tm.get t = some v → (∀ y ∈ pd, y.p.o.dst = some t → anc (masks ops) x.p.i y.p.i = true → v = y.v) ∧
    ((∀ y ∈ pd, y.p.o.dst = some t → anc (masks ops) x.p.i y.p.i = false) → RV σ v (a.tmps.getD t undef))
  pm : ∀ x ∈ pd, PM R (masks ops) σ M0 M last wl x
  ids : pd.Pairwise fun x y => x.al = true → x.id < y.id
  rm : RM B w0 σ M w
  stp : Stp σ0 M0 σ M
  zs : a.tmps.size = nt
  df : a.defers = a0.defers

theorem PF.lt {P : Program} {ops : Array Oper} {nt : Nat} {p : PI} (h : PF P ops nt p) : p.i < ops.size := (Array.getElem?_eq_some_iff.1 h.at_).1
/-- One that is done: what surely comes ahead of it is done. -/
theorem DInv.ahead {ops : Array Oper} {nt : Nat} {σ0 σ : Sg} {M0 M : Mem} {a0 a : Act} {listed : Array Bool} {pd : List PD} {rest : List PI} {last : Option Nat} {wl : List (PI × T V × V)} {tm : T V}
    (I : DInv P ops nt R B w0 σ0 M0 a0 listed pd rest last wl tm M σ a w) {i j : Nat} (hi : listed.getD i false = true) (h : anc (masks ops) i j = true) : listed.getD j false = true :=
  anc_behind h (fun k => listed.getD k false = true) I.clo (fun o ho e he hb => I.clo i o hi ho e he hb)
theorem DInv.not_done {ops : Array Oper} {nt : Nat} {σ0 σ : Sg} {M0 M : Mem} {a0 a : Act} {listed : Array Bool} {pd : List PD} {rest : List PI} {last : Option Nat} {wl : List (PI × T V × V)} {tm : T V}
    (I : DInv P ops nt R B w0 σ0 M0 a0 listed pd rest last wl tm M σ a w) {p : PI} (hp : p ∈ pd.map (·.p) ++ rest) : listed.getD p.i false = false := by
  have hlt := (I.sub p hp).lt
  have h := (I.lst p.i hlt).2 ⟨p, hp, rfl⟩
  have hs : p.i < listed.size := by rw [I.size]; exact hlt
  rw [Array.getD_eq_getD_getElem?] at h ⊢
  simp [hs] at h ⊢
  exact h

theorem co_dst {ops : Array Oper} {nt : Nat} {o : Oper} {c : CO} (hc : coOf P ops nt o = some c) : c.dst = o.dst ∧ (∀ x, o.dst = some x → x < nt) ∧ guardOf ops o = some c.guard ∧ axOf P o.op = some c.x := by
  simp only [coOf, Option.bind_eq_some_iff, Bool.cond_eq_ite] at hc
  obtain ⟨g, hg, x, hx, hc⟩ := hc
  split at hc
  · rename_i hb
    simp at hc; subst hc
    refine ⟨rfl, fun x hx => ?_, hg, hx⟩
    rw [hx] at hb
    simpa [dstOk, Nat.blt_eq] using hb
  · simp at hc

theorem get_putD (d : Option Nat) (v : V) (tm : T V) (t : Nat) : (putD d v tm).get t = if d = some t then some v else tm.get t := by
  cases d with
  | none => simp [putD]
  | some d =>
    show (tm.set d v).get t = _
    rw [T.get_set]
    by_cases h : t = d
    · subst h; simp
    · rw [if_neg h, if_neg (by simpa using Ne.symm h)]
theorem getD_put (d : Option Tmp) (u : Value) (a : Act) (t : Nat) (hd : ∀ x, d = some x → x < a.tmps.size) : (a.put d u).tmps.getD t undef = if d = some t then u else a.tmps.getD t undef := by
  cases d with
  | none => simp [Act.put]
  | some d =>
    show (a.tmps.setIfInBounds d u).getD t undef = _
    rw [getD_set _ _ _ _ (hd d rfl)]
    by_cases h : t = d
    · subst h; simp
    · rw [if_neg h, if_neg (by simpa using Ne.symm h)]

/-- How one operation that went well hangs on memory. -/
theorem quiet_kind {ops : Array Oper} {nt : Nat} {p : PI} (hf : PF P ops nt p) (hq : p.k.isEff = false) {tm : T V} {M M1 : Mem} {v : V} (h : p.c.ev R tm M = .ok v M1) :
    (M1 = M ∧ ∀ M2, p.c.ev R tm M2 = .ok v M2) ∨ (M1 = M ∧ p.k.isRead = true ∧ wantG p.c.guard tm = some true ∧ is1 v = true) ∨
    (isLay p.o.op = true ∧ wantG p.c.guard tm = some true ∧ ∃ a cs mk, p.c.x = .op a ∧ (∀ M2, a.ev tm M2 = lay M2 cs mk) ∧ v = .one (.c (mk M.next)) ∧ M1 = M.new cs) := by
  obtain ⟨b, hb, h2⟩ := oRec_ok h
  cases b with
  | false =>
    rw [br_false] at h2
    simp at h2
    obtain ⟨rfl, rfl⟩ := h2
    refine .inl ⟨rfl, fun M2 => ?_⟩
    unfold CO.ev
    rw [hb]; rfl
  | true =>
    rw [br_true] at h2
    have hkd := hf.kd
    cases hx : p.c.x with
    | call f args => rw [hx] at hkd; rw [hkd] at hq; simp [AX.kind, Kind.isEff] at hq
    | op a =>
      rw [hx] at h2 hkd
      have h2 : a.ev tm M = .ok v M1 := h2
      cases hk : (AX.op a).kind with
      | eff => rw [hkd, hk] at hq; simp [Kind.isEff] at hq
      | pure =>
        obtain ⟨r, hr⟩ := aop_pure a (by simp [AOp.pure, hk]) tm
        have h2' : oRec Out.no (fun v => Out.ok v M) r = Out.ok v M1 := (hr M).symm.trans h2
        obtain ⟨v', rfl, h3⟩ := oRec_ok h2'
        simp at h3
        obtain ⟨rfl, rfl⟩ := h3
        refine .inl ⟨rfl, fun M2 => ?_⟩
        unfold CO.ev
        rw [hb, hx]
        exact hr M2
      | read =>
        have hM := aop_read (by rw [hk]; rfl) h2
        refine .inr (.inl ⟨hM, by rw [hkd, hk]; rfl, hb, ?_⟩)
        cases a <;> simp [AX.kind] at hk
        · obtain ⟨c, hc, he⟩ := evC_ok h2
          obtain ⟨id, off, rfl, he⟩ := asPtr_ok he
          obtain ⟨z, hz, hv⟩ := okO_ok he
          rw [hv.1]; rfl
        · obtain ⟨c, hc, he⟩ := evC_ok h2
          obtain ⟨id, off, rfl, he⟩ := asPtr_ok he
          obtain ⟨l, hl, he⟩ := oRec_ok he
          simp at he
          rw [← he.1]; rfl
      | alloc =>
        have hlay : isLay p.o.op = true := by
          have := hf.lay
          unfold layOk at this
          rw [hkd, hk] at this
          exact this
        rcases aop_lay a (by simp [AOp.alloc', hk]) tm with hno | ⟨cs, mk, hl⟩
        · rw [hno M] at h2; simp at h2
        · rw [hl M] at h2
          obtain ⟨rfl, rfl⟩ := okc_ok h2
          exact .inr (.inr ⟨hlay, hb, a, cs, mk, rfl, hl, rfl, rfl⟩)

/-- One more that waits. -/
theorem DInv.absorb {ops : Array Oper} {nt : Nat} {σ0 σ : Sg} {M0 M M1 : Mem} {a0 a : Act} {listed : Array Bool} {pd : List PD} {p : PI} {rest : List PI} {last : Option Nat} {wl : List (PI × T V × V)} {tm : T V} {v : V}
    (I : DInv P ops nt R B w0 σ0 M0 a0 listed pd (p :: rest) last wl tm M σ a w) (hq : p.k.isEff = false) (h : p.c.ev R tm M = .ok v M1) :
    ∃ x : PD, x.p = p ∧ DInv P ops nt R B w0 σ0 M0 a0 listed (pd ++ [x]) rest last (br (p.k.isRead && is1 v) ((p, tm, v) :: wl) wl) (putD p.c.dst v tm) M1 σ a w := by
  have hpf := I.sub p (by simp)
  obtain ⟨hdst, _, _, _⟩ := co_dst hpf.co
  have hpw := I.pw
  have hlater : ∀ y ∈ pd, pairOk ops (masks ops) y.p p = true := fun y hy => (List.pairwise_append.1 hpw).2.2 y.p (List.mem_map_of_mem hy) p (by simp)
  -- the three kinds
  have kinds := quiet_kind (R := R) hpf hq h
  have hM1 : RM B w0 σ M1 w ∧ Stp σ0 M0 σ M1 ∧ M.next ≤ M1.next ∧ (∀ id, id < M.next → M1.b.get id = M.b.get id) := by
    rcases kinds with ⟨rfl, _⟩ | ⟨rfl, _⟩ | ⟨_, _, a', cs, mk, _, _, _, rfl⟩
    · exact ⟨I.rm, I.stp, Nat.le_refl _, fun _ _ => rfl⟩
    · exact ⟨I.rm, I.stp, Nat.le_refl _, fun _ _ => rfl⟩
    · exact ⟨I.rm.put _, I.stp.trans (Stp.put _ _ _), Nat.le_succ _, fun id hi => by show (M.put _).b.get id = _; rw [get_put, if_neg (by omega)]⟩
  obtain ⟨hrm, hstp, hnx, hkeep⟩ := hM1
  have hwl : ∀ q ∈ wl, q ∈ br (p.k.isRead && is1 v) ((p, tm, v) :: wl) wl := by
    intro q hq'
    rw [br_eq]; split
    · exact List.mem_cons_of_mem _ hq'
    · exact hq'
  have hpmold : ∀ x ∈ pd, PM R (masks ops) σ M0 M1 last (br (p.k.isRead && is1 v) ((p, tm, v) :: wl) wl) x := by
    intro x hx
    rcases I.pm x hx with ⟨h1, h2 | ⟨h2, h3, h4, h5⟩⟩ | ⟨h1, h2, h3, h4, h5, h6, a', cs, mk, h7, h8, h9, h10⟩
    · exact .inl ⟨h1, .inl h2⟩
    · exact .inl ⟨h1, .inr ⟨h2, h3, hwl _ h4, h5⟩⟩
    · exact .inr ⟨h1, h2, h3, h4, h5, by omega, a', cs, mk, h7, h8, h9, by rw [hkeep _ h6]; exact h10⟩
  -- the new one
  obtain ⟨al, hnew⟩ : ∃ al : Bool, PM R (masks ops) σ M0 M1 last (br (p.k.isRead && is1 v) ((p, tm, v) :: wl) wl) ⟨p, tm, v, M.next, al⟩ := by
    rcases kinds with ⟨rfl, hA⟩ | ⟨rfl, hr, hg, h1⟩ | ⟨hlay, hg, a', cs, mk, hxa, hl, hv, rfl⟩
    · exact ⟨false, .inl ⟨rfl, .inl hA⟩⟩
    · refine ⟨false, .inl ⟨rfl, .inr ⟨hr, hg, ?_, ?_⟩⟩⟩
      · rw [hr, h1]; simp
      · intro e he
        cases hb : anc (masks ops) e p.i with
        | false => rfl
        | true =>
          have h1 := I.ahead (I.la e he) hb
          rw [I.not_done (p := p) (by simp)] at h1; simp at h1
    · refine ⟨true, .inr ⟨rfl, hlay, hg, none_of_next I.rm (Nat.le_refl _), I.stp.next, Nat.lt_succ_self _, a', cs, mk, hxa, hl, hv, ?_⟩⟩
      show (M.put _).b.get M.next = _
      rw [get_put, if_pos rfl]
  refine ⟨⟨p, tm, v, M.next, al⟩, rfl, ?_⟩
  have hmap : (pd ++ [(⟨p, tm, v, M.next, al⟩ : PD)]).map (·.p) ++ rest = pd.map (·.p) ++ p :: rest := by simp
  refine ⟨I.size, fun i hi => by rw [hmap]; exact I.lst i hi, I.clo, I.bd, I.la, by rw [hmap]; exact hpw, fun q hq' => I.sub q (by rw [hmap] at hq'; exact hq'), fun x hx => ?_, fun t u hu => ?_, fun x hx t ht u hu => ?_, fun x hx => ?_, ?_, hrm, hstp, I.zs, I.df⟩
  · rcases List.mem_append.1 hx with hx | hx
    · exact I.quiet x hx
    · simp at hx; subst hx; exact hq
  · rw [get_putD, hdst] at hu
    by_cases hd : p.o.dst = some t
    · rw [if_pos hd] at hu
      simp at hu; subst hu
      refine ⟨fun y hy hyd => ?_, fun hno => absurd hd (hno ⟨p, tm, v, M.next, al⟩ (by simp))⟩
      rcases List.mem_append.1 hy with hy | hy
      · exact (pairOk_dst (hlater y hy) hyd hd).elim
      · simp at hy; subst hy; rfl
    · rw [if_neg hd] at hu
      obtain ⟨h1, h2⟩ := I.ti t u hu
      refine ⟨fun y hy hyd => ?_, fun hno => h2 fun y hy => hno y (List.mem_append_left _ hy)⟩
      rcases List.mem_append.1 hy with hy | hy
      · exact h1 y hy hyd
      · simp at hy; subst hy; exact absurd hyd hd
  · rcases List.mem_append.1 hx with hx | hx
    · obtain ⟨h1, h2⟩ := I.hx x hx t ht u hu
      have hpx : ∀ hd : p.o.dst = some t, anc (masks ops) p.i x.p.i = true := by
        intro hd
        rcases pairOk_apart (hlater x hx) with h | ⟨_, h⟩
        · exact h
        · exact absurd ht (h t hd)
      refine ⟨fun y hy hyd hya => ?_, fun hno => h2 fun y hy hyd => hno y (List.mem_append_left _ hy) hyd⟩
      rcases List.mem_append.1 hy with hy | hy
      · exact h1 y hy hyd hya
      · simp at hy; subst hy
        have h3 := anc_lt I.bd (hpx hyd)
        have h4 : p.i < x.p.i := anc_lt I.bd hya
        omega
    · simp at hx; subst hx
      obtain ⟨h1, h2⟩ := I.ti t u hu
      have hself : ∀ y ∈ pd, y.p.o.dst = some t → anc (masks ops) p.i y.p.i = true := by
        intro y hy hyd
        rcases pairOk_apart (hlater y hy) with h | ⟨h, _⟩
        · exact h
        · exact absurd ht (h t hyd)
      refine ⟨fun y hy hyd hya => ?_, fun hno => h2 fun y hy hyd => ?_⟩
      · rcases List.mem_append.1 hy with hy | hy
        · exact h1 y hy hyd
        · simp at hy; subst hy
          have h4 : p.i < p.i := anc_lt I.bd hya
          omega
      · have := hno y (List.mem_append_left _ hy) hyd
        rw [hself y hy hyd] at this; simp at this
  · rcases List.mem_append.1 hx with hx | hx
    · exact hpmold x hx
    · simp at hx; subst hx; exact hnew
  · refine List.pairwise_append.2 ⟨I.ids, by simp, fun x hx y hy ha => ?_⟩
    simp at hy; subst hy
    rcases I.pm x hx with ⟨h1, _⟩ | ⟨_, _, _, _, _, h6, _⟩
    · rw [ha] at h1; simp at h1
    · exact h6
end
end Go.Ab
