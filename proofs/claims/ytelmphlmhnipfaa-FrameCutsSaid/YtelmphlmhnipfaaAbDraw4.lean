/- A region that draws its order: THE THEOREM. Condition: Good P. -/
import Derived.Test.YtelmphlmhnipfaaAbDraw3
namespace Go.Ab
open Go.RowKit

section
variable {P : Program} {B : Nat} {w0 w : World} {k : Nat} {R : Rec} {ro : Option Nat} {n : Nat}

theorem drawE_cons (ms : List Nat) (p : PI) (r : List PI) (R : Rec) (last : Option Nat) (wl : List (PI × T V × V)) (tm : T V) (M : Mem) :
    drawE ms (p :: r) R last wl tm M = br p.k.isEff
        (br (again ms last M wl) (Out.bind .no (fun v M' => drawE ms r R (some p.i) wl (putD p.c.dst v tm) M') (p.c.ev R tm M)) .no)
        (Out.bind .no (fun v M' => drawE ms r R last (br (p.k.isRead && is1 v) ((p, tm, v) :: wl) wl) (putD p.c.dst v tm) M') (p.c.ev R tm M)) := rfl

/-- All quiet ones ahead of the next effect wait. -/
theorem DInv.normal {ops : Array Oper} {nt : Nat} {σ0 σ : Sg} {M0 MF : Mem} {a0 a : Act} {listed : Array Bool} {last : Option Nat} {tmF : T V} : ∀ (rest : List PI) (pd : List PD) (wl : List (PI × T V × V)) (tm : T V) (M : Mem),
    DInv P ops nt R B w0 σ0 M0 a0 listed pd rest last wl tm M σ a w → drawE (masks ops) rest R last wl tm M = .ok tmF MF →
    ∃ pd' rest' wl' tm' M', DInv P ops nt R B w0 σ0 M0 a0 listed pd' rest' last wl' tm' M' σ a w ∧ pd'.length + rest'.length = pd.length + rest.length ∧ again (masks ops) last M' wl' = true ∧
      ((rest' = [] ∧ tm' = tmF ∧ M' = MF) ∨ ∃ e r v M1, rest' = e :: r ∧ e.c.ev R tm' M' = .ok v M1 ∧ e.k.isEff = true ∧ drawE (masks ops) r R (some e.i) wl' (putD e.c.dst v tm') M1 = .ok tmF MF)
  | [], pd, wl, tm, M, I, h => by
    have h : br (again (masks ops) last M wl) (St.ok tm M) .no = .ok tmF MF := h
    rw [br_eq] at h
    split at h
    · rename_i ha
      simp at h
      exact ⟨pd, [], wl, tm, M, I, rfl, ha, .inl ⟨rfl, h.1, h.2⟩⟩
    · simp at h
  | p :: r, pd, wl, tm, M, I, h => by
    rw [drawE_cons] at h
    cases hk : p.k.isEff with
    | true =>
      rw [hk, br_true, br_eq] at h
      split at h
      · rename_i ha
        cases he : p.c.ev R tm M with
        | no => rw [he] at h; simp [Out.bind] at h
        | ok v M1 =>
          rw [he] at h
          exact ⟨pd, p :: r, wl, tm, M, I, rfl, ha, .inr ⟨p, r, v, M1, rfl, he, hk, h⟩⟩
      · simp at h
    | false =>
      rw [hk, br_false] at h
      cases he : p.c.ev R tm M with
      | no => rw [he] at h; simp [Out.bind] at h
      | ok v M1 =>
        rw [he] at h
        obtain ⟨x, hx, I'⟩ := I.absorb hk he
        obtain ⟨pd', rest', wl', tm', M', I2, hlen, h2⟩ := DInv.normal r (pd ++ [x]) _ _ M1 I' h
        exact ⟨pd', rest', wl', tm', M', I2, by rw [hlen]; simp; omega, h2⟩

theorem ready_iff {ops : Array Oper} {listed : Array Bool} {i : Nat} : i ∈ Region.ready .any ops listed ↔ i < ops.size ∧ listed.getD i true = false ∧ ∃ o, ops[i]? = some o ∧ ∀ e ∈ o.after, Region.binds .any e = true → listed.getD e.on false = true := by
  unfold Region.ready
  simp only [List.mem_filter, List.mem_range, Bool.and_eq_true]
  constructor
  · rintro ⟨h1, h2, h3⟩
    refine ⟨h1, by simpa using h2, ?_⟩
    cases ho : ops[i]? with
    | none => rw [ho] at h3; simp at h3
    | some o =>
      rw [ho] at h3
      simp only [Option.map_some, Option.getD_some] at h3
      rw [← Array.all_toList, List.all_eq_true] at h3
      refine ⟨o, rfl, fun e he hb => ?_⟩
      have := h3 e (by simpa using he)
      rw [hb] at this
      simpa using this
  · rintro ⟨h1, h2, o, ho, h3⟩
    refine ⟨h1, by simpa using h2, ?_⟩
    rw [ho]
    simp only [Option.map_some, Option.getD_some]
    rw [← Array.all_toList, List.all_eq_true]
    intro e he
    cases hb : Region.binds .any e with
    | false => simp
    | true => simpa using h3 e (by simpa using he) hb

/-- While one is owed, one may come. -/
theorem DInv.some_ready {ops : Array Oper} {nt : Nat} {σ0 σ : Sg} {M0 M : Mem} {a0 a : Act} {listed : Array Bool} {pd : List PD} {rest : List PI} {last : Option Nat} {wl : List (PI × T V × V)} {tm : T V}
    (I : DInv P ops nt R B w0 σ0 M0 a0 listed pd rest last wl tm M σ a w) : ∀ (m : Nat) (p : PI), p.i ≤ m → p ∈ pd.map (·.p) ++ rest → ∃ i, i ∈ Region.ready .any ops listed := by
  intro m
  induction m with
  | zero =>
    intro p hm hp
    have hpf := I.sub p hp
    refine ⟨p.i, ready_iff.2 ⟨hpf.lt, (I.lst p.i hpf.lt).2 ⟨p, hp, rfl⟩, p.o, hpf.at_, fun e he hb => ?_⟩⟩
    have := hpf.edges e he hb
    omega
  | succ m ih =>
    intro p hm hp
    have hpf := I.sub p hp
    by_cases hall : ∀ e ∈ p.o.after, Region.binds .any e = true → listed.getD e.on false = true
    · exact ⟨p.i, ready_iff.2 ⟨hpf.lt, (I.lst p.i hpf.lt).2 ⟨p, hp, rfl⟩, p.o, hpf.at_, hall⟩⟩
    · simp only [Classical.not_forall] at hall
      obtain ⟨e, he, hb, hne⟩ := hall
      have hlt := hpf.edges e he hb
      have hn : e.on < ops.size := Nat.lt_trans hlt hpf.lt
      have hl : listed.getD e.on true = false := by
        have hs : e.on < listed.size := by rw [I.size]; exact hn
        rw [Array.getD_eq_getD_getElem?] at hne ⊢
        simp [hs] at hne ⊢
        exact hne
      obtain ⟨q, hq, hqi⟩ := (I.lst e.on hn).1 hl
      exact ih q (by omega) hq

theorem uses_tmp {ops : Array Oper} {o : Oper} {t : Tmp} (h : Operand.tmp t ∈ o.op.operands) : t ∈ usesOf ops o := by
  refine List.mem_append_left _ (List.mem_filterMap.2 ⟨.tmp t, by simpa using h, rfl⟩)
theorem uses_guard {ops : Array Oper} {o : Oper} {g : Option (Nat × Bool)} (hg : guardOf ops o = some g) {d : Nat} {want : Bool} (h : g = some (d, want)) : d ∈ usesOf ops o := by
  unfold guardOf at hg
  cases hq : o.guard with
  | none => rw [hq] at hg; simp at hg; subst hg; simp at h
  | some jw =>
    obtain ⟨j, w⟩ := jw
    rw [hq] at hg
    simp only [Option.bind_eq_some_iff] at hg
    obtain ⟨d', hd, hg⟩ := hg
    simp at hg; subst hg
    simp at h
    obtain ⟨rfl, _⟩ := h
    refine List.mem_append_right _ ?_
    rw [hq]
    obtain ⟨oj, hoj, hdst⟩ := hd
    simp [hoj, hdst]
/-- Operands, by the temporaries that are used. -/
theorem hd_of_uses {σ : Sg} {tm : T V} {a : Act} {ops : Array Oper} {o : Oper} (h : ∀ t ∈ usesOf ops o, ∀ v, tm.get t = some v → RV σ v (a.tmps.getD t undef)) : ∀ y ∈ o.op.operands, Hd σ tm a.eval y := by
  intro y hy ar v ha hv
  cases y with
  | tmp t => simp [arOf] at ha; subst ha; exact h t (uses_tmp hy) v hv
  | const c =>
    simp only [arOf, Option.bind_eq_some_iff] at ha
    obtain ⟨y, hy, ha⟩ := ha
    simp at ha; subst ha
    have hv : some (V.one y) = some v := hv
    simp at hv; subst hv
    exact .one _ _ (V1.of_rel σ hy)
  | global g => simp [arOf] at ha
  | func f =>
    simp [arOf] at ha; subst ha
    have hv : some (V.one (.c (.fn f []))) = some v := hv
    simp at hv; subst hv
    exact .one _ _ (.c _ _ (.fn _ _ _ .nil))

theorem draw_main (hP : Good P) (hR : SoundR P k R) {ops : Array Oper} {nt : Nat} {Q : Exit → Act → World → Prop} {σ0 : Sg} {M0 MF : Mem} {a0 : Act} {tmF : T V}
    (hQ : ∀ σ' a' w', Stp σ0 M0 σ' MF → RM B w0 σ' MF w' → RT σ' tmF a'.tmps → a'.tmps.size = nt → a'.defers = a0.defers → Q .normal a' w') :
    ∀ (fuel : Nat) (listed : Array Bool) (pd : List PD) (rest : List PI) (last : Option Nat) (wl : List (PI × T V × V)) (tm : T V) (M : Mem) (σ : Sg) (a : Act) (w : World),
      DInv P ops nt R B w0 σ0 M0 a0 listed pd rest last wl tm M σ a w → drawE (masks ops) rest R last wl tm M = .ok tmF MF → pd.length + rest.length ≤ fuel → wpAnyIn (Fn ro) n P .any ops Q fuel listed a w := by
  intro fuel
  induction fuel with
  | zero =>
    intro listed pd rest last wl tm M σ a w I h hlen
    obtain ⟨pd', rest', wl', tm', M', I2, hlen2, hag, hend⟩ := I.normal _ _ _ _ _ h
    have hp0 : pd' = [] := List.eq_nil_of_length_eq_zero (by omega)
    have hr0 : rest' = [] := List.eq_nil_of_length_eq_zero (by omega)
    subst hp0 hr0
    rcases hend with ⟨_, rfl, rfl⟩ | ⟨e, r, v, M1, he, _⟩
    · refine ⟨?_, hQ σ a w I2.stp I2.rm (fun t v hv => (I2.ti t v hv).2 (by simp)) I2.zs I2.df⟩
      cases hrd : Region.ready .any ops listed with
      | nil => rfl
      | cons i l =>
        exfalso
        have hi : i ∈ Region.ready .any ops listed := by rw [hrd]; simp
        obtain ⟨h1, h2, _⟩ := ready_iff.1 hi
        obtain ⟨p, hp, _⟩ := (I2.lst i h1).1 h2
        simp at hp
    · simp at he
  | succ fuel ih =>
    intro listed pd rest last wl tm M σ a w I h hlen
    obtain ⟨pd', rest', wl', tm', M', I2, hlen2, hag, hend⟩ := I.normal _ _ _ _ _ h
    refine ⟨fun hrd => ?_, fun i hi => ?_⟩
    · -- nothing may come: all is done
      have hnone : ∀ p, p ∉ pd'.map (·.p) ++ rest' := by
        intro p hp
        obtain ⟨i, hi⟩ := I2.some_ready p.i p (Nat.le_refl _) hp
        rw [hrd] at hi; simp at hi
      have hp0 : pd' = [] := by
        cases pd' with
        | nil => rfl
        | cons x l => exact absurd (show x.p ∈ _ by simp) (hnone x.p)
      have hr0 : rest' = [] := by
        cases rest' with
        | nil => rfl
        | cons x l => exact absurd (show x ∈ _ by simp) (hnone x)
      subst hp0 hr0
      rcases hend with ⟨_, rfl, rfl⟩ | ⟨e, r, v, M1, he, _⟩
      · exact hQ σ a w I2.stp I2.rm (fun t v hv => (I2.ti t v hv).2 (by simp)) I2.zs I2.df
      · simp at he
    · obtain ⟨hin, hil, o, hio, hie⟩ := ready_iff.1 hi
      obtain ⟨p, hp, hpi⟩ := (I2.lst i hin).1 hil
      have hpf := I2.sub p hp
      subst hpi
      have ho : o = p.o := by rw [hpf.at_] at hio; simpa using hio.symm
      subst ho
      have hready : ∀ j, anc (masks ops) p.i j = true → listed.getD j false = true := fun j hj =>
        anc_behind hj (fun k => listed.getD k false = true) I2.clo (fun o' ho' e he hb => by rw [hpf.at_] at ho'; simp at ho'; subst ho'; exact hie e he hb)
      obtain ⟨hdst, hdlt, hguard, hax⟩ := co_dst hpf.co
      rcases List.mem_append.1 hp with hp1 | hp1
      · -- one that waits
        obtain ⟨z, hz, rfl⟩ := List.mem_map.1 hp1
        obtain ⟨pd1, pd2, rfl⟩ := List.append_of_mem hz
        have huses : ∀ t ∈ usesOf ops z.p.o, ∀ v, z.tm.get t = some v → RV σ v (a.tmps.getD t undef) := by
          intro t ht v hv
          refine (I2.hx z (by simp) t ht v hv).2 fun y hy hyd => ?_
          cases hb : anc (masks ops) z.p.i y.p.i with
          | false => rfl
          | true =>
            have h1 := hready _ hb
            rw [I2.not_done (List.mem_append_left _ (List.mem_map_of_mem hy))] at h1; simp at h1
        have hlen3 : (pd1 ++ pd2).length + rest'.length ≤ fuel := by
          simp at hlen2 ⊢; omega
        have hdraw : drawE (masks ops) rest' R last wl' tm' M' = .ok tmF MF := by
          rcases hend with ⟨rfl, rfl, rfl⟩ | ⟨e, r, v, M1, rfl, he, hk, hd⟩
          · show br (again (masks ops) last M' wl') (St.ok tm' M') .no = _
            rw [hag]; rfl
          · rw [drawE_cons, hk, br_true, hag, br_true, he]; exact hd
        have hsubl : (pd1 ++ pd2).Sublist (pd1 ++ z :: pd2) := List.Sublist.append_left (List.sublist_cons_self _ _) _
        -- what leaves memory as it is
        have still : z.al = false → z.p.c.ev R z.tm M' = .ok z.v M' → wpOpIn (Fn ro) n P ops Q z.p.i (wpAnyIn (Fn ro) n P .any ops Q fuel (listed.setIfInBounds z.p.i true)) a w := by
          intro _ hev
          refine co_sound hP hR hpf.at_ hpf.co (hd_of_uses huses) (fun d want hg v hv => huses d (uses_guard hguard hg) v hv) I2.rm hev (fun σ' u w' hs hm' hv => ?_)
          refine ih _ (pd1 ++ pd2) rest' last wl' tm' M' σ' _ w' (I2.fire hready hie hs.le hm' (I2.stp.trans hs) (fun x hx hal => ?_) hv) hdraw hlen3
          rcases I2.pm x (hsubl.subset hx) with ⟨h1, _⟩ | ⟨_, _, _, h4, _, h6, _⟩
          · rw [hal] at h1; simp at h1
          · exact hs.nom _ h6 h4
        rcases I2.pm z (by simp) with ⟨h1, h2 | ⟨h2, h3, h4, h5⟩⟩ | ⟨h1, h2, h3, h4, h5, h6, a', cs, mk, h7, h8, h9, h10⟩
        · exact still h1 (h2 M')
        · refine still h1 ?_
          obtain ⟨v', M1, he, hv'⟩ := again_mem hag (z.p, z.tm, z.v) h4 h5
          simp only at he hv'
          subst hv'
          have hkd := hpf.kd
          cases hx : z.p.c.x with
          | call f args => rw [hx] at hkd; rw [hkd] at h2; simp [AX.kind, Kind.isRead] at h2
          | op a' =>
            rw [hx] at he hkd
            have he : a'.ev z.tm M' = .ok z.v M1 := he
            have hM := aop_read (by rw [← hkd]; exact h2) he
            subst hM
            unfold CO.ev
            rw [h3, hx]; exact he
        · -- a block is placed
          have hwant := want_rel (ops := ops) (o := z.p.o) (tmps := a.tmps) hguard (fun d want hg v hv => huses d (uses_guard hguard hg) v hv) h3
          have haop : aopOf P z.p.o.op = some a' := by
            rw [h7] at hax
            unfold axOf at hax
            generalize z.p.o.op = op at hax h2
            cases op <;> (try (simp [isLay] at h2; done)) <;> (obtain ⟨b, hb, he⟩ := Option.bind_eq_some_iff.1 hax; simp at he; subst he; exact hb)
          obtain ⟨cs', mk', hl', A, E, c, hrun, hF, hrel⟩ := aop_lays (P := P) (w := w) (σ := σ) (M := M') (v := .one (.c (mk M'.next))) (M' := M'.new cs) haop h2 (hd_of_uses huses) (h8 M')
          have hsame : ∀ M2, lay M2 cs mk = lay M2 cs' mk' := fun M2 => by rw [← h8 M2, hl' M2]
          have hblk : mk z.id = mk' z.id ∧ (Blk.cells cs.length (T.puts cs .lf 0) true) = .cells cs'.length (T.puts cs' .lf 0) true := by
            have := hsame ⟨z.id, .lf⟩
            simp only [lay, okc, Out.ok.injEq, V.one.injEq, V1.c.injEq] at this
            refine ⟨this.1, ?_⟩
            have h2 := congrArg (fun m : Mem => m.b.get z.id) this.2
            have hg : ∀ xs : List CV, ((⟨z.id, .lf⟩ : Mem).new xs).b.get z.id = some (.cells xs.length (T.puts xs .lf 0) true) := fun xs => by
              show ((⟨z.id, .lf⟩ : Mem).put _).b.get z.id = _
              rw [get_put, if_pos rfl]
            rw [hg, hg] at h2
            simpa using h2
          have hsem : z.p.o.semAt (Fn ro).round a.eval = execOp a.eval z.p.o := Oper.semAt_eq _ _ _ (fun c q => by rw [q] at h2; simp [isLay] at h2)
          unfold wpOpIn
          rw [hpf.at_]
          simp only [hwant, if_true]
          refine ⟨fun _ _ => trivial, ?_⟩
          rw [hsem, hrun]
          show wpAnyIn (Fn ro) n P .any ops Q fuel (listed.setIfInBounds z.p.i true) (a.put z.p.o.dst c) (w.alloc (.cells A E))
          have hno := h4
          have hrb : RB (σ.upd z.id (w.heap.size, 0, A.size)) B (w.alloc (.cells A E)) w.heap.size 0 A.size (.cells cs.length (T.puts cs .lf 0) true) := by
            rw [hblk.2]
            have := RB.new (B := B) (w := w) (σ := σ) (E := E) (fz := (0, 0)) (CS := A.toList) (ex := []) (x := (w.heap.size, 0, A.size)) hno hF (fun i _ => by simp) I2.rm.base
            simpa using this
          have hrm' := I2.rm.place (s := 0) (r := A.size) h6 hno h10 (.cells A E) hrb
          refine ih _ (pd1 ++ pd2) rest' last wl' tm' M' (σ.upd z.id (w.heap.size, 0, A.size)) _ _ (I2.fire hready hie (Sg.upd_le hno) hrm' ⟨I2.stp.le.trans (Sg.upd_le hno), fun id hid q => ?_, I2.stp.keep, I2.stp.next⟩ (fun x hx hal => ?_) ?_) hdraw hlen3
          · rw [Sg.upd_other _ _ (by omega)]; exact I2.stp.nom id hid q
          · have hne : x.id ≠ z.id := by
              have hids := List.pairwise_append.1 I2.ids
              rcases List.mem_append.1 hx with hx1 | hx1
              · have := hids.2.2 x hx1 z (by simp) hal
                omega
              · have := (List.pairwise_cons.1 hids.2.1).1 x hx1 h1
                omega
            rw [Sg.upd_other _ _ hne]
            rcases I2.pm x (hsubl.subset hx) with ⟨h1', _⟩ | ⟨_, _, _, h4', _⟩
            · rw [hal] at h1'; simp at h1'
            · exact h4'
          · rw [h9, hblk.1]
            exact .one _ _ (.c _ _ (hrel _ _ (Sg.upd_same _ _ _)))
      · -- the next effect
        rcases hend with ⟨rfl, _, _⟩ | ⟨e, r, v, M1, rfl, he, hk, hd⟩
        · simp at hp1
        · have hpe : p = e := by
            rcases List.mem_cons.1 hp1 with h | h
            · exact h
            · exfalso
              have hpair := (List.pairwise_cons.1 (List.pairwise_append.1 I2.pw).2.1).1 p h
              have h1 := hready _ (pairOk_eff hpair hk)
              rw [I2.not_done (p := e) (by simp)] at h1; simp at h1
          subst hpe
          have huses : ∀ t ∈ usesOf ops p.o, ∀ v, tm'.get t = some v → RV σ v (a.tmps.getD t undef) := by
            intro t ht v hv
            refine (I2.ti t v hv).2 fun y hy hyd => ?_
            have hpair := (List.pairwise_append.1 I2.pw).2.2 y.p (List.mem_map_of_mem hy) p (by simp)
            rcases pairOk_apart hpair with h | ⟨h, _⟩
            · have h1 := hready _ h
              rw [I2.not_done (List.mem_append_left _ (List.mem_map_of_mem hy))] at h1; simp at h1
            · exact h t hyd ht
          refine co_sound hP hR hpf.at_ hpf.co (hd_of_uses huses) (fun d want hg v hv => huses d (uses_guard hguard hg) v hv) I2.rm he (fun σ' u w' hs hm' hv => ?_)
          exact ih _ pd' r (some p.i) wl' _ M1 σ' _ w' (I2.act hready hie hs hm' hv) hd (by simp at hlen2; omega)

theorem draw_sound (hP : Good P) (hR : SoundR P k R) {σ : Sg} {M M' : Mem} {tm tm' : T V} {ops : Array Oper} {nt id : Nat} {Q : Exit → Act → World → Prop} {a : Act} (h : drawR P ops nt R tm M = .ok tm' M') (hm : RM B w0 σ M w) (ht : RT σ tm a.tmps) (hz : a.tmps.size = nt)
    (hQ : ∀ σ' a' w', Stp σ M σ' M' → RM B w0 σ' M' w' → RT σ' tm' a'.tmps → a'.tmps.size = nt → a'.defers = a.defers → Q .normal a' w') : (Code.region id ops true).wpIn (Fn ro) n P Q a w := by
  unfold drawR at h
  cases hcs : cosOf P ops nt ops.toList with
  | none => rw [hcs] at h; simp at h
  | some cs =>
    rw [hcs] at h
    simp only [oRec_some, br_eq] at h
    split at h
    rotate_left
    · simp at h
    rename_i hok
    obtain ⟨hpf, hpw, hall, hlen⟩ := plan_facts hcs hok
    refine wpIn_region_any hP.mixed (draw_main hP hR hQ ops.size _ [] (planOf ops cs) none [] tm M σ a _ ?_ h (by simp [hlen]))
    have hg : ∀ (d : Bool) i, i < ops.size → (Array.replicate ops.size false).getD i d = false := by
      intro d i hi
      simp [Array.getD_eq_getD_getElem?, hi]
    refine ⟨by simp, fun i hi => ?_, fun i o hi ho => ?_, ?_, fun e he => by simp at he, by simpa using hpw, fun p hp => hpf p (by simpa using hp), by simp, fun t v hv => ⟨by simp, fun _ => ht t v hv⟩, by simp, by simp, .nil, hm.drew, .refl _ _, hz, rfl⟩
    · rw [hg true i hi]
      constructor
      · intro _
        obtain ⟨p, hp, hpi⟩ := hall i hi
        exact ⟨p, by simpa using hp, hpi⟩
      · intro _; rfl
    · exfalso
      have hlt := (Array.getElem?_eq_some_iff.1 ho).1
      have hi : (Array.replicate ops.size false).getD i false = true := hi
      rw [hg false i hlt] at hi; simp at hi
    · intro i o ho e he hb
      have hlt := (Array.getElem?_eq_some_iff.1 ho).1
      obtain ⟨p, hp, rfl⟩ := hall i hlt
      have hpp := hpf p hp
      rw [hpp.at_] at ho
      simp at ho; subst ho
      exact hpp.edges e he hb
end
end Go.Ab
