/- A region that draws its order: whatever comes next. Condition: Good P. -/
import Derived.Test.YtelmphlmhnipfaaAbDraw2
namespace Go.Ab
open Go.RowKit

section
variable {P : Program} {B : Nat} {w0 w : World} {k : Nat} {R : Rec} {ro : Option Nat} {n : Nat}

theorem again_mem {ms : List Nat} {last : Option Nat} {M : Mem} : ∀ {wl : List (PI × T V × V)}, again ms last M wl = true → ∀ q ∈ wl, (∀ e, last = some e → anc ms e q.1.i = false) →
    ∃ v M', q.1.c.x.ev ⟨fun _ _ _ _ _ _ => .no, fun _ _ _ => .no, fun _ _ _ => .no⟩ q.2.1 M = .ok v M' ∧ v = q.2.2
  | [], _, q, hq, _ => by simp at hq
  | r :: wl, h, q, hq, hl => by
    have h : br (br (oRec false (fun e => anc ms e r.1.i) last) true (Out.bind false (fun v _ => V.same v r.2.2) (r.1.c.x.ev ⟨fun _ _ _ _ _ _ => .no, fun _ _ _ => .no, fun _ _ _ => .no⟩ r.2.1 M))) (again ms last M wl) false = true := h
    rw [br_eq] at h
    split at h
    · rename_i h1
      rcases List.mem_cons.1 hq with rfl | hq
      · rw [br_eq] at h1
        split at h1
        · rename_i h2
          exfalso
          cases last with
          | none => simp at h2
          | some e => have := hl e rfl; simp only [oRec_some] at h2; rw [this] at h2; simp at h2
        · cases he : q.1.c.x.ev ⟨fun _ _ _ _ _ _ => .no, fun _ _ _ => .no, fun _ _ _ => .no⟩ q.2.1 M with
          | no => rw [he] at h1; simp [Out.bind] at h1
          | ok v M' =>
            rw [he] at h1
            exact ⟨v, M', rfl, V.same_eq h1⟩
      · exact again_mem h q hq hl
    · simp at h

/-- What waits, carried out now: nothing of memory turns, but for a block that is placed. -/
theorem DInv.fire {ops : Array Oper} {nt : Nat} {σ0 σ σ' : Sg} {M0 M : Mem} {a0 a : Act} {listed : Array Bool} {pd1 pd2 : List PD} {z : PD} {rest : List PI} {last : Option Nat} {wl : List (PI × T V × V)} {tm : T V} {u : Value} {w' : World}
    (I : DInv P ops nt R B w0 σ0 M0 a0 listed (pd1 ++ z :: pd2) rest last wl tm M σ a w) (hready : ∀ j, anc (masks ops) z.p.i j = true → listed.getD j false = true) (hedges : ∀ e ∈ z.p.o.after, Region.binds .any e = true → listed.getD e.on false = true)
    (hle : Le σ σ') (hrm : RM B w0 σ' M w') (hstp : Stp σ0 M0 σ' M) (hids : ∀ x ∈ pd1 ++ pd2, x.al = true → σ' x.id = none) (hv : RV σ' z.v u) :
    DInv P ops nt R B w0 σ0 M0 a0 (listed.setIfInBounds z.p.i true) (pd1 ++ pd2) rest last wl tm M σ' (a.put z.p.o.dst u) w' := by
  have hzmem : z ∈ pd1 ++ z :: pd2 := by simp
  have hzin : z.p ∈ (pd1 ++ z :: pd2).map (·.p) ++ rest := List.mem_append_left _ (List.mem_map_of_mem hzmem)
  have hpf := I.sub z.p hzin
  have hzl := I.not_done hzin
  obtain ⟨hdst, hdlt, _, _⟩ := co_dst hpf.co
  have hdlt' : ∀ x, z.p.o.dst = some x → x < a.tmps.size := fun x hx => by rw [I.zs]; exact hdlt x hx
  have hsubl : (pd1 ++ pd2).Sublist (pd1 ++ z :: pd2) := List.Sublist.append_left (List.sublist_cons_self _ _) _
  have hsub2 : ((pd1 ++ pd2).map (·.p) ++ rest).Sublist ((pd1 ++ z :: pd2).map (·.p) ++ rest) := List.Sublist.append_right (hsubl.map _) _
  have hpw := I.pw
  -- of z and another that waits
  have hpair : ∀ x ∈ pd1 ++ pd2, pairOk ops (masks ops) x.p z.p = true ∨ pairOk ops (masks ops) z.p x.p = true := by
    intro x hx
    have h1 := (List.pairwise_append.1 hpw).1
    rw [List.map_append, List.map_cons] at h1
    have h2 := List.pairwise_append.1 h1
    rcases List.mem_append.1 hx with hx | hx
    · exact .inl (h2.2.2 x.p (List.mem_map_of_mem hx) z.p (by simp))
    · exact .inr ((List.pairwise_cons.1 h2.2.1).1 x.p (List.mem_map_of_mem hx))
  have hnot : ∀ x ∈ pd1 ++ pd2, anc (masks ops) z.p.i x.p.i = false := by
    intro x hx
    cases hb : anc (masks ops) z.p.i x.p.i with
    | false => rfl
    | true =>
      have h1 := hready _ hb
      rw [I.not_done (List.mem_append_left _ (List.mem_map_of_mem (hsubl.subset hx)))] at h1; simp at h1
  have hdne : ∀ x ∈ pd1 ++ pd2, ∀ d, z.p.o.dst = some d → x.p.o.dst ≠ some d := by
    intro x hx d h1 h2
    rcases hpair x hx with h | h
    · exact pairOk_dst h h2 h1
    · exact pairOk_dst h h1 h2
  have hnei : ∀ x ∈ (pd1 ++ pd2).map (·.p) ++ rest, x.i ≠ z.p.i := by
    intro x hx
    rcases List.mem_append.1 hx with hx | hx
    · obtain ⟨y, hy, rfl⟩ := List.mem_map.1 hx
      rcases hpair y hy with h | h
      · exact pairOk_ne h
      · exact Ne.symm (pairOk_ne h)
    · exact Ne.symm (pairOk_ne ((List.pairwise_append.1 hpw).2.2 z.p (List.mem_map_of_mem hzmem) x hx))
  have hmem : ∀ y, y ∈ pd1 ++ z :: pd2 → y = z ∨ y ∈ pd1 ++ pd2 := by
    intro y hy
    rcases List.mem_append.1 hy with h | h
    · exact .inr (List.mem_append_left _ h)
    · rcases List.mem_cons.1 h with h | h
      · exact .inl h
      · exact .inr (List.mem_append_right _ h)
  have hgl : ∀ (d : Bool) j, (listed.setIfInBounds z.p.i true).getD j d = if j = z.p.i then true else listed.getD j d := by
    intro d j
    have hlt : z.p.i < listed.size := by rw [I.size]; exact hpf.lt
    simp only [Array.getD_eq_getD_getElem?, Array.getElem?_setIfInBounds]
    by_cases h : z.p.i = j
    · subst h; simp [hlt]
    · rw [if_neg h, if_neg (Ne.symm h)]
  refine ⟨by simpa using I.size, fun i hi => ?_, fun i o hi ho e he hb => ?_, I.bd, fun e he => ?_, hpw.sublist hsub2, fun p hp => I.sub p (hsub2.subset hp), fun x hx => I.quiet x (hsubl.subset hx), fun t u' hu => ?_, fun x hx t ht u' hu => ?_, fun x hx => ?_, I.ids.sublist hsubl, hrm, hstp, put_tmps I.zs, by rw [put_defers]; exact I.df⟩
  · rw [hgl]
    by_cases h : i = z.p.i
    · subst h
      rw [if_pos rfl]
      constructor
      · intro q; simp at q
      · rintro ⟨p, hp, hpi⟩; exact absurd hpi (hnei p hp)
    · rw [if_neg h, I.lst i hi]
      constructor
      · rintro ⟨p, hp, hpi⟩
        refine ⟨p, ?_, hpi⟩
        rcases List.mem_append.1 hp with hp | hp
        · obtain ⟨y, hy, rfl⟩ := List.mem_map.1 hp
          rcases hmem y hy with rfl | hy
          · exact absurd hpi.symm h
          · exact List.mem_append_left _ (List.mem_map_of_mem hy)
        · exact List.mem_append_right _ hp
      · rintro ⟨p, hp, hpi⟩; exact ⟨p, hsub2.subset hp, hpi⟩
  · have hi : (listed.setIfInBounds z.p.i true).getD i false = true := hi
    show (listed.setIfInBounds z.p.i true).getD e.on false = true
    rw [hgl] at hi ⊢
    by_cases h : i = z.p.i
    · subst h
      rw [hpf.at_] at ho; simp at ho; subst ho
      split
      · rfl
      · exact hedges e he hb
    · rw [if_neg h] at hi
      split
      · rfl
      · exact I.clo i o hi ho e he hb
  · rw [hgl]; split
    · rfl
    · exact I.la e he
  · obtain ⟨h1, h2⟩ := I.ti t u' hu
    refine ⟨fun y hy hyd => h1 y (hsubl.subset hy) hyd, fun hno => ?_⟩
    rw [getD_put _ _ _ _ hdlt']
    by_cases hd : z.p.o.dst = some t
    · rw [if_pos hd, h1 z hzmem hd]; exact hv
    · rw [if_neg hd]
      refine (h2 fun y hy => ?_).mono hle
      rcases hmem y hy with rfl | hy
      · exact hd
      · exact hno y hy
  · obtain ⟨h1, h2⟩ := I.hx x (hsubl.subset hx) t ht u' hu
    refine ⟨fun y hy hyd hya => h1 y (hsubl.subset hy) hyd hya, fun hno => ?_⟩
    rw [getD_put _ _ _ _ hdlt']
    by_cases hd : z.p.o.dst = some t
    · rw [if_pos hd]
      have hxz : anc (masks ops) x.p.i z.p.i = true := by
        rcases hpair x hx with h | h
        · rcases pairOk_apart h with h | ⟨_, h⟩
          · rw [hnot x hx] at h; simp at h
          · exact absurd ht (h t hd)
        · rcases pairOk_apart h with h | ⟨h, _⟩
          · exact h
          · exact absurd ht (h t hd)
      rw [h1 z hzmem hd hxz]; exact hv
    · rw [if_neg hd]
      refine (h2 fun y hy hyd => ?_).mono hle
      rcases hmem y hy with rfl | hy
      · exact absurd hyd hd
      · exact hno y hy hyd
  · rcases I.pm x (hsubl.subset hx) with ⟨h1, h2⟩ | ⟨h1, h2, h3, h4, h5, h6, h7⟩
    · exact .inl ⟨h1, h2⟩
    · exact .inr ⟨h1, h2, h3, hids x hx h1, h5, h6, h7⟩

/-- An effect, carried out. -/
theorem DInv.act {ops : Array Oper} {nt : Nat} {σ0 σ σ' : Sg} {M0 M M1 : Mem} {a0 a : Act} {listed : Array Bool} {pd : List PD} {p : PI} {rest : List PI} {last : Option Nat} {wl : List (PI × T V × V)} {tm : T V} {v : V} {u : Value} {w' : World}
    (I : DInv P ops nt R B w0 σ0 M0 a0 listed pd (p :: rest) last wl tm M σ a w) (hready : ∀ j, anc (masks ops) p.i j = true → listed.getD j false = true) (hedges : ∀ e ∈ p.o.after, Region.binds .any e = true → listed.getD e.on false = true)
    (hs : Stp σ M σ' M1) (hrm : RM B w0 σ' M1 w') (hv : RV σ' v u) :
    DInv P ops nt R B w0 σ0 M0 a0 (listed.setIfInBounds p.i true) pd rest (some p.i) wl (putD p.c.dst v tm) M1 σ' (a.put p.o.dst u) w' := by
  have hin : p ∈ pd.map (·.p) ++ p :: rest := by simp
  have hpf := I.sub p hin
  obtain ⟨hdst, hdlt, _, _⟩ := co_dst hpf.co
  have hdlt' : ∀ x, p.o.dst = some x → x < a.tmps.size := fun x hx => by rw [I.zs]; exact hdlt x hx
  have hsub2 : (pd.map (·.p) ++ rest).Sublist (pd.map (·.p) ++ p :: rest) := List.Sublist.append_left (List.sublist_cons_self _ _) _
  have hpw := I.pw
  have hearly : ∀ y ∈ pd, pairOk ops (masks ops) y.p p = true := fun y hy => (List.pairwise_append.1 hpw).2.2 y.p (List.mem_map_of_mem hy) p (by simp)
  have hnot : ∀ x ∈ pd, anc (masks ops) p.i x.p.i = false := by
    intro x hx
    cases hb : anc (masks ops) p.i x.p.i with
    | false => rfl
    | true =>
      have h1 := hready _ hb
      rw [I.not_done (List.mem_append_left _ (List.mem_map_of_mem hx))] at h1; simp at h1
  have hnei : ∀ x ∈ pd.map (·.p) ++ rest, x.i ≠ p.i := by
    intro x hx
    rcases List.mem_append.1 hx with hx | hx
    · obtain ⟨y, hy, rfl⟩ := List.mem_map.1 hx
      exact pairOk_ne (hearly y hy)
    · exact Ne.symm (pairOk_ne ((List.pairwise_cons.1 (List.pairwise_append.1 hpw).2.1).1 x hx))
  have hgl : ∀ (d : Bool) j, (listed.setIfInBounds p.i true).getD j d = if j = p.i then true else listed.getD j d := by
    intro d j
    have hlt : p.i < listed.size := by rw [I.size]; exact hpf.lt
    simp only [Array.getD_eq_getD_getElem?, Array.getElem?_setIfInBounds]
    by_cases h : p.i = j
    · subst h; simp [hlt]
    · rw [if_neg h, if_neg (Ne.symm h)]
  refine ⟨by simpa using I.size, fun i hi => ?_, fun i o hi ho e he hb => ?_, I.bd, fun e he => ?_, hpw.sublist hsub2, fun q hq => I.sub q (hsub2.subset hq), I.quiet, fun t u' hu => ?_, fun x hx t ht u' hu => ?_, fun x hx => ?_, I.ids, hrm, I.stp.trans hs, put_tmps I.zs, by rw [put_defers]; exact I.df⟩
  · rw [hgl]
    by_cases h : i = p.i
    · subst h
      rw [if_pos rfl]
      constructor
      · intro q; simp at q
      · rintro ⟨q, hq, hqi⟩; exact absurd hqi (hnei q hq)
    · rw [if_neg h, I.lst i hi]
      constructor
      · rintro ⟨q, hq, hqi⟩
        refine ⟨q, ?_, hqi⟩
        rcases List.mem_append.1 hq with hq | hq
        · exact List.mem_append_left _ hq
        · rcases List.mem_cons.1 hq with rfl | hq
          · exact absurd hqi.symm h
          · exact List.mem_append_right _ hq
      · rintro ⟨q, hq, hqi⟩; exact ⟨q, hsub2.subset hq, hqi⟩
  · have hi : (listed.setIfInBounds p.i true).getD i false = true := hi
    show (listed.setIfInBounds p.i true).getD e.on false = true
    rw [hgl] at hi ⊢
    by_cases h : i = p.i
    · subst h
      rw [hpf.at_] at ho; simp at ho; subst ho
      split
      · rfl
      · exact hedges e he hb
    · rw [if_neg h] at hi
      split
      · rfl
      · exact I.clo i o hi ho e he hb
  · simp at he; subst he
    rw [hgl, if_pos rfl]
  · rw [get_putD, hdst] at hu
    rw [getD_put _ _ _ _ hdlt']
    by_cases hd : p.o.dst = some t
    · rw [if_pos hd] at hu
      simp at hu; subst hu
      rw [if_pos hd]
      exact ⟨fun y hy hyd => (pairOk_dst (hearly y hy) hyd hd).elim, fun _ => hv⟩
    · rw [if_neg hd] at hu ⊢
      obtain ⟨h1, h2⟩ := I.ti t u' hu
      exact ⟨h1, fun hno => (h2 hno).mono hs.le⟩
  · obtain ⟨h1, h2⟩ := I.hx x hx t ht u' hu
    refine ⟨h1, fun hno => ?_⟩
    rw [getD_put _ _ _ _ hdlt']
    have hd : p.o.dst ≠ some t := by
      intro hd
      rcases pairOk_apart (hearly x hx) with h | ⟨_, h⟩
      · rw [hnot x hx] at h; simp at h
      · exact h t hd ht
    rw [if_neg hd]
    exact (h2 hno).mono hs.le
  · rcases I.pm x hx with ⟨h1, h2 | ⟨h2, h3, h4, h5⟩⟩ | ⟨h1, h2, h3, h4, h5, h6, a', cs, mk, h7, h8, h9, h10⟩
    · exact .inl ⟨h1, .inl h2⟩
    · exact .inl ⟨h1, .inr ⟨h2, h3, h4, fun e he => by simp at he; subst he; exact hnot x hx⟩⟩
    · exact .inr ⟨h1, h2, h3, hs.nom _ h6 h4, h5, Nat.lt_of_lt_of_le h6 hs.next, a', cs, mk, h7, h8, h9, by rw [hs.keep _ h6 h4]; exact h10⟩
end
end Go.Ab
