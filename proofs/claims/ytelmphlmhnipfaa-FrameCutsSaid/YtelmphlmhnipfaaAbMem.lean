/- The relation of the two memories, kept by what writes and lays. No condition. -/
import Derived.Test.YtelmphlmhnipfaaAbOps4
namespace Go.Ab
open Go.RowKit

section
variable {P : Program} {B : Nat} {w0 w : World} {σ : Sg} {M M' : Mem}

/-- It hangs on what lies under each number alone. -/
theorem RM.congr (h : RM B w0 σ M w) (hb : ∀ id, M'.b.get id = M.b.get id) (hn : M'.next = M.next) : RM B w0 σ M' w :=
  ⟨h.below, h.base, fun id b s r e => by rw [hn]; exact h.dom id b s r e, fun id e => by rw [hb]; exact h.fresh id (by rw [← hn]; exact e),
   fun id b s r k e f => h.blk id b s r k e (by rw [← hb]; exact f), fun i j b si ri sj rj ki kj hij e1 e2 f1 f2 => h.sep i j b si ri sj rj ki kj hij e1 e2 (by rw [← hb]; exact f1) (by rw [← hb]; exact f2)⟩

theorem get_put (M : Mem) (k : Blk) (id : Nat) : (M.put k).b.get id = if id = M.next then some k else M.b.get id := T.get_set _ _ _ _
theorem get_upd (M : Mem) (i : Nat) (k : Blk) (id : Nat) : (M.upd i k).b.get id = if id = i then some k else M.b.get id := T.get_set _ _ _ _

/-- A block more, not yet placed. -/
theorem RM.put (h : RM B w0 σ M w) (k : Blk) : RM B w0 σ (M.put k) w := by
  have hno : ∀ b s r, σ M.next ≠ some (b, s, r) := fun b s r e => by have := (h.dom _ _ _ _ e).1; omega
  refine ⟨h.below, h.base, fun id b s r e => ⟨Nat.lt_succ_of_lt (h.dom id b s r e).1, (h.dom id b s r e).2⟩, fun id e => ?_, fun id b s r q e f => ?_, fun i j b si ri sj rj ki kj hij e1 e2 f1 f2 => ?_⟩
  · have e : M.next + 1 ≤ id := e
    rw [get_put, if_neg (by omega)]; exact h.fresh id (by omega)
  · rw [get_put] at f
    split at f
    · subst_vars; exact absurd e (hno _ _ _)
    · exact h.blk id b s r q e f
  · rw [get_put] at f1 f2
    split at f1
    · subst_vars; exact absurd e1 (hno _ _ _)
    · split at f2
      · subst_vars; exact absurd e2 (hno _ _ _)
      · exact h.sep i j b si ri sj rj ki kj hij e1 e2 f1 f2
theorem Stp.put (σ : Sg) (M : Mem) (k : Blk) : Stp σ M σ (M.put k) :=
  ⟨.refl _, fun _ _ h => h, fun id h _ => by rw [get_put, if_neg (by omega)], Nat.le_succ _⟩

def Sg.upd (σ : Sg) (id : Nat) (x : Nat × Nat × Nat) : Sg := fun i => if i = id then some x else σ i
theorem Sg.upd_le {σ : Sg} {id : Nat} {x : Nat × Nat × Nat} (h : σ id = none) : Le σ (σ.upd id x) := fun i y e => by
  unfold Sg.upd
  split
  · subst_vars; rw [h] at e; simp at e
  · exact e
theorem Sg.upd_same (σ : Sg) (id : Nat) (x : Nat × Nat × Nat) : σ.upd id x id = some x := by simp [Sg.upd]
theorem Sg.upd_other (σ : Sg) {id i : Nat} (x : Nat × Nat × Nat) (h : i ≠ id) : σ.upd id x i = σ i := by simp [Sg.upd, h]

theorem heap_push_old (w : World) (o : Obj) {k : Nat} (h : k < w.heap.size) : (w.alloc o).heap[k]? = w.heap[k]? := Below.heap_alloc w o k h
theorem heap_push_new (w : World) (o : Obj) : (w.alloc o).heap[w.heap.size]? = some o := World.alloc_heap_new w o

/-- A block that was not placed is placed at a new block of the model's. -/
theorem RM.place (h : RM B w0 σ M w) {id : Nat} {k : Blk} {s r : Nat} (hid : id < M.next) (hno : σ id = none) (hk : M.b.get id = some k) (o : Obj)
    (hb : RB (σ.upd id (w.heap.size, s, r)) B (w.alloc o) w.heap.size s r k) : RM B w0 (σ.upd id (w.heap.size, s, r)) M (w.alloc o) := by
  have hle := Sg.upd_le (x := (w.heap.size, s, r)) hno
  refine ⟨h.below.alloc h.base o, by have := h.base; simp; omega, fun i b s' r' e => ?_, h.fresh, fun i b s' r' q e f => ?_, fun i j b si ri sj rj ki kj hij e1 e2 f1 f2 l1 l2 => ?_⟩
  · unfold Sg.upd at e
    split at e
    · simp at e; obtain ⟨rfl, rfl, rfl⟩ := e; subst_vars; exact ⟨hid, by simp⟩
    · have := h.dom i b s' r' e; exact ⟨this.1, by simp; omega⟩
  · unfold Sg.upd at e
    split at e
    · simp at e; obtain ⟨rfl, rfl, rfl⟩ := e; subst_vars; rw [hk] at f; simp at f; subst f; exact hb
    · exact ((h.blk i b s' r' q e f).world (heap_push_old w o (h.dom i b s' r' e).2)).mono hle
  · unfold Sg.upd at e1 e2
    split at e1
    · split at e2
      · subst_vars; omega
      · simp at e1; obtain ⟨rfl, rfl, rfl⟩ := e1
        have := (h.dom j _ _ _ e2).2; omega
    · split at e2
      · simp at e2; obtain ⟨rfl, rfl, rfl⟩ := e2
        have := (h.dom i _ _ _ e1).2; omega
      · exact h.sep i j b si ri sj rj ki kj hij e1 e2 f1 f2 l1 l2

theorem none_of_next (h : RM B w0 σ M w) {id : Nat} (hi : M.next ≤ id) : σ id = none := by
  cases e : σ id with
  | none => rfl
  | some x => obtain ⟨b, s, r⟩ := x; have := (h.dom id b s r e).1; omega

theorem Stp.placed (h : RM B w0 σ M w) (k : Blk) (x : Nat × Nat × Nat) : Stp σ M (σ.upd M.next x) (M.put k) :=
  ⟨Sg.upd_le (none_of_next h (Nat.le_refl _)), fun id hi e => by rw [Sg.upd_other _ _ (by omega)]; exact e, fun id hi _ => by rw [get_put, if_neg (by omega)], Nat.le_succ _⟩

/-- What a block of cells, laid new, says. -/
theorem RB.new {cs : List CV} {CS ex : List Value} {E : TypeId} {fz : Nat × Nat} {x : Nat × Nat × Nat} {id : Nat} (hno : σ id = none) (hF : F2 (RC σ) cs CS) (hfz : ∀ i, i < CS.length + ex.length → ¬ (fz.1 ≤ i ∧ i < fz.2)) (hB : B ≤ w.heap.size) :
    RB (σ.upd id x) B (w.alloc (.cells ⟨CS ++ ex⟩ E fz)) w.heap.size 0 (CS.length + ex.length) (.cells cs.length (T.puts cs .lf 0) true) := by
  refine ⟨⟨CS ++ ex⟩, E, fz, heap_push_new _ _, by rw [forall2_length hF]; omega, by simp, fun i hi => by simpa using hfz i hi, fun i x hi hx => ?_, fun _ => hB⟩
  rw [T.get_puts, if_pos (by omega)] at hx
  obtain ⟨y, hy, r⟩ := forall2_get hF _ _ hx
  refine ⟨y, ?_, r.mono (Sg.upd_le hno)⟩
  simp at hy ⊢
  rw [List.getElem?_append_left (by have := forall2_length hF; omega)]
  exact hy

/-- A block of cells, laid. -/
theorem RM.lay (h : RM B w0 σ M w) {cs : List CV} {CS ex : List Value} {E : TypeId} {fz : Nat × Nat} (hF : F2 (RC σ) cs CS) (hfz : ∀ i, i < CS.length + ex.length → ¬ (fz.1 ≤ i ∧ i < fz.2)) :
    RM B w0 (σ.upd M.next (w.heap.size, 0, CS.length + ex.length)) (M.new cs) (w.alloc (.cells ⟨CS ++ ex⟩ E fz)) ∧ Stp σ M (σ.upd M.next (w.heap.size, 0, CS.length + ex.length)) (M.new cs) :=
  ⟨(h.put _).place (id := M.next) (Nat.lt_succ_self _) (none_of_next h (Nat.le_refl _)) (by rw [get_put, if_pos rfl]) _ (RB.new (none_of_next h (Nat.le_refl _)) hF hfz h.base), Stp.placed h _ _⟩

/-! ### Cells, written -/
theorem storeCells_run (b o : Nat) (E : TypeId) (fz : Nat × Nat) : ∀ (vs : List Value) (i : Nat) (C : Array Value) (w : World), w.heap[b]? = some (.cells C E fz) → o + i + vs.length ≤ C.size →
    (∀ j, j < vs.length → ¬ (fz.1 ≤ o + i + j ∧ o + i + j < fz.2)) → (∀ v ∈ vs, v.oneCell' = true) →
    ∃ w' C', (storeCells ⟨b, o, none⟩ vs i).run P w = .ok () w' ∧ w'.heap[b]? = some (.cells C' E fz) ∧ C'.size = C.size ∧
      (∀ j, C'[j]? = if o + i ≤ j ∧ j < o + i + vs.length then vs[j - (o + i)]? else C[j]?) ∧ (∀ k, k ≠ b → w'.heap[k]? = w.heap[k]?) ∧ w'.heap.size = w.heap.size ∧
      w'.os = w.os ∧ w'.tape = w.tape ∧ w'.output = w.output := by
  intro vs
  induction vs with
  | nil =>
    intro i C w hb hl hfz h1
    exact ⟨w, C, rfl, hb, rfl, fun j => by rw [if_neg (by simp)], fun _ _ => rfl, rfl, rfl, rfl, rfl⟩
  | cons v vs ih =>
    intro i C w hb hl hfz h1
    have ha : (⟨b, o, none⟩ : Addr).add i = ⟨b, o + i, none⟩ := by
      unfold Addr.add; split
      · subst_vars; rfl
      · rfl
    have hlt : o + i < C.size := by simp at hl; omega
    have hc : w.cell? ⟨b, o + i, none⟩ = some C[o + i] := by simp [World.cell?, hb, hlt]
    have hf : w.frozen? ⟨b, o + i, none⟩ = false := by
      have := hfz 0 (by simp)
      simp only [World.frozen?, hb]
      simp at this ⊢
      omega
    have hst : (store ⟨b, o + i, none⟩ v).run P w = .ok () (w.setCell ⟨b, o + i, none⟩ v) := by
      rw [run_store P w _ v .plain (h1 v (by simp))]
      simp [hc, hf]
    have hb' : (w.setCell ⟨b, o + i, none⟩ v).heap[b]? = some (.cells (C.setIfInBounds (o + i) v) E fz) := by
      simp [World.setCell, Array.getElem?_modify, hb]
    obtain ⟨w', C', hr, hh, hs, hg, hk, hz, h5, h6, h7⟩ := ih (i + 1) (C.setIfInBounds (o + i) v) (w.setCell ⟨b, o + i, none⟩ v) hb' (by simp at hl ⊢; omega)
      (fun j hj => by have := hfz (j + 1) (by simp; omega); rw [show o + (i + 1) + j = o + i + (j + 1) by omega]; exact this) (fun u hu => h1 u (by simp [hu]))
    refine ⟨w', C', ?_, hh, by simpa using hs, fun j => ?_, fun k hk' => ?_, by simpa using hz, h5, h6, h7⟩
    · simp only [storeCells, ha, Sem.run_bind, hst, Result.andThen_ok]; exact hr
    · rw [hg]
      by_cases h1 : o + (i + 1) ≤ j ∧ j < o + (i + 1) + vs.length
      · rw [if_pos h1, if_pos (by simp; omega)]
        obtain ⟨q, hq⟩ : ∃ q, j - (o + i) = q + 1 := ⟨j - (o + i) - 1, by omega⟩
        rw [hq, List.getElem?_cons_succ]; congr 1; omega
      · rw [if_neg h1, Array.getElem?_setIfInBounds]
        by_cases h2 : o + i = j
        · subst h2; rw [if_pos rfl, if_pos hlt, if_pos (by simp)]; simp
        · rw [if_neg h2, if_neg (by simp; omega)]
    · rw [hk k hk']; exact Below.heap_setCell _ _ _ _ hk'

/-- What is another's is as it was. -/
theorem RM.others (h : RM B w0 σ M w) {id b s r n lo hi : Nat} {c : T CV} {w' : World} {C C' : Array Value} {E : TypeId} {fz : Nat × Nat} (e : σ id = some (b, s, r)) (f : M.b.get id = some (.cells n c true))
    (h1 : w.heap[b]? = some (.cells C E fz)) (h2 : w'.heap[b]? = some (.cells C' E fz)) (hs : C'.size = C.size) (hin : ∀ j, ¬ (lo ≤ j ∧ j < hi) → C'[j]? = C[j]?) (hlo : s ≤ lo) (hhi : hi ≤ s + r) (hk : ∀ k, k ≠ b → w'.heap[k]? = w.heap[k]?)
    {j bj sj rj : Nat} {kj : Blk} (hj : j ≠ id) (ej : σ j = some (bj, sj, rj)) (fj : M.b.get j = some kj) : RB σ B w' bj sj rj kj := by
  have hb := h.blk j bj sj rj kj ej fj
  by_cases hbb : bj = b
  · subst hbb
    cases kj with
    | dead => trivial
    | loop => obtain ⟨_, _, _, _, _, _, hh, _⟩ := hb; rw [h1] at hh; simp at hh
    | dfr => obtain ⟨_, _, _, hh⟩ := hb; rw [h1] at hh; simp at hh
    | cells n' c' wr' =>
      have hsep := h.sep j id bj sj rj s r _ _ hj ej e fj f trivial trivial (.inr rfl)
      obtain ⟨C1, E1, fz1, g1, g2, g3, g4, g5, g6⟩ := hb
      rw [h1] at g1
      simp at g1
      obtain ⟨rfl, rfl, rfl⟩ := g1
      refine ⟨C', E, fz, h2, g2, by omega, g4, fun i x hi' hx => ?_, g6⟩
      obtain ⟨y, hy, q⟩ := g5 i x hi' hx
      exact ⟨y, by rw [hin _ (by omega)]; exact hy, q⟩
  · exact hb.world (hk bj hbb)

/-- Cells stored. -/
theorem RM.stores (h : RM B w0 σ M w) {id off : Nat} {a : Addr} (ha : RA σ id off a) {xs : List CV} {vs : List Value} (hF : F2 (RC σ) xs vs) (hs : M.stores id off xs = some M') :
    ∃ w', (storeCells a vs).run P w = .ok () w' ∧ RM B w0 σ M' w' ∧ Stp σ M σ M' := by
  obtain ⟨n, c, hg, hle, rfl⟩ := stores_some hs
  obtain ⟨b, s, r, e, rfl⟩ := ha
  obtain ⟨C, E, fz, h1, h2, h3, h4, h5, h6⟩ := h.blk id b s r _ e hg
  have hlen := forall2_length hF
  obtain ⟨w', C', hr, hh, hz, hget, hk, hsz, g5, g6, g7⟩ := storeCells_run (P := P) b (s + off) E fz vs 0 C w h1 (by omega) (fun j hj => by
    have := h4 (off + j) (by omega); rw [show s + off + 0 + j = s + (off + j) by omega]; exact this) (by
      intro v hv
      obtain ⟨i, hi, rfl⟩ := List.getElem_of_mem hv
      obtain ⟨y, hy, q⟩ := forall2_get hF i (xs[i]'(by omega)) (by simp)
      simp [hi] at hy
      rw [hy]; exact q.oneCell)
  have hlt := h.dom _ _ _ _ e
  have hbel : Below B w0 w' := h.below.trans ⟨g5, g6, g7, by omega, fun k hk' => hk k (by have := h6 rfl; omega)⟩
  have hget' : ∀ i, (⟨M.next, M.b.set id (.cells n (T.puts xs c off) true)⟩ : Mem).b.get i = if i = id then some (.cells n (T.puts xs c off) true) else M.b.get i := fun i => T.get_set _ _ _ _
  refine ⟨w', hr, ⟨hbel, by rw [hsz]; exact h.base, fun i b' s' r' q => by rw [hsz]; exact h.dom i b' s' r' q, fun i hi => ?_, fun i b' s' r' k e' f' => ?_, fun i j b' si ri sj rj ki kj hij e1 e2 f1 f2 l1 l2 => ?_⟩, ⟨.refl _, fun _ _ q => q, fun i _ q => ?_, Nat.le_refl _⟩⟩
  · have hi : M.next ≤ i := hi
    rw [hget', if_neg (by omega)]; exact h.fresh i hi
  · rw [hget'] at f'
    split at f'
    · simp at f'; subst f'; subst_vars
      rw [e] at e'; simp at e'; obtain ⟨rfl, rfl, rfl⟩ := e'
      refine ⟨C', E, fz, hh, h2, by omega, h4, fun i x hi hx => ?_, h6⟩
      rw [T.get_puts] at hx
      by_cases hio : off ≤ i ∧ i < off + xs.length
      · rw [if_pos hio] at hx
        obtain ⟨y, hy, q⟩ := forall2_get hF _ _ hx
        refine ⟨y, ?_, q⟩
        rw [hget, if_pos (by omega), show s + i - (s + off + 0) = i - off by omega]; exact hy
      · rw [if_neg hio] at hx
        obtain ⟨y, hy, q⟩ := h5 i x hi hx
        exact ⟨y, by rw [hget, if_neg (by omega)]; exact hy, q⟩
    · rename_i hne
      exact h.others (lo := s + off + 0) (hi := s + off + 0 + vs.length) e hg h1 hh hz (fun j hj => by rw [hget, if_neg hj]) (by omega) (by omega) hk hne e' f'
  · rw [hget'] at f1 f2
    have hlive : ∀ (i : Nat) (k : Blk), (if i = id then some (Blk.cells n (T.puts xs c off) true) else M.b.get i) = some k → k.live → ∃ k', M.b.get i = some k' ∧ k'.live ∧ (k.mut → k'.mut) := by
      intro i k hk' hl
      split at hk'
      · subst_vars; exact ⟨_, hg, trivial, fun _ => rfl⟩
      · exact ⟨k, hk', hl, fun q => q⟩
    obtain ⟨k1, q1, l1', m1⟩ := hlive i ki f1 l1
    obtain ⟨k2, q2, l2', m2⟩ := hlive j kj f2 l2
    exact fun m => h.sep i j b' si ri sj rj k1 k2 hij e1 e2 q1 q2 l1' l2' (m.imp m1 m2)
  · rw [hget', if_neg (fun hh => by subst hh; rw [e] at q; simp at q)]
end
end Go.Ab
