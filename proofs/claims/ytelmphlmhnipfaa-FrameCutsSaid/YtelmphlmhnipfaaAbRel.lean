/- How the evaluator's memory stands to the model's: the relation, and what keeps it. No condition. -/
import Derived.Test.YtelmphlmhnipfaaAbTrie
import Derived.Below
import Derived.Laws.World
import Derived.Laws.Sem
import Derived.RangeFuncRecord
namespace Go.Ab
open Go.RowKit

inductive F2 {α β : Type} (R : α → β → Prop) : List α → List β → Prop
  | nil : F2 R [] []
  | cons {a : α} {b : β} {l : List α} {m : List β} : R a b → F2 R l m → F2 R (a :: l) (b :: m)

/-- Where the evaluator's blocks lie: a block of the model's, a place in it, how many cells are its own. -/
abbrev Sg := Nat → Option (Nat × Nat × Nat)

def RA (σ : Sg) (id off : Nat) (a : Addr) : Prop := ∃ b s r, σ id = some (b, s, r) ∧ a = ⟨b, s + off, none⟩

inductive RC (σ : Sg) : CV → Value → Prop
  | bool (b : Bool) : RC σ (.bool b) (.bool b)
  | int (k : IntKind) (n : Int) : RC σ (.int k n) (.int k n)
  | str (l : List Nat) (s : ByteArray) : s.data.toList.map (·.toNat) = l → RC σ (.str l) (.string s)
  | ptr (id off : Nat) (a : Addr) : RA σ id off a → RC σ (.ptr id off) (.pointer (some a))
  | nilp : RC σ .nilp (.pointer none)
  | slice (id off len cap es : Nat) (a : Addr) : RA σ id off a → RC σ (.slice id off len cap es false) (.slice (some a) len cap)
  | sliceO (id off len cap es cap' b s r : Nat) : σ id = some (b, s, r) → cap ≤ cap' → off + cap' * es ≤ r → RC σ (.slice id off len cap es true) (.slice (some ⟨b, s + off, none⟩) len cap')
  | sliceZ (id off es : Nat) (a : Addr) (x : Nat × Nat × Nat) : σ id = some x → RC σ (.slice id off 0 0 es true) (.slice (some a) 0 0)
  | nils : RC σ .nils (.slice none 0 0)
  | fn (f : FuncId) (caps : List (Nat × Nat)) (cs : List Value) : F2 (fun p c => ∃ a, RA σ p.1 p.2 a ∧ c = .pointer (some a)) caps cs → RC σ (.fn f caps) (.func (.func f) #[] ⟨cs⟩)
  | yld (l b : Nat) : σ l = some (b, 0, 1) → RC σ (.yld l) (.func (.yield b) #[] #[])
  | nilf : RC σ .nilf .nilFunc
  | nili : RC σ .nili .nilIface
  | nilm : RC σ .nilm (.map none)

inductive R1 (σ : Sg) : V1 → Value → Prop
  | c (x : CV) (v : Value) : RC σ x v → R1 σ (.c x) v
  | agg (xs : List CV) (cs : List Value) : F2 (RC σ) xs cs → R1 σ (.agg xs) (.agg ⟨cs⟩)

inductive RV (σ : Sg) : V → Value → Prop
  | one (x : V1) (v : Value) : R1 σ x v → RV σ (.one x) v
  | tup (xs : List V1) (vs : List Value) : F2 (R1 σ) xs vs → RV σ (.tup xs) (.tuple ⟨vs⟩)
  | undef : RV σ .undef Go.undef

def Le (σ σ' : Sg) : Prop := ∀ id x, σ id = some x → σ' id = some x
theorem Le.refl (σ : Sg) : Le σ σ := fun _ _ h => h
theorem Le.trans {a b c : Sg} (h : Le a b) (k : Le b c) : Le a c := fun i x e => k i x (h i x e)

theorem forall2_mono {α β : Type} {R S : α → β → Prop} (h : ∀ a b, R a b → S a b) : ∀ {l : List α} {m : List β}, F2 R l m → F2 S l m
  | _, _, .nil => .nil
  | _, _, .cons a b => .cons (h _ _ a) (forall2_mono h b)
theorem forall2_length {α β : Type} {R : α → β → Prop} : ∀ {l : List α} {m : List β}, F2 R l m → l.length = m.length
  | _, _, .nil => rfl
  | _, _, .cons _ b => by simp [forall2_length b]
theorem forall2_get {α β : Type} {R : α → β → Prop} : ∀ {l : List α} {m : List β}, F2 R l m → ∀ (i : Nat) (a : α), l[i]? = some a → ∃ b, m[i]? = some b ∧ R a b
  | _, _, .nil => fun i a h => by simp at h
  | _, _, .cons (a := x) (b := y) r t => fun i a h => by
    cases i with
    | zero => simp at h; subst h; exact ⟨y, by simp, r⟩
    | succ i => simp at h; simpa using forall2_get t i a h
theorem forall2_append {α β : Type} {R : α → β → Prop} : ∀ {l : List α} {m : List β} {l' : List α} {m' : List β}, F2 R l m → F2 R l' m' → F2 R (l ++ l') (m ++ m')
  | _, _, _, _, .nil, h => h
  | _, _, _, _, .cons a b, h => .cons a (forall2_append b h)
theorem forall2_drop {α β : Type} {R : α → β → Prop} : ∀ {l : List α} {m : List β} (n : Nat), F2 R l m → F2 R (l.drop n) (m.drop n)
  | _, _, 0, h => h
  | _, _, _ + 1, .nil => by simpa using F2.nil
  | _, _, n + 1, .cons _ b => by simpa using forall2_drop n b
theorem forall2_take {α β : Type} {R : α → β → Prop} : ∀ {l : List α} {m : List β} (n : Nat), F2 R l m → F2 R (l.take n) (m.take n)
  | _, _, 0, _ => by simpa using F2.nil
  | _, _, _ + 1, .nil => by simpa using F2.nil
  | _, _, n + 1, .cons a b => F2.cons a (forall2_take n b)
theorem forall2_of_get {α β : Type} {R : α → β → Prop} : ∀ {l : List α} {m : List β}, l.length = m.length → (∀ (i : Nat) (a : α) (b : β), l[i]? = some a → m[i]? = some b → R a b) → F2 R l m
  | [], [], _, _ => .nil
  | [], _ :: _, h, _ => by simp at h
  | _ :: _, [], h, _ => by simp at h
  | a :: l, b :: m, h, k => .cons (k 0 a b rfl rfl) (forall2_of_get (by simpa using h) fun i a b x y => k (i + 1) a b (by simpa using x) (by simpa using y))
theorem forall2_map_left {α β γ : Type} {R : γ → β → Prop} (f : α → γ) : ∀ {l : List α} {m : List β}, F2 (fun a b => R (f a) b) l m → F2 R (l.map f) m
  | _, _, .nil => .nil
  | _, _, .cons a b => .cons a (forall2_map_left f b)

theorem RA.mono {σ σ' : Sg} (h : Le σ σ') {id off : Nat} {a : Addr} (k : RA σ id off a) : RA σ' id off a :=
  let ⟨b, s, r, e, f⟩ := k; ⟨b, s, r, h _ _ e, f⟩
theorem RC.mono {σ σ' : Sg} (h : Le σ σ') {x : CV} {v : Value} (k : RC σ x v) : RC σ' x v := by
  cases k with
  | bool b => exact .bool b
  | int k n => exact .int k n
  | str l s e => exact .str l s e
  | ptr id off a r => exact .ptr id off a (r.mono h)
  | nilp => exact .nilp
  | slice id off len cap es a r => exact .slice _ _ _ _ _ _ (r.mono h)
  | sliceO id off len cap es cap' b s r e1 e2 e3 => exact .sliceO _ _ _ _ _ _ _ _ _ (h _ _ e1) e2 e3
  | sliceZ id off es a x e => exact .sliceZ _ _ _ _ x (h _ _ e)
  | nils => exact .nils
  | fn f caps cs e => exact .fn _ _ _ (forall2_mono (fun p c ⟨a, r, e⟩ => ⟨a, r.mono h, e⟩) e)
  | yld l b e => exact .yld _ _ (h _ _ e)
  | nilf => exact .nilf
  | nili => exact .nili
  | nilm => exact .nilm
theorem R1.mono {σ σ' : Sg} (h : Le σ σ') {x : V1} {v : Value} (k : R1 σ x v) : R1 σ' x v := by
  cases k with
  | c x v r => exact .c _ _ (r.mono h)
  | agg xs cs r => exact .agg _ _ (forall2_mono (fun _ _ r => r.mono h) r)
theorem RV.mono {σ σ' : Sg} (h : Le σ σ') {x : V} {v : Value} (k : RV σ x v) : RV σ' x v := by
  cases k with
  | one x v r => exact .one _ _ (r.mono h)
  | tup xs vs r => exact .tup _ _ (forall2_mono (fun _ _ r => r.mono h) r)
  | undef => exact .undef

theorem RC.cells {σ : Sg} {x : CV} {v : Value} (h : RC σ x v) : v.cells = #[v] := by cases h <;> rfl
theorem RC.oneCell {σ : Sg} {x : CV} {v : Value} (h : RC σ x v) : v.oneCell' = true := by cases h <;> rfl
theorem R1.cells {σ : Sg} {x : V1} {v : Value} (h : R1 σ x v) : F2 (RC σ) x.cells v.cells.toList := by
  cases h with
  | c x v r => rw [r.cells]; exact .cons r .nil
  | agg xs cs r => exact r

/-! ### Temporaries -/
def RT (σ : Sg) (tm : T V) (tmps : Array Value) : Prop := ∀ t v, tm.get t = some v → RV σ v (tmps.getD t undef)
theorem RT.mono {σ σ' : Sg} (h : Le σ σ') {tm : T V} {tmps : Array Value} (k : RT σ tm tmps) : RT σ' tm tmps := fun t v e => (k t v e).mono h
theorem getD_set (a : Array Value) (d t : Nat) (v : Value) (h : d < a.size) : (a.setIfInBounds d v).getD t undef = if t = d then v else a.getD t undef := by
  simp only [Array.getD_eq_getD_getElem?, Array.getElem?_setIfInBounds]
  by_cases e : d = t
  · subst e; simp [h]
  · rw [if_neg e, if_neg (Ne.symm e)]
theorem RT.set {σ : Sg} {tm : T V} {tmps : Array Value} (k : RT σ tm tmps) {d : Nat} (hd : d < tmps.size) {v : V} {c : Value} (h : RV σ v c) : RT σ (tm.set d v) (tmps.setIfInBounds d c) := by
  intro t u e
  rw [getD_set _ _ _ _ hd]
  rw [T.get_set] at e
  by_cases ht : t = d
  · rw [if_pos ht] at e ⊢; simp at e; subst e; exact h
  · rw [if_neg ht] at e ⊢; exact k t u e

/-! ### Memory -/
def Blk.live : Blk → Prop
  | .dead => False
  | _ => True
/-- May it change? -/
def Blk.mut : Blk → Prop
  | .cells _ _ wr => wr = true
  | .dead => False
  | _ => True

/-- What a block of the evaluator's says of the model's memory. -/
def RB (σ : Sg) (B : Nat) (w : World) (b s r : Nat) : Blk → Prop
  | .cells n c wr => ∃ C E fz, w.heap[b]? = some (.cells C E fz) ∧ n ≤ r ∧ s + r ≤ C.size ∧ (∀ i, i < r → ¬ (fz.1 ≤ s + i ∧ s + i < fz.2)) ∧
      (∀ i x, i < n → c.get i = some x → ∃ y, C[s + i]? = some y ∧ RC σ x y) ∧ (wr = true → B ≤ b)
  | .loop st pend tm nt ps asg body d => s = 0 ∧ r = 1 ∧ B ≤ b ∧ ∃ fn tmps dd, w.heap[b]? = some (.loop { state := st, pending := pend, fn, tmps, params := ⟨ps⟩, assign := asg, body, defers := dd }) ∧
      tmps.size = nt ∧ RT σ tm tmps ∧ σ d = some (dd, 0, 1)
  | .dfr o => s = 0 ∧ r = 1 ∧ B ≤ b ∧ w.heap[b]? = some (.deferred (if o then some [] else none))
  | .dead => True

theorem RB.mono {σ σ' : Sg} (h : Le σ σ') {B : Nat} {w : World} {b s r : Nat} {k : Blk} (q : RB σ B w b s r k) : RB σ' B w b s r k := by
  cases k with
  | cells n c wr =>
    obtain ⟨C, E, fz, h1, h2, h3, h4, h5, h6⟩ := q
    exact ⟨C, E, fz, h1, h2, h3, h4, fun i x a b => let ⟨y, e, f⟩ := h5 i x a b; ⟨y, e, f.mono h⟩, h6⟩
  | loop st pend tm nt ps asg body d =>
    obtain ⟨h1, h2, h3, fn, tmps, dd, h4, h5, h6, h7⟩ := q
    exact ⟨h1, h2, h3, fn, tmps, dd, h4, h5, h6.mono h, h _ _ h7⟩
  | dfr o => exact q
  | dead => trivial
/-- It hangs on the one block. -/
theorem RB.world {σ : Sg} {B : Nat} {w w' : World} {b s r : Nat} {k : Blk} (h : w'.heap[b]? = w.heap[b]?) (q : RB σ B w b s r k) : RB σ B w' b s r k := by
  cases k <;> simp only [RB, h] at * <;> exact q

structure RM (B : Nat) (w0 : World) (σ : Sg) (M : Mem) (w : World) : Prop where
  below : Below B w0 w
  base : B ≤ w.heap.size
  dom : ∀ id b s r, σ id = some (b, s, r) → id < M.next ∧ b < w.heap.size
  fresh : ∀ id, M.next ≤ id → M.b.get id = none
  blk : ∀ id b s r k, σ id = some (b, s, r) → M.b.get id = some k → RB σ B w b s r k
  sep : ∀ i j b si ri sj rj ki kj, i ≠ j → σ i = some (b, si, ri) → σ j = some (b, sj, rj) → M.b.get i = some ki → M.b.get j = some kj → ki.live → kj.live → (ki.mut ∨ kj.mut) → si + ri ≤ sj ∨ sj + rj ≤ si

/-- A step: places stay; what was not placed stays so, and as it was. -/
structure Stp (σ : Sg) (M : Mem) (σ' : Sg) (M' : Mem) : Prop where
  le : Le σ σ'
  nom : ∀ id, id < M.next → σ id = none → σ' id = none
  keep : ∀ id, id < M.next → σ id = none → M'.b.get id = M.b.get id
  next : M.next ≤ M'.next
theorem Stp.refl (σ : Sg) (M : Mem) : Stp σ M σ M := ⟨.refl σ, fun _ _ h => h, fun _ _ _ => rfl, Nat.le_refl _⟩
theorem Stp.trans {σ σ' σ'' : Sg} {M M' M'' : Mem} (h : Stp σ M σ' M') (k : Stp σ' M' σ'' M'') : Stp σ M σ'' M'' :=
  ⟨h.le.trans k.le, fun id a b => k.nom id (Nat.lt_of_lt_of_le a h.next) (h.nom id a b),
   fun id a b => (k.keep id (Nat.lt_of_lt_of_le a h.next) (h.nom id a b)).trans (h.keep id a b), Nat.le_trans h.next k.next⟩

section
variable {B : Nat} {w0 w : World} {σ : Sg} {M : Mem}
theorem blk_lt (h : RM B w0 σ M w) {id : Nat} {k : Blk} (e : M.b.get id = some k) : id < M.next := by
  rcases Nat.lt_or_ge id M.next with q | q
  · exact q
  · rw [h.fresh id q] at e; simp at e
/-- A draw. -/
theorem RM.drew (h : RM B w0 σ M w) : RM B w0 σ M w.drew :=
  ⟨h.below.drew, h.base, h.dom, h.fresh, fun id b s r k a c => (h.blk id b s r k a c).world rfl, h.sep⟩
theorem load_some {id off : Nat} {x : CV} (h : M.load id off = some x) : ∃ n c wr, M.b.get id = some (.cells n c wr) ∧ off < n ∧ c.get off = some x := by
  unfold Mem.load at h
  cases e : M.b.get id with
  | none => rw [e] at h; simp at h
  | some k =>
    rw [e] at h
    cases k with
    | cells n c wr =>
      simp only [oRec_some, Blk.asCells, br_eq] at h
      split at h
      · rename_i hb; exact ⟨n, c, wr, rfl, by simpa [Nat.blt_eq] using hb, h⟩
      · simp at h
    | loop => simp [Blk.asCells] at h
    | dfr => simp [Blk.asCells] at h
    | dead => simp [Blk.asCells] at h
theorem loads_some {id off k : Nat} {l : List CV} (h : M.loads id off k = some l) : ∃ n c wr, M.b.get id = some (.cells n c wr) ∧ off + k ≤ n ∧ c.gets k off = some l := by
  unfold Mem.loads at h
  cases e : M.b.get id with
  | none => rw [e] at h; simp at h
  | some q =>
    rw [e] at h
    cases q with
    | cells n c wr =>
      simp only [oRec_some, Blk.asCells, br_eq] at h
      split at h
      · rename_i hb; exact ⟨n, c, wr, rfl, by simpa using hb, h⟩
      · simp at h
    | loop => simp [Blk.asCells] at h
    | dfr => simp [Blk.asCells] at h
    | dead => simp [Blk.asCells] at h
theorem stores_some {id off : Nat} {xs : List CV} {M' : Mem} (h : M.stores id off xs = some M') :
    ∃ n c, M.b.get id = some (.cells n c true) ∧ off + xs.length ≤ n ∧ M' = ⟨M.next, M.b.set id (.cells n (T.puts xs c off) true)⟩ := by
  unfold Mem.stores at h
  cases e : M.b.get id with
  | none => rw [e] at h; simp at h
  | some q =>
    rw [e] at h
    cases q with
    | cells n c wr =>
      simp only [oRec_some, Blk.asCells, br_eq] at h
      split at h
      · rename_i hb
        simp at hb
        obtain ⟨rfl, hb⟩ := hb
        exact ⟨n, c, rfl, hb, by simpa using h.symm⟩
      · simp at h
    | loop => simp [Blk.asCells] at h
    | dfr => simp [Blk.asCells] at h
    | dead => simp [Blk.asCells] at h

/-- A cell of the evaluator's, in the model's memory. -/
theorem RM.cell (h : RM B w0 σ M w) {id off : Nat} {a : Addr} (ha : RA σ id off a) {x : CV} (hx : M.load id off = some x) : ∃ y, w.cell? a = some y ∧ RC σ x y := by
  obtain ⟨n, c, wr, hg, hlt, hc⟩ := load_some hx
  obtain ⟨b, s, r, e, rfl⟩ := ha
  obtain ⟨C, E, fz, h1, h2, h3, h4, h5, h6⟩ := h.blk id b s r _ e hg
  obtain ⟨y, hy, hr⟩ := h5 off x hlt hc
  exact ⟨y, by simp [World.cell?, h1, hy], hr⟩
theorem RM.cells (h : RM B w0 σ M w) {id off k : Nat} {a : Addr} (ha : RA σ id off a) {l : List CV} (hx : M.loads id off k = some l) :
    ∃ cs : List Value, F2 (RC σ) l cs ∧ l.length = k ∧ ∀ j v, cs[j]? = some v → w.cell? (a.add j) = some v := by
  obtain ⟨n, c, wr, hg, hle, hc⟩ := loads_some hx
  obtain ⟨b, s, r, e, rfl⟩ := ha
  obtain ⟨C, E, fz, h1, h2, h3, h4, h5, h6⟩ := h.blk id b s r _ e hg
  obtain ⟨hl, hget⟩ := T.gets_some c k off l hc
  have key : ∀ (l : List CV) (o : Nat), o + l.length ≤ n → (∀ j, j < l.length → c.get (o + j) = l[j]?) →
      ∃ cs : List Value, F2 (RC σ) l cs ∧ ∀ j v, cs[j]? = some v → C[s + (o + j)]? = some v := by
    intro l
    induction l with
    | nil => intro o _ _; exact ⟨[], .nil, by simp⟩
    | cons x l ih =>
      intro o ho hj
      obtain ⟨cs, hf, hcs⟩ := ih (o + 1) (by simp at ho; omega) (fun j hj' => by
        have := hj (j + 1) (by simp; omega)
        rw [show o + 1 + j = o + (j + 1) by omega, this]; simp)
      obtain ⟨y, hy, hr⟩ := h5 o x (by simp at ho; omega) (by simpa using hj 0 (by simp))
      refine ⟨y :: cs, .cons hr hf, fun j v hv => ?_⟩
      cases j with
      | zero => simp at hv; subst hv; simpa using hy
      | succ j => simp at hv; have := hcs j v hv; rw [show o + (j + 1) = o + 1 + j by omega]; exact this
  obtain ⟨cs, hf, hcs⟩ := key l off (by omega) (fun j hj => hget j (by omega))
  refine ⟨cs, hf, hl, fun j v hv => ?_⟩
  have := hcs j v hv
  have ea : (⟨b, s + off, none⟩ : Addr).add j = ⟨b, s + (off + j), none⟩ := by
    unfold Addr.add; split
    · subst_vars; simp
    · simp; omega
  rw [ea]; simp [World.cell?, h1, this]
end
end Go.Ab
