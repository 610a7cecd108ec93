/- How a law's arguments come into the evaluator's memory: flat things (truth values, numbers, texts, structs and arrays of them) and slices of flat things. No condition. -/
import Derived.Test.YtelmphlmhnipfaaAbLim
import Derived.Test.YtelmphlmhnipfaaAbShut
import Derived.Carry
namespace Go.Ab
open Go.RowKit Go.ChangeShapes

/-- What a flat cell is. -/
inductive FK where | b | i (k : IntKind) | s
def FK.ok : FK → CV → Prop
  | .b, .bool _ => True
  | .i k, .int k' n => k' = k ∧ (Lit.int k n).wf = true
  | .s, .str l => l.length ≤ maxLen ∧ ∀ b ∈ l, b < 256
  | _, _ => False
section
variable (P : Program)
noncomputable def flatFK (rec : TypeId → Option (List FK)) : List Field → Nat → Option (List FK)
  | [], _ => some []
  | f :: r, o => (rec f.type).bind fun a => cond (Nat.beq f.offset o && Nat.beq (P.cellsOf f.type) a.length) ((flatFK rec r (o + a.length)).bind fun b => some (a ++ b)) none
def repFK (l : List FK) : Nat → List FK
  | 0 => []
  | n + 1 => l ++ repFK l n
noncomputable def flatK : Nat → TypeId → Option (List FK)
  | 0, _ => none
  | d + 1, t => match P.underlying t with
    | some .bool => some [.b]
    | some (.int k) => some [.i k]
    | some .string => some [.s]
    | some (.struct fs) => (flatFK P (flatK d) fs.toList 0).bind fun ks => cond (Nat.beq (P.cellsOf t) ks.length) (some ks) none
    | some (.array n e) => (flatK d e).bind fun a => cond (Nat.beq (P.cellsOf e) a.length && Nat.beq (P.cellsOf t) (n * a.length)) (some (repFK a n)) none
    | _ => none
end

/-- A flat cell of the model's, of a kind. -/
def CF1 (v : Value) (x : CV) (k : FK) : Prop := (∀ σ : Sg, RC σ x v) ∧ k.ok x
inductive F3 : List Value → List CV → List FK → Prop
  | nil : F3 [] [] []
  | cons {v : Value} {x : CV} {k : FK} {a : List Value} {b : List CV} {c : List FK} : CF1 v x k → F3 a b c → F3 (v :: a) (x :: b) (k :: c)
theorem F3.append : ∀ {a : List Value} {b : List CV} {c : List FK} {a' : List Value} {b' : List CV} {c' : List FK}, F3 a b c → F3 a' b' c' → F3 (a ++ a') (b ++ b') (c ++ c')
  | _, _, _, _, _, _, .nil, h => h
  | _, _, _, _, _, _, .cons x y, h => .cons x (F3.append y h)
theorem F3.len : ∀ {a : List Value} {b : List CV} {c : List FK}, F3 a b c → a.length = c.length ∧ b.length = c.length
  | _, _, _, .nil => ⟨rfl, rfl⟩
  | _, _, _, .cons _ y => by simp [y.len.1, y.len.2]
theorem F3.rel {σ : Sg} : ∀ {a : List Value} {b : List CV} {c : List FK}, F3 a b c → F2 (RC σ) b a
  | _, _, _, .nil => .nil
  | _, _, _, .cons x y => .cons (x.1 σ) y.rel
theorem F3.kinds : ∀ {a : List Value} {b : List CV} {c : List FK}, F3 a b c → F2 FK.ok c b
  | _, _, _, .nil => .nil
  | _, _, _, .cons x y => .cons x.2 y.kinds

section
variable {H : Type} {enc : TypeId × Value → H} {P : Program} {w : World} {base : Nat} {sp : Nat → Bool} {held : Bool}
theorem mapM_cons_some {α β : Type} {f : α → Option β} {a : α} {l : List α} {r : List β} (h : (a :: l).mapM f = some r) : ∃ y ys, f a = some y ∧ l.mapM f = some ys ∧ r = y :: ys := by
  rw [List.mapM_cons] at h
  simp only [Option.bind_eq_bind, Option.bind_eq_some_iff, Option.pure_def, Option.some.injEq] at h
  obtain ⟨y, hy, ys, hys, e⟩ := h
  exact ⟨y, ys, hy, hys, e.symm⟩

theorem flat_fields {n d : Nat} (ih : ∀ (t : TypeId) (ks : List FK) (cs : List Value) (x : DataW H × List MemPlace), flatK P d t = some ks → DataW.trod enc P w base sp held n t cs = some x → ∃ xs, F3 cs xs ks ∧ x.2 = []) (cs : List Value) :
    ∀ (fs : List Field) (o : Nat) (ks : List FK) (ys : List (DataW H × List MemPlace)), flatFK P (flatK P d) fs o = some ks →
      (fs.mapM fun f => DataW.trod enc P w base sp held n f.type ((cs.drop f.offset).take (P.cellsOf f.type))) = some ys → ∃ xs, F3 ((cs.drop o).take ks.length) xs ks ∧ ys.flatMap (·.2) = [] := by
  intro fs
  induction fs with
  | nil =>
    intro o ks ys h1 h2
    simp [flatFK] at h1; subst h1
    simp at h2; subst h2
    exact ⟨[], by simpa using F3.nil, rfl⟩
  | cons f r ihf =>
    intro o ks ys h1 h2
    obtain ⟨y, ys', hy, hys, rfl⟩ := mapM_cons_some h2
    simp only [flatFK, Option.bind_eq_some_iff] at h1
    obtain ⟨a, ha, h1⟩ := h1
    cases hc : (Nat.beq f.offset o && Nat.beq (P.cellsOf f.type) a.length) with
    | false => rw [hc] at h1; simp at h1
    | true =>
      rw [hc] at h1
      simp only [cond_true, Option.bind_eq_some_iff] at h1
      obtain ⟨b, hb, h1⟩ := h1
      simp at h1; subst h1
      rw [Bool.and_eq_true] at hc
      have e1 := Nat.eq_of_beq_eq_true hc.1
      have e2 := Nat.eq_of_beq_eq_true hc.2
      obtain ⟨xs, hx, hx2⟩ := ih _ _ _ _ ha hy
      obtain ⟨zs, hz, hz2⟩ := ihf _ _ _ hb hys
      refine ⟨xs ++ zs, ?_, by simp [hx2, hz2]⟩
      rw [e1, e2] at hx
      have : (cs.drop o).take (a ++ b).length = (cs.drop o).take a.length ++ (cs.drop (o + a.length)).take b.length := by
        rw [List.length_append, List.take_add, List.drop_drop]
      rw [this]
      exact hx.append hz

theorem flat_elems {n d : Nat} {e : TypeId} {a : List FK} (ih : ∀ (t : TypeId) (ks : List FK) (cs : List Value) (x : DataW H × List MemPlace), flatK P d t = some ks → DataW.trod enc P w base sp held n t cs = some x → ∃ xs, F3 cs xs ks ∧ x.2 = []) (cs : List Value)
    (ha : flatK P d e = some a) (hc : P.cellsOf e = a.length) :
    ∀ (m o : Nat) (ys : List (DataW H × List MemPlace)), ((List.range' o m).mapM fun i => DataW.trod enc P w base sp held n e ((cs.drop (i * P.cellsOf e)).take (P.cellsOf e))) = some ys →
      ∃ xs, F3 ((cs.drop (o * a.length)).take (m * a.length)) xs (repFK a m) ∧ ys.flatMap (·.2) = [] := by
  intro m
  induction m with
  | zero => intro o ys h; simp at h; subst h; exact ⟨[], by simpa [repFK] using F3.nil, rfl⟩
  | succ m ihm =>
    intro o ys h
    rw [List.range'_succ] at h
    obtain ⟨y, ys', hy, hys, rfl⟩ := mapM_cons_some h
    obtain ⟨xs, hx, hx2⟩ := ih _ _ _ _ ha hy
    obtain ⟨zs, hz, hz2⟩ := ihm _ _ hys
    refine ⟨xs ++ zs, ?_, by simp [hx2, hz2]⟩
    rw [hc] at hx
    have : (cs.drop (o * a.length)).take ((m + 1) * a.length) = (cs.drop (o * a.length)).take a.length ++ (cs.drop ((o + 1) * a.length)).take (m * a.length) := by
      rw [show (m + 1) * a.length = a.length + m * a.length by rw [Nat.add_mul]; omega, List.take_add, List.drop_drop, show (o + 1) * a.length = o * a.length + a.length by rw [Nat.add_mul]; omega]
    rw [this]
    exact hx.append hz

theorem flat_trod : ∀ (d n : Nat) (t : TypeId) (ks : List FK) (cs : List Value) (x : DataW H × List MemPlace), flatK P d t = some ks → DataW.trod enc P w base sp held n t cs = some x → ∃ xs, F3 cs xs ks ∧ x.2 = [] := by
  intro d
  induction d with
  | zero => intro n t ks cs x h; simp [flatK] at h
  | succ d ihd =>
    intro n t ks cs x h1 h2
    cases n with
    | zero => simp [DataW.trod] at h2
    | succ n =>
      unfold flatK at h1
      unfold DataW.trod at h2
      cases hu : P.underlying t with
      | none => rw [hu] at h1; simp at h1
      | some u =>
        rw [hu] at h1 h2
        cases u with
        | bool =>
          simp at h1; subst h1
          have key : ∃ b, cs = [.bool b] ∧ x = (.lit (.bool b), []) := by split at h2 <;> simp_all
          obtain ⟨b, rfl, rfl⟩ := key
          exact ⟨[.bool b], .cons ⟨fun _ => .bool _, trivial⟩ .nil, rfl⟩
        | int k =>
          simp at h1; subst h1
          have key : ∃ n, cs = [.int k n] ∧ (Lit.int k n).wf = true ∧ x = (.lit (.int k n), []) := by split at h2 <;> simp_all
          obtain ⟨m, rfl, hw, rfl⟩ := key
          exact ⟨[.int k m], .cons ⟨fun _ => .int _ _, rfl, hw⟩ .nil, rfl⟩
        | string =>
          simp at h1; subst h1
          have key : ∃ s, cs = [.string s] ∧ s.size ≤ maxLen ∧ x = (.lit (.string s.data.toList), []) := by split at h2 <;> simp_all
          obtain ⟨s, rfl, hw, rfl⟩ := key
          refine ⟨[.str (s.data.toList.map (·.toNat))], .cons ⟨fun _ => .str _ _ rfl, ?_, ?_⟩ .nil, rfl⟩
          · rw [List.length_map]; exact hw
          · intro b hb
            obtain ⟨c, _, rfl⟩ := List.mem_map.1 hb
            exact c.toNat_lt
        | struct fs =>
          simp only [Option.bind_eq_some_iff] at h1
          obtain ⟨ks', hk, h1⟩ := h1
          have key : cs.length = P.cellsOf t ∧ ∃ ys, (fs.toList.mapM fun f => DataW.trod enc P w base sp held n f.type ((cs.drop f.offset).take (P.cellsOf f.type))) = some ys ∧ x.2 = ys.flatMap (·.2) := by
            split at h2 <;> simp_all
            obtain ⟨_, ys, hys, rfl⟩ := h2
            exact ⟨ys, hys, rfl⟩
          obtain ⟨hl, ys, hys, hx⟩ := key
          cases hc : Nat.beq (P.cellsOf t) ks'.length with
          | false => rw [hc] at h1; simp at h1
          | true =>
            rw [hc] at h1; simp at h1; subst h1
            have hc := Nat.eq_of_beq_eq_true hc
            obtain ⟨xs, h3, h4⟩ := flat_fields (fun t ks cs x => ihd n t ks cs x) cs fs.toList 0 ks' ys hk hys
            rw [List.drop_zero, List.take_of_length_le (by omega)] at h3
            exact ⟨xs, h3, hx.trans h4⟩
        | array m e =>
          simp only [Option.bind_eq_some_iff] at h1
          obtain ⟨a, hk, h1⟩ := h1
          have key : cs.length = P.cellsOf t ∧ ∃ ys, ((List.range m).mapM fun i => DataW.trod enc P w base sp held n e ((cs.drop (i * P.cellsOf e)).take (P.cellsOf e))) = some ys ∧ x.2 = ys.flatMap (·.2) := by
            split at h2 <;> simp_all
            obtain ⟨_, ys, hys, rfl⟩ := h2
            exact ⟨ys, hys, rfl⟩
          obtain ⟨hl, ys, hys, hx⟩ := key
          cases hc : (Nat.beq (P.cellsOf e) a.length && Nat.beq (P.cellsOf t) (m * a.length)) with
          | false => rw [hc] at h1; simp at h1
          | true =>
            rw [hc] at h1; simp at h1; subst h1
            rw [Bool.and_eq_true] at hc
            have e1 := Nat.eq_of_beq_eq_true hc.1
            have e2 := Nat.eq_of_beq_eq_true hc.2
            rw [List.range_eq_range'] at hys
            obtain ⟨xs, h3, h4⟩ := flat_elems (fun t ks cs x => ihd n t ks cs x) cs hk e1 m 0 ys hys
            rw [Nat.zero_mul, List.drop_zero, List.take_of_length_le (by omega)] at h3
            exact ⟨xs, h3, hx.trans h4⟩
        | _ => simp at h1

/-! ### Slices of flat things -/
theorem cells_at {n b o : Nat} {CS : List Value} (h : w.cells? base ⟨b, o, none⟩ n = some CS) : CS.length = n ∧ ∀ j, j < n → w.cell? ⟨b, o + j, none⟩ = CS[j]? := by
  unfold World.cells? at h
  split at h
  · have gen : ∀ (m k : Nat) (r : List Value), ((List.range' k m).mapM fun i => w.cell? ((⟨b, o, none⟩ : Addr).add i)) = some r → r.length = m ∧ ∀ j, j < m → w.cell? ⟨b, o + (k + j), none⟩ = r[j]? := by
      intro m
      induction m with
      | zero => intro k r h; simp at h; subst h; exact ⟨rfl, fun j hj => by omega⟩
      | succ m ih =>
        intro k r h
        rw [List.range'_succ] at h
        obtain ⟨y, ys, hy, hys, rfl⟩ := mapM_cons_some h
        obtain ⟨h1, h2⟩ := ih _ _ hys
        refine ⟨by simp [h1], fun j hj => ?_⟩
        have e : ((⟨b, o, none⟩ : Addr).add k) = ⟨b, o + k, none⟩ := by
          unfold Addr.add
          split
          · simp_all
          · rfl
        cases j with
        | zero => rw [e] at hy; simpa using hy
        | succ j =>
          have := h2 j (by omega)
          rw [show k + 1 + j = k + (j + 1) by omega] at this
          simpa using this
    rw [List.range_eq_range'] at h
    obtain ⟨h1, h2⟩ := gen _ _ _ h
    exact ⟨h1, fun j hj => by have := h2 j hj; rwa [Nat.zero_add] at this⟩
  · simp at h

theorem elems_at {n d : Nat} {e : TypeId} {ks : List FK} (hk : flatK P d e = some ks) (hc : P.cellsOf e = ks.length) {b o : Nat} :
    ∀ (m i : Nat) (ys : List (DataW H × List MemPlace)), ((List.range' i m).mapM fun i => (w.cells? base ((⟨b, o, none⟩ : Addr).add (i * P.cellsOf e)) (P.cellsOf e)).bind (DataW.trod enc P w base sp held n e)) = some ys →
      ys.length = m ∧ ∃ CS xs, F3 CS xs (repFK ks m) ∧ ∀ j, j < m * ks.length → w.cell? ⟨b, o + (i * ks.length + j), none⟩ = CS[j]? := by
  intro m
  induction m with
  | zero => intro i ys h; simp at h; subst h; exact ⟨rfl, [], [], .nil, fun j hj => by omega⟩
  | succ m ih =>
    intro i ys h
    rw [List.range'_succ] at h
    obtain ⟨y, ys', hy, hys, rfl⟩ := mapM_cons_some h
    obtain ⟨h0, CS, xs, h1, h2⟩ := ih _ _ hys
    simp only [Option.bind_eq_some_iff] at hy
    obtain ⟨CS0, hC0, hy⟩ := hy
    obtain ⟨xs0, h3, _⟩ := flat_trod _ _ _ _ _ _ hk hy
    have ea : ((⟨b, o, none⟩ : Addr).add (i * P.cellsOf e)) = ⟨b, o + i * P.cellsOf e, none⟩ := by
      unfold Addr.add
      split
      · simp_all
      · rfl
    rw [ea] at hC0
    obtain ⟨h5, h6⟩ := cells_at hC0
    refine ⟨by simp [h0], CS0 ++ CS, xs0 ++ xs, h3.append h1, fun j hj => ?_⟩
    rw [hc] at h5 h6
    by_cases hjl : j < ks.length
    · rw [List.getElem?_append_left (by omega), ← h6 j hjl, Nat.add_assoc]
    · rw [List.getElem?_append_right (by omega), h5]
      have := h2 (j - ks.length) (by rw [Nat.add_mul] at hj; omega)
      rw [← this, show o + ((i + 1) * ks.length + (j - ks.length)) = o + (i * ks.length + j) by rw [Nat.add_mul]; omega]

theorem slice_trod {t e : TypeId} {d n : Nat} {ks : List FK} {v : Value} {x : DataW H × List MemPlace} (hu : P.underlying t = some (.slice e)) (hk : flatK P d e = some ks) (hc : P.cellsOf e = ks.length)
    (ho : Value.okWide P w .any base t v) (h : DataW.trod enc P w 0 (fun _ => true) held n t v.cells.toList = some x) :
    v = .slice none 0 0 ∨ ∃ b o len cap, v = .slice (some ⟨b, o, none⟩) len cap ∧ len ≤ cap ∧ cap ≤ maxLen ∧ (∃ C E fz, w.heap[b]? = some (.cells C E fz)) ∧
      ∃ CS xs, F3 CS xs (repFK ks cap) ∧ (∀ j, j < cap * ks.length → w.cell? ⟨b, o + j, none⟩ = CS[j]?) ∧ ∀ j, j < cap * ks.length → MemPlace.cell b (o + j) ∈ x.2 := by
  unfold Value.okWide at ho
  rw [hu] at ho
  dsimp only at ho
  unfold Cell.okWide at ho
  rw [hu] at ho
  cases v with
  | slice p len cap =>
    cases p with
    | none =>
      left
      simp only [Cell.ok, hu] at ho
      cases n with
      | zero => simp [DataW.trod] at h
      | succ n =>
        unfold DataW.trod at h
        rw [hu] at h
        simp only [Value.cells] at h
        split at h <;> simp_all
    | some a =>
      right
      simp only [Cell.ok, hu] at ho
      obtain ⟨h1, h2, h3⟩ := ho
      obtain ⟨_, hspot, row, cells, hsh, _⟩ := h3
      obtain ⟨b, o, sp⟩ := a
      simp only at hspot
      subst hspot
      cases n with
      | zero => simp [DataW.trod] at h
      | succ n =>
        unfold DataW.trod at h
        rw [hu] at h
        simp only [Value.cells] at h
        split at h
        · rename_i hcap
          simp only [Option.bind_eq_some_iff, Option.map_eq_some_iff, if_true] at h
          obtain ⟨es, hes, rest, hrest, rfl⟩ := h
          refine ⟨b, o, len, cap, rfl, hcap.2.1, hcap.2.2, ?_, ?_⟩
          · unfold World.shape? at hsh
            split at hsh
            · rename_i C E fz he; exact ⟨C, E, fz, he⟩
            · simp at hsh
          · rw [List.range_eq_range'] at hes hrest
            obtain ⟨l1, CS1, xs1, f1, c1⟩ := elems_at hk hc len 0 es hes
            have hrest' : ((List.range' len (cap - len)).mapM fun i => (w.cells? 0 ((⟨b, o, none⟩ : Addr).add (i * P.cellsOf e)) (P.cellsOf e)).bind (DataW.trod enc P w 0 (fun _ => true) held n e)) = some rest := by
              rw [← hrest, List.range'_eq_map_range, List.mapM_map, List.range_eq_range']
              rfl
            obtain ⟨l2, CS2, xs2, f2, c2⟩ := elems_at hk hc (cap - len) len rest hrest'
            have hrep : ∀ (m k : Nat), repFK ks (m + k) = repFK ks m ++ repFK ks k := by
              intro m k
              induction m with
              | zero => simp [repFK]
              | succ m ih => rw [show m + 1 + k = (m + k) + 1 by omega]; simp [repFK, ih]
            have hlen : ∀ m : Nat, (repFK ks m).length = m * ks.length := by
              intro m
              induction m with
              | zero => simp [repFK]
              | succ m ih => simp [repFK, ih, Nat.add_mul]; omega
            refine ⟨CS1 ++ CS2, xs1 ++ xs2, ?_, fun j hj => ?_, fun j hj => ?_⟩
            · have := f1.append f2
              rw [← hrep, show len + (cap - len) = cap by omega] at this
              exact this
            · have hl1 : CS1.length = len * ks.length := by rw [f1.len.1, hlen]
              by_cases hjl : j < len * ks.length
              · rw [List.getElem?_append_left (by omega), ← c1 j hjl, Nat.zero_mul, Nat.zero_add]
              · have hmul : len * ks.length + (cap - len) * ks.length = cap * ks.length := by rw [← Nat.add_mul, show len + (cap - len) = cap by omega]
                rw [List.getElem?_append_right (by omega), hl1, ← c2 (j - len * ks.length) (by omega), show o + (len * ks.length + (j - len * ks.length)) = o + j by omega]
            · rw [l1, l2, show len + (cap - len) = cap by omega, hc]
              refine List.mem_append_left _ ?_
              unfold MemPlace.row
              exact List.mem_map.2 ⟨j, List.mem_range.2 hj, rfl⟩
        · simp at h
  | _ => simp [Cell.ok, hu] at ho
end

/-! ### Into memory -/
/-- What a slice of flat things is: nil, or so many of the cells of a block that is read alone. -/
inductive SlArg (M : Mem) (ks : List FK) : CV → Nat → List CV → Prop
  | nil : SlArg M ks .nils 0 []
  | mk (id len cap : Nat) (opn : Bool) (xs : List CV) : M.b.get id = some (.cells xs.length (T.puts xs .lf 0) false) → len ≤ cap → cap ≤ maxLen → F2 FK.ok (repFK ks cap) xs → SlArg M ks (.slice id 0 len cap ks.length opn) len xs
/-- More memory. -/
def More (M M' : Mem) : Prop := ∀ id k, M.b.get id = some k → M'.b.get id = some k
theorem More.refl (M : Mem) : More M M := fun _ _ h => h
theorem More.trans {a b c : Mem} (h : More a b) (k : More b c) : More a c := fun i x e => k i x (h i x e)
theorem SlArg.more {M M' : Mem} (h : More M M') {ks : List FK} {x : CV} {n : Nat} {xs : List CV} (k : SlArg M ks x n xs) : SlArg M' ks x n xs := by
  cases k with
  | nil => exact .nil
  | mk id len cap opn xs a b c d => exact .mk _ _ _ _ _ (h _ _ a) b c d

section
variable {B : Nat} {w0 w : World} {σ : Sg} {M : Mem}
theorem RM.newR (h : RM B w0 σ M w) (hB : w.heap.size = B) {b o : Nat} {C : Array Value} {E : TypeId} {fz : Nat × Nat} {CS : List Value} {xs : List CV} {ks : List FK} (hF : F3 CS xs ks) (hh : w.heap[b]? = some (.cells C E fz))
    (ho : o + CS.length ≤ C.size) (hc : ∀ j, j < CS.length → w.cell? ⟨b, o + j, none⟩ = CS[j]?) (hf : ∀ j, j < CS.length → w.frozen? ⟨b, o + j, none⟩ = false) :
    RM B w0 (σ.upd M.next (b, o, CS.length)) (M.put (.cells xs.length (T.puts xs .lf 0) false)) w ∧ Le σ (σ.upd M.next (b, o, CS.length)) ∧ More M (M.put (.cells xs.length (T.puts xs .lf 0) false)) := by
  have hno := none_of_next h (Nat.le_refl _)
  have hle := Sg.upd_le (x := (b, o, CS.length)) hno
  have hb : b < w.heap.size := by
    rcases Nat.lt_or_ge b w.heap.size with q | q
    · exact q
    · rw [Array.getElem?_eq_none q] at hh; simp at hh
  have hlen : xs.length = CS.length := by rw [hF.len.1, hF.len.2]
  have hmore : More M (M.put (.cells xs.length (T.puts xs .lf 0) false)) := by
    intro id k e
    rw [get_put, if_neg (by have := blk_lt h e; omega)]; exact e
  have hnew : RB (σ.upd M.next (b, o, CS.length)) B w b o CS.length (.cells xs.length (T.puts xs .lf 0) false) := by
    refine ⟨C, E, fz, hh, by omega, ho, fun i hi => ?_, fun i x hi hx => ?_, fun q => by simp at q⟩
    · have := hf i hi
      unfold World.frozen? at this
      rw [hh] at this
      simp at this
      omega
    · rw [T.get_puts] at hx
      simp only [Nat.zero_le, Nat.zero_add, true_and, Nat.sub_zero] at hx
      rw [if_pos hi] at hx
      obtain ⟨y, hy, q⟩ := forall2_get hF.rel i x hx
      refine ⟨y, ?_, q⟩
      have := hc i (by omega)
      unfold World.cell? at this
      rw [hh] at this
      simp at this
      rw [this]; exact hy
  refine ⟨⟨h.below, h.base, fun id b' s r e => ?_, fun id e => ?_, fun id b' s r k e f => ?_, fun i j b' si ri sj rj ki kj hij e1 e2 f1 f2 l1 l2 m => ?_⟩, hle, hmore⟩
  · unfold Sg.upd at e
    split at e
    · simp at e; obtain ⟨rfl, rfl, rfl⟩ := e; subst_vars; exact ⟨Nat.lt_succ_self _, hb⟩
    · exact ⟨Nat.lt_succ_of_lt (h.dom id b' s r e).1, (h.dom id b' s r e).2⟩
  · have e : M.next + 1 ≤ id := e
    rw [get_put, if_neg (by omega)]; exact h.fresh id (by omega)
  · unfold Sg.upd at e
    rw [get_put] at f
    split at e
    · rename_i hid
      simp at e; obtain ⟨rfl, rfl, rfl⟩ := e
      rw [if_pos hid] at f
      simp at f; subst f
      exact hnew
    · rename_i hid
      rw [if_neg hid] at f
      exact (h.blk id b' s r k e f).mono hle
  · have nomut : ∀ (i b' s r : Nat) (k : Blk), σ i = some (b', s, r) → M.b.get i = some k → k.mut → False := by
      intro i b' s r k e f hm
      have h1 := h.blk i b' s r k e f
      have h2 := (h.dom i b' s r e).2
      cases k with
      | cells n c wr =>
        obtain ⟨_, _, _, _, _, _, _, _, q⟩ := h1
        have := q hm; omega
      | loop => obtain ⟨_, _, q, _⟩ := h1; omega
      | dfr => obtain ⟨_, _, q, _⟩ := h1; omega
      | dead => exact hm
    unfold Sg.upd at e1 e2
    rw [get_put] at f1 f2
    exfalso
    rcases m with m | m
    · split at f1
      · simp at f1; subst f1; exact absurd m (by simp [Blk.mut])
      · rename_i hid; rw [if_neg hid] at e1; exact nomut _ _ _ _ _ e1 f1 m
    · split at f2
      · simp at f2; subst f2; exact absurd m (by simp [Blk.mut])
      · rename_i hid; rw [if_neg hid] at e2; exact nomut _ _ _ _ _ e2 f2 m

/-- What an argument leaves of the relation. -/
def Laid (B : Nat) (w0 : World) (w : World) (σ : Sg) (M : Mem) (σ' : Sg) (M' : Mem) : Prop := RM B w0 σ' M' w ∧ Le σ σ' ∧ More M M'
theorem Laid.refl (h : RM B w0 σ M w) : Laid B w0 w σ M σ M := ⟨h, .refl _, .refl _⟩
section
variable {H : Type} {enc : TypeId × Value → H} {P : Program} {held : Bool}
theorem slice_arg (h : RM B w0 σ M w) (hB : w.heap.size = B) {t e : TypeId} {d : Nat} {ks : List FK} {v : Value} {y : DataW H} {ps : List MemPlace} (hu : P.underlying t = some (.slice e)) (hk : flatK P d e = some ks) (hc : P.cellsOf e = ks.length) (hpos : 0 < ks.length)
    {base : Nat} (ho : Value.okWide P w .any base t v) (ht : DataW.Trod enc P w 0 (fun _ => true) held t v y ps) (hz : w.noneFrozen ps) :
    ∃ σ' M' x len xs, Laid B w0 w σ M σ' M' ∧ R1 σ' (.c x) v ∧ SlArg M' ks x len xs := by
  obtain ⟨n, hn⟩ := ht
  rcases slice_trod hu hk hc ho hn with rfl | ⟨b, o, len, cap, rfl, h1, h2, ⟨C, E, fz, hh⟩, CS, xs, hF, hcell, hmem⟩
  · exact ⟨σ, M, .nils, 0, [], .refl h, .c _ _ .nils, .nil⟩
  · have hrl : ∀ m : Nat, (repFK ks m).length = m * ks.length := by
      intro m
      induction m with
      | zero => simp [repFK]
      | succ m ih => simp [repFK, ih, Nat.add_mul]; omega
    have hl : CS.length = cap * ks.length := by rw [hF.len.1, hrl]
    have hlx : xs.length = cap * ks.length := by rw [hF.len.2, hrl]
    by_cases hcap : cap = 0
    · subst hcap
      have hx : xs = [] := List.length_eq_zero_iff.1 (by omega)
      have hCS : CS = [] := List.length_eq_zero_iff.1 (by omega)
      subst hx hCS
      have hlen : len = 0 := by omega
      subst hlen
      obtain ⟨g1, g2, g3⟩ := h.newR hB (b := b) (o := 0) .nil hh (by simp) (fun j hj => by simp at hj) (fun j hj => by simp at hj)
      refine ⟨_, _, .slice M.next 0 0 0 ks.length true, 0, [], ⟨g1, g2, g3⟩, .c _ _ (.sliceZ _ _ _ _ _ (Sg.upd_same _ _ _)), .mk _ 0 0 true [] ?_ (Nat.le_refl _) h2 hF.kinds⟩
      rw [get_put, if_pos rfl]
    · have hpc : 0 < cap * ks.length := Nat.mul_pos (by omega) hpos
      have hC : ∀ j, j < CS.length → C[o + j]? = CS[j]? := by
        intro j hj
        have := hcell j (by omega)
        unfold World.cell? at this
        rw [hh] at this
        simpa using this
      have hsz : o + CS.length ≤ C.size := by
        have := hC (CS.length - 1) (by omega)
        rw [List.getElem?_eq_getElem (by omega)] at this
        have := (Array.getElem?_eq_some_iff.1 this).1
        omega
      obtain ⟨g1, g2, g3⟩ := h.newR hB (b := b) (o := o) hF hh hsz (fun j hj => hcell j (by omega)) (fun j hj => hz _ _ (hmem j (by omega)))
      refine ⟨_, _, .slice M.next 0 len cap ks.length false, len, xs, ⟨g1, g2, g3⟩, .c _ _ (.slice _ _ _ _ _ _ ⟨b, o, CS.length, Sg.upd_same _ _ _, rfl⟩), .mk _ len cap false xs ?_ h1 h2 hF.kinds⟩
      rw [get_put, if_pos rfl]
/-- A flat argument of one cell. -/
theorem cell_arg {t : TypeId} {d : Nat} {k : FK} {v : Value} {y : DataW H} {ps : List MemPlace} (hk : flatK P d t = some [k]) (hn : ∀ cs, v ≠ .agg cs) (ht : DataW.Trod enc P w 0 (fun _ => true) held t v y ps) :
    ∃ x, (∀ σ, R1 σ (.c x) v) ∧ k.ok x := by
  obtain ⟨n, hn'⟩ := ht
  obtain ⟨xs, hF, _⟩ := flat_trod d n t [k] _ _ hk hn'
  have hv : v.cells.toList = [v] := by
    cases v with
    | agg cs => exact absurd rfl (hn cs)
    | _ => rfl
  rw [hv] at hF
  cases hF with
  | cons a b => cases b; exact ⟨_, fun σ => .c _ _ (a.1 σ), a.2⟩
/-- A flat argument of several cells. -/
theorem agg_arg {t : TypeId} {d : Nat} {ks : List FK} {cs : Array Value} {y : DataW H} {ps : List MemPlace} (hk : flatK P d t = some ks) (ht : DataW.Trod enc P w 0 (fun _ => true) held t (.agg cs) y ps) :
    ∃ xs, (∀ σ, R1 σ (.agg xs) (.agg cs)) ∧ F2 FK.ok ks xs := by
  obtain ⟨n, hn'⟩ := ht
  obtain ⟨xs, hF, _⟩ := flat_trod d n t ks _ _ hk hn'
  exact ⟨xs, fun σ => .agg _ _ hF.rel, hF.kinds⟩
end
end
end Go.Ab
