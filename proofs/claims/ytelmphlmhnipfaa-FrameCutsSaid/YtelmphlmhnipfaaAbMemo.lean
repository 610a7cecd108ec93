/- Memory for symbolic runs: what is read behind what was written, as equations. No condition. -/
import Derived.Test.YtelmphlmhnipfaaAbSym
import Derived.Test.YtelmphlmhnipfaaAbLaw
namespace Go.Ab

/-- How many cells a block has, and whether it may be written. -/
noncomputable def Mem.size? (M : Mem) (id : Nat) : Option (Nat × Bool) := match M.b.get id with | some (.cells n _ wr) => some (n, wr) | _ => none
/-- Written. -/
noncomputable def Mem.wr (M : Mem) (id off : Nat) (xs : List CV) : Mem := match M.b.get id with | some (.cells n c _) => ⟨M.next, M.b.set id (.cells n (T.puts xs c off) true)⟩ | _ => M
/-- A block with these cells. -/
def Has (M : Mem) (id : Nat) (wr : Bool) (xs : List CV) : Prop := ∃ c, M.b.get id = some (.cells xs.length c wr) ∧ ∀ i, i < xs.length → c.get i = xs[i]?

section
variable {M : Mem}
theorem Has.size {id : Nat} {wr : Bool} {xs : List CV} (h : Has M id wr xs) : M.size? id = some (xs.length, wr) := by
  obtain ⟨c, h, _⟩ := h
  unfold Mem.size?; rw [h]
theorem Has.load {id : Nat} {wr : Bool} {xs : List CV} (h : Has M id wr xs) (o : Nat) : M.load id o = xs[o]? := by
  obtain ⟨c, h, hc⟩ := h
  unfold Mem.load
  rw [h]
  show br (Nat.blt o xs.length) (c.get o) none = _
  rw [br_eq]
  split
  · rename_i q; exact hc o (by rw [Nat.blt_eq] at q; exact q)
  · rename_i q; rw [Nat.blt_eq] at q; exact (List.getElem?_eq_none (by omega)).symm
theorem gets_of {c : T CV} {xs : List CV} (h : ∀ i, i < xs.length → c.get i = xs[i]?) : ∀ (k o : Nat), o + k ≤ xs.length → c.gets k o = some ((xs.drop o).take k) := by
  intro k
  induction k with
  | zero => intro o _; simp; rfl
  | succ k ih =>
    intro o ho
    show (c.get o).bind (fun x => (c.gets k (o + 1)).bind fun ys => some (x :: ys)) = _
    rw [h o (by omega), List.getElem?_eq_getElem (by omega), ih (o + 1) (by omega)]
    simp only [Option.bind_some]
    rw [List.drop_eq_getElem_cons (by omega : o < xs.length), List.take_succ_cons]
theorem Has.loads {id : Nat} {wr : Bool} {xs : List CV} (h : Has M id wr xs) (o k : Nat) (hk : o + k ≤ xs.length) : M.loads id o k = some ((xs.drop o).take k) := by
  obtain ⟨c, h, hc⟩ := h
  unfold Mem.loads
  rw [h]
  show br (Nat.ble (o + k) xs.length) (c.gets k o) none = _
  have : Nat.ble (o + k) xs.length = true := by rw [Nat.ble_eq]; exact hk
  rw [this, br_true]
  exact gets_of hc k o hk
theorem putAt_get : ∀ (l : List CV) (n : Nat) (xs : List CV) (i : Nat), n + xs.length ≤ l.length → (putAt l n xs)[i]? = if n ≤ i ∧ i < n + xs.length then xs[i - n]? else l[i]?
  | l, n, [], i, _ => by
    have : putAt l n [] = l := by cases l <;> cases n <;> rfl
    rw [this, if_neg (by simp)]
  | [], n, _ :: _, i, h => by simp at h
  | y :: r, 0, x :: xs, i, h => by
    simp at h
    cases i with
    | zero => simp [putAt]
    | succ i =>
      simp only [putAt, List.getElem?_cons_succ]
      rw [putAt_get r 0 xs i (by omega)]
      by_cases q : i < xs.length
      · rw [if_pos (by omega), if_pos (by simp; omega)]; simp
      · rw [if_neg (by omega), if_neg (by simp; omega)]
  | y :: r, n + 1, x :: xs, i, h => by
    simp at h
    cases i with
    | zero => rw [if_neg (by omega)]; simp [putAt]
    | succ i =>
      simp only [putAt, List.getElem?_cons_succ]
      rw [putAt_get r n (x :: xs) i (by simp; omega)]
      by_cases q : n ≤ i ∧ i < n + (x :: xs).length
      · rw [if_pos q, if_pos (by omega)]; congr 1; omega
      · rw [if_neg q, if_neg (by omega)]
theorem has_wr {id : Nat} {wr : Bool} {xs : List CV} (h : Has M id wr xs) (o : Nat) (ys : List CV) (ho : o + ys.length ≤ xs.length) : Has (M.wr id o ys) id true (putAt xs o ys) := by
  obtain ⟨c, h, hc⟩ := h
  refine ⟨T.puts ys c o, ?_, fun i hi => ?_⟩
  · unfold Mem.wr; rw [h]
    show (M.b.set id _).get id = _
    rw [T.get_set, if_pos rfl, putAt_length]
  · rw [putAt_length] at hi
    rw [T.get_puts, putAt_get _ _ _ _ ho]
    split
    · rfl
    · exact hc i hi
theorem get_wr (M : Mem) (id o : Nat) (ys : List CV) {i : Nat} (hi : i ≠ id) : (M.wr id o ys).b.get i = M.b.get i := by
  unfold Mem.wr
  split
  · show (M.b.set id _).get i = _
    rw [T.get_set, if_neg hi]
  · rfl
theorem next_wr (M : Mem) (id o : Nat) (ys : List CV) : (M.wr id o ys).next = M.next := by unfold Mem.wr; split <;> rfl
theorem Has.other {id : Nat} {wr : Bool} {xs : List CV} (h : Has M id wr xs) {M' : Mem} (e : M'.b.get id = M.b.get id) : Has M' id wr xs := by
  obtain ⟨c, h, hc⟩ := h
  exact ⟨c, e.trans h, hc⟩
theorem stores_wr {id o n : Nat} {ys : List CV} (h : M.size? id = some (n, true)) (ho : o + ys.length ≤ n) : M.stores id o ys = some (M.wr id o ys) := by
  unfold Mem.size? at h
  unfold Mem.stores Mem.wr
  split at h
  · rename_i q
    simp at h; obtain ⟨rfl, rfl⟩ := h
    rw [q]
    show br (true && Nat.ble (o + ys.length) _) _ none = _
    rw [Bool.true_and, (by rw [Nat.ble_eq]; exact ho : Nat.ble (o + ys.length) _ = true)]; rfl
  · simp at h
theorem Has.stores {id : Nat} {xs : List CV} (h : Has M id true xs) {o : Nat} {ys : List CV} (ho : o + ys.length ≤ xs.length) : M.stores id o ys = some (M.wr id o ys) := stores_wr h.size ho
theorem next_new (M : Mem) (xs : List CV) : (M.new xs).next = M.next + 1 := rfl
theorem get_new (M : Mem) (xs : List CV) (i : Nat) : (M.new xs).b.get i = if i = M.next then some (.cells xs.length (T.puts xs .lf 0) true) else M.b.get i := get_put M _ i
theorem has_new (M : Mem) (xs : List CV) : Has (M.new xs) M.next true xs := by
  refine ⟨T.puts xs .lf 0, by rw [get_new, if_pos rfl], fun i hi => ?_⟩
  rw [T.get_puts, if_pos ⟨Nat.zero_le _, by omega⟩, Nat.sub_zero]
theorem Has.lt (hw : M.Wf) {id : Nat} {wr : Bool} {xs : List CV} (h : Has M id wr xs) : id < M.next := by
  obtain ⟨c, h, _⟩ := h
  rcases Nat.lt_or_ge id M.next with q | q
  · exact q
  · rw [hw id q] at h; simp at h
theorem Has.new (hw : M.Wf) {id : Nat} {wr : Bool} {xs : List CV} (h : Has M id wr xs) (ys : List CV) : Has (M.new ys) id wr xs :=
  h.other (by rw [get_new, if_neg (by have := h.lt hw; omega)])
theorem Has.wr {id : Nat} {wr : Bool} {xs : List CV} (h : Has M id wr xs) {i : Nat} (o : Nat) (ys : List CV) (hi : id ≠ i) : Has (M.wr i o ys) id wr xs := h.other (get_wr _ _ _ _ hi)
theorem wf_new (hw : M.Wf) (xs : List CV) : (M.new xs).Wf := by
  intro id hid
  have hid : M.next + 1 ≤ id := hid
  rw [get_new, if_neg (by omega)]; exact hw id (by omega)
theorem wf_put (hw : M.Wf) (b : Blk) : (M.put b).Wf := by
  intro id hid
  have hid : M.next + 1 ≤ id := hid
  rw [get_put, if_neg (by omega)]; exact hw id (by omega)
theorem wf_wr (hw : M.Wf) (id o : Nat) (ys : List CV) : (M.wr id o ys).Wf := by
  intro i hi
  rw [next_wr] at hi
  by_cases q : i = id
  · subst q
    have := hw i hi
    unfold Mem.wr
    rw [this]; exact this
  · rw [get_wr _ _ _ _ q]; exact hw i hi
theorem wf_upd (hw : M.Wf) {id : Nat} (hid : id < M.next) (b : Blk) : (M.upd id b).Wf := by
  intro i hi
  have hi : M.next ≤ i := hi
  rw [get_upd, if_neg (by omega)]; exact hw i hi
/-- A list that was laid as an argument. -/
theorem has_arg {id : Nat} {xs : List CV} {wr : Bool} (h : M.b.get id = some (.cells xs.length (T.puts xs .lf 0) wr)) : Has M id wr xs := by
  refine ⟨_, h, fun i hi => ?_⟩
  rw [T.get_puts, if_pos ⟨Nat.zero_le _, by omega⟩, Nat.sub_zero]

/-! As equations for rewriting. -/
theorem size_wr (M : Mem) (id o : Nat) (ys : List CV) {n : Nat} (h : M.size? id = some (n, true)) (i : Nat) : (M.wr id o ys).size? i = M.size? i := by
  by_cases q : i = id
  · subst q
    rw [h]
    unfold Mem.size? at h
    unfold Mem.size? Mem.wr
    split at h
    · rename_i e
      simp at h; obtain ⟨rfl, rfl⟩ := h
      dsimp only
      rw [T.get_set, if_pos rfl]
    · simp at h
  · unfold Mem.size?; rw [get_wr _ _ _ _ q]
theorem load_wr (M : Mem) (id o : Nat) (ys : List CV) {n : Nat} (h : M.size? id = some (n, true)) (ho : o + ys.length ≤ n) (i j : Nat) :
    (M.wr id o ys).load i j = if i = id ∧ o ≤ j ∧ j < o + ys.length then ys[j - o]? else M.load i j := by
  unfold Mem.size? at h
  split at h
  · rename_i n' c wr e
    simp at h; obtain ⟨rfl, rfl⟩ := h
    unfold Mem.load Mem.wr
    rw [e]
    simp only [T.get_set]
    by_cases q : i = id
    · subst q
      rw [if_pos rfl, e]
      show br (Nat.blt j n') ((T.puts ys c o).get j) none = if _ then _ else br (Nat.blt j n') (c.get j) none
      rw [T.get_puts, br_eq, br_eq]
      split
      · rename_i hj
        by_cases hb : o ≤ j ∧ j < o + ys.length
        · rw [if_pos hb, if_pos ⟨rfl, hb⟩]
        · rw [if_neg hb, if_neg (fun h => hb h.2)]
      · rename_i hj
        rw [Nat.blt_eq] at hj
        rw [if_neg (by omega)]
    · rw [if_neg q, if_neg (fun h => q h.1)]
  · simp at h
theorem load_new (M : Mem) (xs : List CV) (i j : Nat) : (M.new xs).load i j = if i = M.next then xs[j]? else M.load i j := by
  by_cases q : i = M.next
  · subst q; rw [if_pos rfl]; exact (has_new M xs).load j
  · rw [if_neg q]
    unfold Mem.load
    rw [get_new, if_neg q]
theorem size_new (M : Mem) (xs : List CV) (i : Nat) : (M.new xs).size? i = if i = M.next then some (xs.length, true) else M.size? i := by
  by_cases q : i = M.next
  · subst q; rw [if_pos rfl]; exact (has_new M xs).size
  · rw [if_neg q]
    unfold Mem.size?
    rw [get_new, if_neg q]
end
end Go.Ab
