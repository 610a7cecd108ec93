/- A region that draws its order comes to what the evaluator's one order comes to. Condition: Good P. -/
import Derived.Test.YtelmphlmhnipfaaAbLays
namespace Go.Ab
open Go.RowKit

/-! ### Sameness -/
theorem nsSame_eq : ∀ {a b : List Nat}, nsSame a b = true → a = b
  | [], [], _ => rfl
  | [], _ :: _, h => by simp [nsSame] at h
  | _ :: _, [], h => by simp [nsSame] at h
  | a :: r, b :: s, h => by
    simp only [nsSame, Bool.and_eq_true, Nat.beq_eq] at h
    rw [h.1, nsSame_eq h.2]
theorem capsSame_eq : ∀ {a b : List (Nat × Nat)}, capsSame a b = true → a = b
  | [], [], _ => rfl
  | [], _ :: _, h => by simp [capsSame] at h
  | _ :: _, [], h => by simp [capsSame] at h
  | (a, b) :: r, (c, d) :: s, h => by
    simp only [capsSame, Bool.and_eq_true, Nat.beq_eq] at h
    rw [h.1.1, h.1.2, capsSame_eq h.2]
theorem CV.same_eq {a b : CV} (h : a.same b = true) : a = b := by
  cases a <;> cases b <;> first
    | rfl
    | (simp [CV.same] at h; done)
    | (simp only [CV.same, Bool.and_eq_true, Nat.beq_eq, bSame_eq, beq_iff_eq, iSame_eq, decide_eq_true_eq] at h; first
        | (rw [h]; done)
        | (rw [h.1, h.2]; done)
        | (obtain ⟨⟨⟨⟨⟨h1, h2⟩, h3⟩, h4⟩, h5⟩, h6⟩ := h; rw [h1, h2, h3, h4, h5, h6]; done)
        | (rw [kSame_eq h.1, h.2]; done)
        | (rw [nsSame_eq h]; done)
        | (rw [h.1, capsSame_eq h.2]; done))
theorem csSame_eq : ∀ {a b : List CV}, csSame a b = true → a = b
  | [], [], _ => rfl
  | [], _ :: _, h => by simp [csSame] at h
  | _ :: _, [], h => by simp [csSame] at h
  | a :: r, b :: s, h => by
    simp only [csSame, Bool.and_eq_true] at h
    rw [CV.same_eq h.1, csSame_eq h.2]
theorem V.same_eq {a b : V} (h : a.same b = true) : a = b := by
  unfold V.same at h
  split at h
  · rw [CV.same_eq h]
  · rw [csSame_eq h]
  · simp at h

/-! ### What surely comes ahead -/
/-- A set that holds, with each operation, what its edges bind it behind. -/
def Closed (ops : Array Oper) (S : Nat → Prop) : Prop := ∀ i o, S i → ops[i]? = some o → ∀ e ∈ o.after, Region.binds .any e = true → S e.on
def Behind (ops : Array Oper) (i j : Nat) : Prop := ∀ S : Nat → Prop, Closed ops S → (∀ o, ops[i]? = some o → ∀ e ∈ o.after, Region.binds .any e = true → S e.on) → S j

theorem foldl_bits (acc : Array Nat) (j : Nat) : ∀ (l : List Edge) (s : Nat), (l.foldl (fun s e => if Region.binds .any e then s ||| 2 ^ e.on ||| acc.getD e.on 0 else s) s).testBit j = true →
    s.testBit j = true ∨ ∃ e ∈ l, Region.binds .any e = true ∧ (j = e.on ∨ (acc.getD e.on 0).testBit j = true)
  | [], s, h => .inl h
  | e :: l, s, h => by
    rcases foldl_bits acc j l _ h with h | ⟨e', he, hb, hj⟩
    · dsimp only at h
      by_cases hb : Region.binds .any e = true
      · rw [if_pos hb] at h
        simp only [Nat.testBit_or, Bool.or_eq_true, Nat.testBit_two_pow, decide_eq_true_eq] at h
        rcases h with (h | h) | h
        · exact .inl h
        · exact .inr ⟨e, by simp, hb, .inl h.symm⟩
        · exact .inr ⟨e, by simp, hb, .inr h⟩
      · rw [if_neg hb] at h; exact .inl h
    · exact .inr ⟨e', by simp [he], hb, hj⟩

theorem before_bits (ops : Array Oper) : ∀ i j, ((Region.before ops).getD i 0).testBit j = true → Behind ops i j := by
  unfold Region.before
  rw [← Array.foldl_toList]
  have key : ∀ (l : List Oper) (acc : Array Nat), ops.toList.drop acc.size = l → (∀ i j, (acc.getD i 0).testBit j = true → Behind ops i j) →
      ∀ i j, ((l.foldl (fun acc o => acc.push (o.after.foldl (fun s e => if Region.binds .any e then s ||| 2 ^ e.on ||| acc.getD e.on 0 else s) 0)) acc).getD i 0).testBit j = true → Behind ops i j := by
    intro l
    induction l with
    | nil => intro acc _ h; exact h
    | cons o l ih =>
      intro acc hl h
      have ho : ops[acc.size]? = some o := by
        have := congrArg (fun l => l[0]?) hl
        simpa using this
      refine ih _ ?_ ?_
      · have := congrArg (List.drop 1) hl
        simpa [Nat.add_comm] using this
      · intro i j hj
        by_cases hi : i < acc.size
        · refine h i j ?_
          rw [Array.getD_eq_getD_getElem?] at hj ⊢
          rwa [Array.getElem?_push_lt hi, ← Array.getElem?_eq_getElem hi] at hj
        · by_cases hi2 : i = acc.size
          · subst hi2
            simp only [Array.getD_eq_getD_getElem?, Array.getElem?_push_size, Option.getD_some] at hj
            have hj2 : (o.after.toList.foldl (fun s e => if Region.binds .any e then s ||| 2 ^ e.on ||| acc.getD e.on 0 else s) 0).testBit j = true := by
              rw [Array.foldl_toList]
              simpa [Array.getD_eq_getD_getElem?] using hj
            intro S hS hd
            rcases foldl_bits acc j _ _ hj2 with hz | ⟨e, he, hb, hj⟩
            · simp at hz
            · have hon := hd o ho e (by simpa using he) hb
              rcases hj with rfl | hj
              · exact hon
              · exact h e.on j hj S hS (fun o' ho' e' he' hb' => hS e.on o' hon ho' e' he' hb')
          · rw [Array.getD_eq_getD_getElem?, Array.getElem?_eq_none (by simp; omega)] at hj
            simp at hj
  exact key _ #[] (by simp) (fun i j h => by simp at h)

theorem anc_behind {ops : Array Oper} {i j : Nat} (h : anc (masks ops) i j = true) : Behind ops i j := by
  refine before_bits ops i j ?_
  unfold anc masks at h
  rw [Array.getD_eq_getD_getElem?]
  rw [List.getD_eq_getElem?_getD] at h
  simpa using h
end Go.Ab
