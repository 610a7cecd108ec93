/- The map's laws. No condition. -/
import Derived.Test.YtelmphlmhnipfaaAbDef
namespace Go.Ab

@[simp] theorem br_true {β : Type} (x y : β) : br true x y = x := rfl
@[simp] theorem br_false {β : Type} (x y : β) : br false x y = y := rfl
@[simp] theorem oRec_none {α β : Type} (d : β) (k : α → β) : oRec d k none = d := rfl
@[simp] theorem oRec_some {α β : Type} (d : β) (k : α → β) (a : α) : oRec d k (some a) = k a := rfl
theorem br_eq {β : Type} (b : Bool) (x y : β) : br b x y = if b then x else y := by cases b <;> rfl

deriving instance DecidableEq for D8
namespace T
variable {α : Type}
theorem sel_eq {γ β : Type} (d : D8) (k : γ → β) (o : O8 γ) : O8.sel d k o = k (O8.sel d (fun x => x) o) := by cases d <;> cases o <;> rfl
theorem put_eq {γ β : Type} (d : D8) (x : γ) (k : O8 γ → β) (o : O8 γ) : O8.put d x k o = k (O8.put d x (fun y => y) o) := by cases d <;> cases o <;> rfl
theorem sel_put {γ : Type} (b c : D8) (x : γ) (o : O8 γ) : O8.sel c (fun x => x) (O8.put b x (fun y => y) o) = if c = b then x else O8.sel c (fun x => x) o := by
  cases o; cases b <;> cases c <;> rfl
@[simp] theorem sp_lf {β : Type} (a : β) (k : Option α → O8 (T α) → β) : T.sp a k (.lf : T α) = a := rfl
@[simp] theorem sp_nd {β : Type} (a : β) (k : Option α → O8 (T α) → β) (v : Option α) (cs : O8 (T α)) : T.sp a k (.nd v cs) = k v cs := rfl
theorem sp_app {β γ : Type} (f : β → γ) (a : β) (k : Option α → O8 (T α) → β) (t : T α) : T.sp (f a) (fun v cs => f (k v cs)) t = f (T.sp a k t) := by cases t <;> rfl
theorem getK_nil {β : Type} (d : β) (k : α → β) (t : T α) : T.getK d k [] t = T.sp d (fun v _ => oRec d k v) t := rfl
theorem getK_cons {β : Type} (d : β) (k : α → β) (b : D8) (p : List D8) (t : T α) : T.getK d k (b :: p) t = T.sp d (fun _ cs => T.getK d k p (O8.sel b (fun x => x) cs)) t := by
  show T.sp d (fun _ cs => O8.sel b (T.getK d k p) cs) t = _
  congr 1; funext v cs; exact sel_eq _ _ _
theorem getK_eq {β : Type} (d : β) (k : α → β) (p : List D8) : ∀ t : T α, T.getK d k p t = oRec d k (T.getK none some p t) := by
  induction p with
  | nil => intro t; cases t with
    | lf => rfl
    | nd v cs => cases v <;> rfl
  | cons b p ih => intro t; cases t with
    | lf => rfl
    | nd v cs => simp only [getK_cons, sp_nd]; exact ih _
theorem setK_nil {β : Type} (v : α) (t : T α) (k : T α → β) : T.setK v [] t k = T.sp (k (.nd (some v) T.lf8)) (fun _ cs => k (.nd (some v) cs)) t := rfl
theorem setK_cons {β : Type} (v : α) (b : D8) (p : List D8) (t : T α) (k : T α → β) :
    T.setK v (b :: p) t k = T.sp (T.setK v p .lf fun x => O8.put b x (fun cs => k (.nd none cs)) T.lf8) (fun m cs => O8.sel b (fun c => T.setK v p c fun x => O8.put b x (fun cs => k (.nd m cs)) cs) cs) t := rfl
theorem setK_eq (v : α) (p : List D8) : ∀ {β : Type} (t : T α) (k : T α → β), T.setK v p t k = k (T.setK v p t fun x => x) := by
  induction p with
  | nil => intro β t k; cases t <;> rfl
  | cons b p ih =>
    intro β t k
    cases t with
    | lf =>
      simp only [setK_cons, sp_lf]
      have e : ∀ {γ : Type} (k : T α → γ), (T.setK v p .lf fun x => O8.put b x (fun cs => k (.nd none cs)) T.lf8) = k (.nd none (O8.put b (T.setK v p .lf fun x => x) (fun y => y) T.lf8)) := fun k => by
        rw [ih, put_eq]
      exact (e k).trans (congrArg k (e fun x => x).symm)
    | nd m cs =>
      simp only [setK_cons, sp_nd]
      have e : ∀ {γ : Type} (k : T α → γ), (O8.sel b (fun c => T.setK v p c fun x => O8.put b x (fun cs => k (.nd m cs)) cs) cs) = k (.nd m (O8.put b (T.setK v p (O8.sel b (fun x => x) cs) fun x => x) (fun y => y) cs)) := fun k => by
        rw [sel_eq, ih, put_eq]
      exact (e k).trans (congrArg k (e fun x => x).symm)
@[simp] theorem getK_lf (p : List D8) : T.getK none some p (T.lf : T α) = none := by cases p <;> rfl
theorem sel_lf8 (b : D8) : O8.sel b (fun x => x) (T.lf8 : O8 (T α)) = .lf := by cases b <;> rfl
theorem getP_setP_same (v : α) (p : List D8) : ∀ t : T α, T.getK none some p (T.setK v p t fun x => x) = some v := by
  induction p with
  | nil => intro t; cases t <;> rfl
  | cons b p ih =>
    intro t
    cases t with
    | lf => rw [setK_cons, sp_lf, setK_eq, put_eq, getK_cons, sp_nd, sel_put, if_pos rfl, ih]
    | nd m cs => rw [setK_cons, sp_nd, sel_eq, setK_eq, put_eq, getK_cons, sp_nd, sel_put, if_pos rfl, ih]
theorem getP_setP_ne (v : α) (p : List D8) : ∀ (q : List D8) (t : T α), p ≠ q → T.getK none some q (T.setK v p t fun x => x) = T.getK none some q t := by
  induction p with
  | nil =>
    intro q t h
    cases q with
    | nil => exact absurd rfl h
    | cons c q => cases t with
      | lf => rw [setK_nil, sp_lf, getK_cons, getK_cons, sp_nd, sp_lf, sel_lf8, getK_lf]
      | nd m cs => rw [setK_nil, sp_nd, getK_cons, getK_cons, sp_nd, sp_nd]
  | cons b p ih =>
    intro q t h
    cases t with
    | lf =>
      rw [setK_cons, sp_lf, setK_eq, put_eq]
      cases q with
      | nil => rfl
      | cons c q =>
        rw [getK_cons, sp_nd, sel_put, getK_cons, sp_lf]
        by_cases hc : c = b
        · subst hc
          rw [if_pos rfl, ih q _ (fun e => h (by rw [e])), getK_lf]
        · rw [if_neg hc, sel_lf8, getK_lf]
    | nd m cs =>
      rw [setK_cons, sp_nd, sel_eq, setK_eq, put_eq]
      cases q with
      | nil => rfl
      | cons c q =>
        rw [getK_cons, sp_nd, sel_put, getK_cons, sp_nd]
        by_cases hc : c = b
        · subst hc
          rw [if_pos rfl, ih q _ (fun e => h (by rw [e]))]
        · rw [if_neg hc]
end T

theorem digOf_inj {a b : Nat} (ha : a < 8) (hb : b < 8) (h : digOf a = digOf b) : a = b := by
  have e : ∀ a, a < 8 → ∀ b, b < 8 → digOf a = digOf b → a = b := by
    intro a ha b hb h
    match a, b with
    | 0, 0 | 1, 1 | 2, 2 | 3, 3 | 4, 4 | 5, 5 | 6, 6 | 7, 7 => rfl
    | 0, 1 | 0, 2 | 0, 3 | 0, 4 | 0, 5 | 0, 6 | 0, 7 | 1, 0 | 1, 2 | 1, 3 | 1, 4 | 1, 5 | 1, 6 | 1, 7
    | 2, 0 | 2, 1 | 2, 3 | 2, 4 | 2, 5 | 2, 6 | 2, 7 | 3, 0 | 3, 1 | 3, 2 | 3, 4 | 3, 5 | 3, 6 | 3, 7
    | 4, 0 | 4, 1 | 4, 2 | 4, 3 | 4, 5 | 4, 6 | 4, 7 | 5, 0 | 5, 1 | 5, 2 | 5, 3 | 5, 4 | 5, 6 | 5, 7
    | 6, 0 | 6, 1 | 6, 2 | 6, 3 | 6, 4 | 6, 5 | 6, 7 | 7, 0 | 7, 1 | 7, 2 | 7, 3 | 7, 4 | 7, 5 | 7, 6 => exact D8.noConfusion h
    | a + 8, _ => omega
    | _, b + 8 => omega
  exact e a ha b hb h

theorem pthF_inj (f : Nat) : ∀ (g a b : Nat), a < f → b < g → pthF f a = pthF g b → a = b := by
  induction f with
  | zero => intro g a b h; omega
  | succ f ih =>
    intro g a b ha hb h
    cases g with
    | zero => omega
    | succ g =>
      have e : ∀ (f n : Nat), pthF (f + 1) n = br (Nat.beq n 0) [] (digOf ((n - 1) % 8) :: pthF f ((n - 1) / 8)) := fun _ _ => rfl
      rw [e, e] at h
      have hb0 : ∀ n : Nat, Nat.beq n 0 = decide (n = 0) := fun n => by
        rw [Bool.eq_iff_iff]; simp [Nat.beq_eq]
      simp only [br_eq, hb0, decide_eq_true_eq] at h
      by_cases a0 : a = 0
      · by_cases b0 : b = 0
        · omega
        · rw [if_pos a0, if_neg b0] at h
          simp at h
      · by_cases b0 : b = 0
        · rw [if_neg a0, if_pos b0] at h
          simp at h
        · rw [if_neg a0, if_neg b0] at h
          injection h with h1 h2
          have h1 := digOf_inj (Nat.mod_lt _ (by omega)) (Nat.mod_lt _ (by omega)) h1
          have := ih g _ _ (by omega) (by omega) h2
          omega

namespace T
variable {α : Type}
theorem pth_inj {a b : Nat} (h : pth a = pth b) : a = b := pthF_inj (a + 1) (b + 1) a b (by omega) (by omega) h
theorem get_set_same (t : T α) (n : Nat) (v : α) : (t.set n v).get n = some v := getP_setP_same v _ t
theorem get_set_ne (t : T α) {n m : Nat} (v : α) (h : n ≠ m) : (t.set n v).get m = t.get m := getP_setP_ne v _ _ t (fun e => h (pth_inj e))
theorem get_set (t : T α) (n m : Nat) (v : α) : (t.set n v).get m = if m = n then some v else t.get m := by
  by_cases h : m = n
  · subst h; rw [if_pos rfl, get_set_same]
  · rw [if_neg h, get_set_ne _ _ (Ne.symm h)]
@[simp] theorem get_lf (n : Nat) : (T.lf : T α).get n = none := getK_lf _
@[simp] theorem puts_nil (t : T α) (i : Nat) : T.puts [] t i = t := rfl
@[simp] theorem puts_cons (x : α) (xs : List α) (t : T α) (i : Nat) : T.puts (x :: xs) t i = T.puts xs (t.set i x) (i + 1) := rfl
theorem get_puts (xs : List α) : ∀ (t : T α) (i j : Nat), (T.puts xs t i).get j = if i ≤ j ∧ j < i + xs.length then xs[j - i]? else t.get j := by
  induction xs with
  | nil => intro t i j; rw [if_neg (by simp)]; rfl
  | cons x xs ih =>
    intro t i j
    rw [puts_cons, ih]
    by_cases h1 : i + 1 ≤ j ∧ j < i + 1 + xs.length
    · rw [if_pos h1, if_pos (by simp; omega)]
      obtain ⟨k, hk⟩ : ∃ k, j - i = k + 1 := ⟨j - i - 1, by omega⟩
      rw [hk, List.getElem?_cons_succ]; congr 1; omega
    · rw [if_neg h1, get_set]
      by_cases h2 : j = i
      · subst h2; rw [if_pos rfl, if_pos (by simp)]; simp
      · rw [if_neg h2, if_neg (by simp; omega)]
theorem gets_some (t : T α) (n : Nat) : ∀ (i : Nat) (l : List α), t.gets n i = some l → l.length = n ∧ ∀ j, j < n → t.get (i + j) = l[j]? := by
  induction n with
  | zero =>
    intro i l h
    have h : some [] = some l := h
    obtain rfl : [] = l := by simpa using h
    exact ⟨rfl, fun j hj => by omega⟩
  | succ n ih =>
    intro i l h
    have e : t.gets (n + 1) i = (t.get i).bind fun x => (t.gets n (i + 1)).bind fun xs => some (x :: xs) := rfl
    rw [e] at h
    cases hx : t.get i with
    | none => rw [hx] at h; simp at h
    | some x =>
      rw [hx] at h
      cases hxs : t.gets n (i + 1) with
      | none => rw [hxs] at h; simp at h
      | some xs =>
        rw [hxs] at h
        simp at h
        subst h
        obtain ⟨h1, h2⟩ := ih _ _ hxs
        refine ⟨by simp [h1], fun j hj => ?_⟩
        cases j with
        | zero => simpa using hx
        | succ j =>
          have := h2 j (by omega)
          rw [show i + (j + 1) = i + 1 + j by omega, this]; simp
end T
end Go.Ab
