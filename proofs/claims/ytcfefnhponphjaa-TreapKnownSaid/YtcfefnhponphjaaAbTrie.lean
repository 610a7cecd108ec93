/- The map's laws. No condition. -/
import Derived.Test.YtcfefnhponphjaaAbDef
namespace Go.Ab

@[simp] theorem br_true {β : Type} (x y : β) : br true x y = x := rfl
@[simp] theorem br_false {β : Type} (x y : β) : br false x y = y := rfl
@[simp] theorem oRec_none {α β : Type} (d : β) (k : α → β) : oRec d k none = d := rfl
@[simp] theorem oRec_some {α β : Type} (d : β) (k : α → β) (a : α) : oRec d k (some a) = k a := rfl
theorem br_eq {β : Type} (b : Bool) (x y : β) : br b x y = if b then x else y := by cases b <;> rfl

namespace T
variable {α : Type}
@[simp] theorem lft_lf : (T.lf : T α).lft = .lf := rfl
@[simp] theorem rgt_lf : (T.lf : T α).rgt = .lf := rfl
@[simp] theorem mid_lf : (T.lf : T α).mid = none := rfl
@[simp] theorem lft_nd (l r : T α) (v : Option α) : (T.nd l v r).lft = l := rfl
@[simp] theorem rgt_nd (l r : T α) (v : Option α) : (T.nd l v r).rgt = r := rfl
@[simp] theorem mid_nd (l r : T α) (v : Option α) : (T.nd l v r).mid = v := rfl
@[simp] theorem sel_true (t : T α) : T.sel true t = t.rgt := rfl
@[simp] theorem sel_false (t : T α) : T.sel false t = t.lft := rfl
@[simp] theorem sel_lf (b : Bool) : T.sel b (T.lf : T α) = .lf := by cases b <;> rfl
@[simp] theorem getP_nil (t : T α) : T.getP [] t = t.mid := rfl
@[simp] theorem getP_cons (b : Bool) (p : List Bool) (t : T α) : T.getP (b :: p) t = T.getP p (T.sel b t) := rfl
@[simp] theorem getP_lf (p : List Bool) : T.getP p (T.lf : T α) = none := by
  induction p with
  | nil => rfl
  | cons b p ih => simp [ih]
theorem setP_nil (v : α) (t : T α) : T.setP v [] t = .nd t.lft (some v) t.rgt := by cases t <;> rfl
theorem setP_cons (v : α) (b : Bool) (p : List Bool) (t : T α) : T.setP v (b :: p) t = T.bld b (T.setP v p (T.sel b t)) t.lft t.mid t.rgt := by
  cases t with
  | lf => cases b <;> rfl
  | nd l m r => rfl
@[simp] theorem sel_bld (b c : Bool) (x l r : T α) (m : Option α) : T.sel c (T.bld b x l m r) = if c = b then x else T.sel c (.nd l m r) := by
  cases b <;> cases c <;> rfl
@[simp] theorem mid_bld (b : Bool) (x l r : T α) (m : Option α) : (T.bld b x l m r).mid = m := by cases b <;> rfl
theorem sel_nd_parts (c : Bool) (t : T α) : T.sel c (.nd t.lft t.mid t.rgt) = T.sel c t := by cases c <;> rfl
theorem getP_setP_same (v : α) (p : List Bool) : ∀ t : T α, T.getP p (T.setP v p t) = some v := by
  induction p with
  | nil => intro t; simp [setP_nil]
  | cons b p ih => intro t; simp [setP_cons, ih]
theorem getP_setP_ne (v : α) (p : List Bool) : ∀ (q : List Bool) (t : T α), p ≠ q → T.getP q (T.setP v p t) = T.getP q t := by
  induction p with
  | nil =>
    intro q t h
    cases q with
    | nil => exact absurd rfl h
    | cons c q => rw [setP_nil, getP_cons, getP_cons]; congr 1; cases c <;> rfl
  | cons b p ih =>
    intro q t h
    cases q with
    | nil => simp [setP_cons]
    | cons c q =>
      rw [setP_cons, getP_cons, getP_cons, sel_bld]
      by_cases hc : c = b
      · subst hc
        rw [if_pos rfl, ih q _ (fun e => h (by rw [e]))]
      · rw [if_neg hc, sel_nd_parts]
end T

theorem pthF_inj (f : Nat) : ∀ (g a b : Nat), a < f → b < g → pthF f a = pthF g b → a = b := by
  induction f with
  | zero => intro g a b h; omega
  | succ f ih =>
    intro g a b ha hb h
    cases g with
    | zero => omega
    | succ g =>
      have e : ∀ (f n : Nat), pthF (f + 1) n = br (Nat.beq n 0) [] (br (Nat.beq (n % 2) 1) (false :: pthF f (n / 2)) (true :: pthF f (n / 2 - 1))) := fun _ _ => rfl
      rw [e, e] at h
      have hb0 : ∀ n : Nat, Nat.beq n 0 = decide (n = 0) := fun n => by
        rw [Bool.eq_iff_iff]; simp [Nat.beq_eq]
      have hb1 : ∀ n : Nat, Nat.beq n 1 = decide (n = 1) := fun n => by
        rw [Bool.eq_iff_iff]; simp [Nat.beq_eq]
      simp only [br_eq, hb0, hb1, decide_eq_true_eq] at h
      by_cases a0 : a = 0
      · by_cases b0 : b = 0
        · omega
        · rw [if_pos a0, if_neg b0] at h
          split at h <;> simp at h
      · by_cases b0 : b = 0
        · rw [if_neg a0, if_pos b0] at h
          split at h <;> simp at h
        · rw [if_neg a0, if_neg b0] at h
          by_cases a1 : a % 2 = 1
          · by_cases b1 : b % 2 = 1
            · rw [if_pos a1, if_pos b1] at h
              have := ih g (a / 2) (b / 2) (by omega) (by omega) (by simpa using h)
              omega
            · rw [if_pos a1, if_neg b1] at h; simp at h
          · by_cases b1 : b % 2 = 1
            · rw [if_neg a1, if_pos b1] at h; simp at h
            · rw [if_neg a1, if_neg b1] at h
              have := ih g (a / 2 - 1) (b / 2 - 1) (by omega) (by omega) (by simpa using h)
              omega

namespace T
variable {α : Type}
theorem pth_inj {a b : Nat} (h : pth a = pth b) : a = b := pthF_inj (a + 1) (b + 1) a b (by omega) (by omega) h
theorem get_set_same (t : T α) (n : Nat) (v : α) : (t.set n v).get n = some v := getP_setP_same v _ t
theorem get_set_ne (t : T α) {n m : Nat} (v : α) (h : n ≠ m) : (t.set n v).get m = t.get m := getP_setP_ne v _ _ t (fun e => h (pth_inj e))
theorem get_set (t : T α) (n m : Nat) (v : α) : (t.set n v).get m = if m = n then some v else t.get m := by
  by_cases h : m = n
  · subst h; rw [if_pos rfl, get_set_same]
  · rw [if_neg h, get_set_ne _ _ (Ne.symm h)]
@[simp] theorem get_lf (n : Nat) : (T.lf : T α).get n = none := getP_lf _
@[simp] theorem puts_nil (t : T α) (i : Nat) : T.puts [] t i = t := rfl
@[simp] theorem puts_cons (x : α) (xs : List α) (t : T α) (i : Nat) : T.puts (x :: xs) t i = T.puts xs (t.set i x) (i + 1) := rfl
theorem get_puts (xs : List α) : ∀ (t : T α) (i j : Nat), (T.puts xs t i).get j = if i ≤ j ∧ j < i + xs.length then xs[j - i]? else t.get j := by
  induction xs with
  | nil => intro t i j; rw [if_neg (by simp)]; rfl
  | cons x xs ih =>
    intro t i j
    rw [puts_cons, ih]
    by_cases h1 : i + 1 ≤ j ∧ j < i + 1 + xs.length
    · rw [if_pos h1, if_pos (by simp; omega)]
      obtain ⟨k, hk⟩ : ∃ k, j - i = k + 1 := ⟨j - i - 1, by omega⟩
      rw [hk, List.getElem?_cons_succ]; congr 1; omega
    · rw [if_neg h1, get_set]
      by_cases h2 : j = i
      · subst h2; rw [if_pos rfl, if_pos (by simp)]; simp
      · rw [if_neg h2, if_neg (by simp; omega)]
theorem gets_some (t : T α) (n : Nat) : ∀ (i : Nat) (l : List α), t.gets n i = some l → l.length = n ∧ ∀ j, j < n → t.get (i + j) = l[j]? := by
  induction n with
  | zero =>
    intro i l h
    have h : some [] = some l := h
    obtain rfl : [] = l := by simpa using h
    exact ⟨rfl, fun j hj => by omega⟩
  | succ n ih =>
    intro i l h
    have e : t.gets (n + 1) i = (t.get i).bind fun x => (t.gets n (i + 1)).bind fun xs => some (x :: xs) := rfl
    rw [e] at h
    cases hx : t.get i with
    | none => rw [hx] at h; simp at h
    | some x =>
      rw [hx] at h
      cases hxs : t.gets n (i + 1) with
      | none => rw [hxs] at h; simp at h
      | some xs =>
        rw [hxs] at h
        simp at h
        subst h
        obtain ⟨h1, h2⟩ := ih _ _ hxs
        refine ⟨by simp [h1], fun j hj => ?_⟩
        cases j with
        | zero => simpa using hx
        | succ j =>
          have := h2 j (by omega)
          rw [show i + (j + 1) = i + 1 + j by omega, this]; simp
end T
end Go.Ab
