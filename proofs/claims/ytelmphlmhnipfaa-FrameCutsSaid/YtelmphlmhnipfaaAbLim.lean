/- The evaluator without a bound on its steps: what it comes to with any bound, and that this is a fixed point of its step. No condition. -/
import Derived.Test.YtelmphlmhnipfaaAbTrie
set_option linter.unusedVariables false
namespace Go.Ab

/-- What holds of nearly all. -/
structure Fil (ι : Type) where
  p : (ι → Prop) → Prop
  all : p fun _ => True
  mono : ∀ {A B : ι → Prop}, (∀ i, A i → B i) → p A → p B
  and : ∀ {A B : ι → Prop}, p A → p B → p fun i => A i ∧ B i

section
variable {ι : Type} (F : Fil ι)
def ApO (a : ι → Out) (l : Out) : Prop := l ≠ .no → F.p fun i => a i = l
def ApS (a : ι → St) (l : St) : Prop := l ≠ .no → F.p fun i => a i = l
def ApN (a : ι → Rn) (l : Rn) : Prop := l ≠ .no → F.p fun i => a i = l
structure ApR (R : ι → Rec) (L : Rec) : Prop where
  code : ∀ c rnd nt tm mk M, ApN F (fun i => (R i).code c rnd nt tm mk M) (L.code c rnd nt tm mk M)
  call : ∀ f args M, ApO F (fun i => (R i).call f args M) (L.call f args M)
  round : ∀ l args M, ApO F (fun i => (R i).round l args M) (L.round l args M)
variable {F}
theorem apO_const (l : Out) : ApO F (fun _ => l) l := fun _ => F.mono (fun _ _ => rfl) F.all
theorem apN_const (l : Rn) : ApN F (fun _ => l) l := fun _ => F.mono (fun _ _ => rfl) F.all
theorem apS_const (l : St) : ApS F (fun _ => l) l := fun _ => F.mono (fun _ _ => rfl) F.all

theorem apO_oRec {α : Type} {f : ι → α → Out} {g : α → Out} (o : Option α) (h : ∀ x, ApO F (fun i => f i x) (g x)) : ApO F (fun i => oRec .no (f i) o) (oRec .no g o) := by
  cases o with
  | none => exact apO_const _
  | some x => exact h x
theorem apN_oRec {α : Type} {f : ι → α → Rn} {g : α → Rn} (o : Option α) (h : ∀ x, ApN F (fun i => f i x) (g x)) : ApN F (fun i => oRec .no (f i) o) (oRec .no g o) := by
  cases o with
  | none => exact apN_const _
  | some x => exact h x
theorem apS_oRec {α : Type} {f : ι → α → St} {g : α → St} (o : Option α) (h : ∀ x, ApS F (fun i => f i x) (g x)) : ApS F (fun i => oRec .no (f i) o) (oRec .no g o) := by
  cases o with
  | none => exact apS_const _
  | some x => exact h x
theorem apO_br (b : Bool) {f f' : ι → Out} {g g' : Out} (h : ApO F f g) (h' : ApO F f' g') : ApO F (fun i => br b (f i) (f' i)) (br b g g') := by cases b <;> assumption
theorem apN_br (b : Bool) {f f' : ι → Rn} {g g' : Rn} (h : ApN F f g) (h' : ApN F f' g') : ApN F (fun i => br b (f i) (f' i)) (br b g g') := by cases b <;> assumption
theorem apS_br (b : Bool) {f f' : ι → St} {g g' : St} (h : ApS F f g) (h' : ApS F f' g') : ApS F (fun i => br b (f i) (f' i)) (br b g g') := by cases b <;> assumption
theorem apO_evC {f : ι → CV → Out} {g : CV → Out} (x : AR) (tm : T V) (h : ∀ c, ApO F (fun i => f i c) (g c)) : ApO F (fun i => evC .no (f i) x tm) (evC .no g x tm) := by
  unfold evC
  cases x.ev tm with
  | none => exact apO_const _
  | some v => cases v with
    | one y => cases y with
      | c c => exact h c
      | agg => exact apO_const _
    | tup => exact apO_const _
    | undef => exact apO_const _
theorem apN_evC {f : ι → CV → Rn} {g : CV → Rn} (x : AR) (tm : T V) (h : ∀ c, ApN F (fun i => f i c) (g c)) : ApN F (fun i => evC .no (f i) x tm) (evC .no g x tm) := by
  unfold evC
  cases x.ev tm with
  | none => exact apN_const _
  | some v => cases v with
    | one y => cases y with
      | c c => exact h c
      | agg => exact apN_const _
    | tup => exact apN_const _
    | undef => exact apN_const _
theorem apO_asFn {f : ι → FuncId → List (Nat × Nat) → Out} {g : FuncId → List (Nat × Nat) → Out} {f' : ι → Nat → Out} {g' : Nat → Out} (x : CV)
    (h : ∀ a b, ApO F (fun i => f i a b) (g a b)) (h' : ∀ a, ApO F (fun i => f' i a) (g' a)) : ApO F (fun i => CV.asFn .no (f i) (f' i) x) (CV.asFn .no g g' x) := by
  cases x with
  | fn a b => exact h a b
  | yld a => exact h' a
  | _ => exact apO_const _
theorem apN_asFn {f : ι → FuncId → List (Nat × Nat) → Rn} {g : FuncId → List (Nat × Nat) → Rn} {f' : ι → Nat → Rn} {g' : Nat → Rn} (x : CV)
    (h : ∀ a b, ApN F (fun i => f i a b) (g a b)) (h' : ∀ a, ApN F (fun i => f' i a) (g' a)) : ApN F (fun i => CV.asFn .no (f i) (f' i) x) (CV.asFn .no g g' x) := by
  cases x with
  | fn a b => exact h a b
  | yld a => exact h' a
  | _ => exact apN_const _
theorem apN_asBool {f : ι → Bool → Rn} {g : Bool → Rn} (x : CV) (h : ∀ a, ApN F (fun i => f i a) (g a)) : ApN F (fun i => CV.asBool .no (f i) x) (CV.asBool .no g x) := by
  cases x with
  | bool a => exact h a
  | _ => exact apN_const _
theorem apO_asLoop {f : ι → LoopState → Option Code → T V → Nat → List Tmp → Code → Code → Nat → Out} {g : LoopState → Option Code → T V → Nat → List Tmp → Code → Code → Nat → Out} (x : Blk)
    (h : ∀ a b c d e k l m, ApO F (fun i => f i a b c d e k l m) (g a b c d e k l m)) : ApO F (fun i => Blk.asLoop .no (f i) x) (Blk.asLoop .no g x) := by
  cases x with
  | loop a b c d e k l m => exact h a b c d e k l m
  | _ => exact apO_const _
theorem apN_asLoop {f : ι → LoopState → Option Code → T V → Nat → List Tmp → Code → Code → Nat → Rn} {g : LoopState → Option Code → T V → Nat → List Tmp → Code → Code → Nat → Rn} (x : Blk)
    (h : ∀ a b c d e k l m, ApN F (fun i => f i a b c d e k l m) (g a b c d e k l m)) : ApN F (fun i => Blk.asLoop .no (f i) x) (Blk.asLoop .no g x) := by
  cases x with
  | loop a b c d e k l m => exact h a b c d e k l m
  | _ => exact apN_const _
/-- One thing behind another. -/
theorem apS_out {a : ι → Out} {l : Out} {f : ι → V → Mem → St} {g : V → Mem → St} (ha : ApO F a l) (h : ∀ v M, ApS F (fun i => f i v M) (g v M)) : ApS F (fun i => Out.bind .no (f i) (a i)) (Out.bind .no g l) := by
  intro hn
  cases l with
  | no => exact absurd rfl hn
  | ok v M => exact F.mono (fun i q => by dsimp only; rw [q.1]; exact q.2) (F.and (ha (by simp)) (h v M hn))
theorem apN_out {a : ι → Out} {l : Out} {f : ι → V → Mem → Rn} {g : V → Mem → Rn} (ha : ApO F a l) (h : ∀ v M, ApN F (fun i => f i v M) (g v M)) : ApN F (fun i => Out.bind .no (f i) (a i)) (Out.bind .no g l) := by
  intro hn
  cases l with
  | no => exact absurd rfl hn
  | ok v M => exact F.mono (fun i q => by dsimp only; rw [q.1]; exact q.2) (F.and (ha (by simp)) (h v M hn))
theorem apN_st {a : ι → St} {l : St} {f : ι → T V → Mem → Rn} {g : T V → Mem → Rn} (ha : ApS F a l) (h : ∀ v M, ApN F (fun i => f i v M) (g v M)) : ApN F (fun i => St.bind .no (f i) (a i)) (St.bind .no g l) := by
  intro hn
  cases l with
  | no => exact absurd rfl hn
  | ok v M => exact F.mono (fun i q => by dsimp only; rw [q.1]; exact q.2) (F.and (ha (by simp)) (h v M hn))
theorem apN_rn {a : ι → Rn} {l : Rn} {f : ι → T V → List Nat → Mem → Rn} {g : T V → List Nat → Mem → Rn} {f1 : ι → Nat → T V → List Nat → Mem → Rn} {g1 : Nat → T V → List Nat → Mem → Rn} {f2 : ι → T V → List Nat → Mem → Rn} {g2 : T V → List Nat → Mem → Rn}
    (ha : ApN F a l) (h : ∀ v m M, ApN F (fun i => f i v m M) (g v m M)) (h1 : ∀ e v m M, ApN F (fun i => f1 i e v m M) (g1 e v m M)) (h2 : ∀ v m M, ApN F (fun i => f2 i v m M) (g2 v m M)) :
    ApN F (fun i => Rn.rec (motive := fun _ => Rn) .no (f i) (f1 i) (f2 i) (a i)) (Rn.rec (motive := fun _ => Rn) .no g g1 g2 l) := by
  intro hn
  cases l with
  | no => exact absurd rfl hn
  | nx v m M => exact F.mono (fun i q => by dsimp only; rw [q.1]; exact q.2) (F.and (ha (by simp)) (h v m M hn))
  | ex e v m M => exact F.mono (fun i q => by dsimp only; rw [q.1]; exact q.2) (F.and (ha (by simp)) (h1 e v m M hn))
  | rt v m M => exact F.mono (fun i q => by dsimp only; rw [q.1]; exact q.2) (F.and (ha (by simp)) (h2 v m M hn))
theorem apO_rn {a : ι → Rn} {l : Rn} {f : ι → T V → List Nat → Mem → Out} {g : T V → List Nat → Mem → Out} {f1 : ι → Nat → T V → List Nat → Mem → Out} {g1 : Nat → T V → List Nat → Mem → Out} {f2 : ι → T V → List Nat → Mem → Out} {g2 : T V → List Nat → Mem → Out}
    (ha : ApN F a l) (h : ∀ v m M, ApO F (fun i => f i v m M) (g v m M)) (h1 : ∀ e v m M, ApO F (fun i => f1 i e v m M) (g1 e v m M)) (h2 : ∀ v m M, ApO F (fun i => f2 i v m M) (g2 v m M)) :
    ApO F (fun i => Rn.rec (motive := fun _ => Out) .no (f i) (f1 i) (f2 i) (a i)) (Rn.rec (motive := fun _ => Out) .no g g1 g2 l) := by
  intro hn
  cases l with
  | no => exact absurd rfl hn
  | nx v m M => exact F.mono (fun i q => by dsimp only; rw [q.1]; exact q.2) (F.and (ha (by simp)) (h v m M hn))
  | ex e v m M => exact F.mono (fun i q => by dsimp only; rw [q.1]; exact q.2) (F.and (ha (by simp)) (h1 e v m M hn))
  | rt v m M => exact F.mono (fun i q => by dsimp only; rw [q.1]; exact q.2) (F.and (ha (by simp)) (h2 v m M hn))

variable {R : ι → Rec} {L : Rec} (P : Program) (O : FuncId → Bool) (h : ApR F R L)
include h
theorem ap_ax (x : AX) (tm : T V) (M : Mem) : ApO F (fun i => x.ev (R i) tm M) (x.ev L tm M) := by
  cases x with
  | op a => exact apO_const _
  | call f args =>
    exact apO_evC (f := fun i => CV.asFn .no (fun g caps => oRec .no (fun xs => (R i).call g (xs ++ caps.map capV) M) (evs args tm)) (fun l => oRec .no (fun xs => (R i).round l xs M) (evs args tm))) f tm
      fun c => apO_asFn c (fun g caps => apO_oRec _ fun xs => h.call _ _ _) (fun l => apO_oRec _ fun xs => h.round _ _ _)
theorem ap_co (c : CO) (tm : T V) (M : Mem) : ApO F (fun i => c.ev (R i) tm M) (c.ev L tm M) :=
  apO_oRec _ fun b => apO_br b (ap_ax h _ _ _) (apO_const _)
theorem ap_ops (l : List CO) : ∀ (tm : T V) (M : Mem), ApS F (fun i => opsE l (R i) tm M) (opsE l L tm M) := by
  induction l with
  | nil => intro tm M; exact apS_const _
  | cons c l ih => intro tm M; exact apS_out (ap_co h c tm M) fun v M' => ih _ _
theorem ap_draw (ms : List Nat) (l : List PI) : ∀ (last : Option Nat) (wl : List (PI × T V × V)) (tm : T V) (M : Mem), ApS F (fun i => drawE ms l (R i) last wl tm M) (drawE ms l L last wl tm M) := by
  induction l with
  | nil => intro last wl tm M; exact apS_const _
  | cons p l ih =>
    intro last wl tm M
    exact apS_br _ (apS_br _ (apS_out (ap_co h _ _ _) fun v M' => ih _ _ _ _) (apS_const _)) (apS_out (ap_co h _ _ _) fun v M' => ih _ _ _ _)
theorem ap_range1 (g : AR) (ps : List Tmp) (asg body : Code) (nt : Nat) (tm : T V) (d : Nat) (mk : List Nat) (M : Mem) :
    ApN F (fun i => range1 (R i) g ps asg body nt tm d mk M) (range1 L g ps asg body nt tm d mk M) :=
  apN_evC (f := fun i => CV.asFn .no (fun f caps => Out.bind .no (fun _ M' => endRange M.next tm mk M') ((R i).call f (.c (.yld M.next) :: caps.map capV) (M.put (.loop .ready none tm nt ps asg body d)))) (fun _ => .no)) g tm
    fun c => apN_asFn c (fun _ _ => apN_out (h.call _ _ _) fun _ _ => apN_const _) (fun _ => apN_const _)
theorem ap_code (c : Code) (rnd : Option Nat) (nt : Nat) (tm : T V) (mk : List Nat) (M : Mem) : ApN F (fun i => codeA P (R i) c rnd nt tm mk M) (codeA P L c rnd nt tm mk M) := by
  cases c with
  | skip => exact apN_const _
  | region pos ops draw => exact apN_st (apS_br _ (apS_oRec _ fun cs => apS_br _ (ap_draw h _ _ _ _ _ _) (apS_const _)) (apS_oRec _ fun cs => ap_ops h _ _ _)) fun _ _ => apN_const _
  | seq a b => exact apN_rn (h.code _ _ _ _ _ _) (fun _ _ _ => h.code _ _ _ _ _ _) (fun _ _ _ _ => apN_const _) (fun _ _ _ => apN_const _)
  | cond x a b => exact apN_oRec _ fun x => apN_evC (f := fun i => CV.asBool .no fun t => (R i).code (br t a b) rnd nt tm mk M) x tm fun c => apN_asBool c fun t => h.code _ _ _ _ _ _
  | block id c => exact apN_rn (h.code _ _ _ _ _ _) (fun _ _ _ => apN_const _) (fun _ _ _ _ => apN_const _) (fun _ _ _ => apN_const _)
  | loop c => exact apN_rn (h.code _ _ _ _ _ _) (fun _ _ _ => h.code _ _ _ _ _ _) (fun _ _ _ _ => apN_const _) (fun _ _ _ => apN_const _)
  | rangeFunc g ps asg body =>
    refine apN_oRec _ fun g => ?_
    cases rnd with
    | none => exact ap_range1 h _ _ _ _ _ _ _ _ _
    | some l => exact apN_oRec _ fun b => apN_asLoop b fun _ _ _ _ _ _ _ _ => ap_range1 h _ _ _ _ _ _ _ _ _
  | exit id => exact apN_const _
  | scope => exact apN_const _
  | label => exact apN_const _
  | goto => exact apN_const _
  | ret => exact apN_const _
  | refuse => exact apN_const _
theorem ap_call (f : FuncId) (args : List V1) (M : Mem) : ApO F (fun i => callA P O (R i) f args M) (callA P O L f args M) :=
  apO_br _ (apO_const _) (apO_oRec _ fun c => apO_br _ (apO_rn (h.code _ _ _ _ _ _) (fun _ _ _ => apO_const _) (fun _ _ _ _ => apO_const _) (fun _ _ _ => apO_const _)) (apO_const _))
theorem ap_mid (l nt : Nat) (body : Code) (tm : T V) (mk : List Nat) (M : Mem) : ApO F (fun i => midRound (R i) l nt body tm mk M) (midRound L l nt body tm mk M) := by
  cases mk with
  | cons => exact apO_const _
  | nil => exact apO_oRec _ fun b => apO_asLoop b fun _ _ _ _ _ _ _ _ => apO_br _ (apO_rn (h.code _ _ _ _ _ _) (fun _ _ _ => apO_const _) (fun _ _ _ _ => apO_const _) (fun _ _ _ => apO_const _)) (apO_const _)
theorem ap_round (l : Nat) (args : List V1) (M : Mem) : ApO F (fun i => roundA (R i) l args M) (roundA L l args M) :=
  apO_oRec _ fun b => apO_asLoop b fun _ _ tm nt ps asg body _ => apO_oRec _ fun tm1 => apO_rn (h.code _ _ _ _ _ _) (fun _ _ _ => ap_mid h _ _ _ _ _ _) (fun _ _ _ _ => apO_const _) (fun _ _ _ => apO_const _)
theorem ap_step : ApR F (fun i => recS P O (R i)) (recS P O L) := ⟨fun c rnd nt tm mk M => ap_code P h c rnd nt tm mk M, fun f args M => ap_call P O h f args M, fun l args M => ap_round h l args M⟩
end

/-! ### The chain -/
def one : Fil Unit := ⟨fun A => A (), trivial, fun h a => h _ a, fun a b => ⟨a, b⟩⟩
def ev : Fil Nat where
  p A := ∃ k, ∀ j, k ≤ j → A j
  all := ⟨0, fun _ _ => trivial⟩
  mono h := fun ⟨k, a⟩ => ⟨k, fun j q => h _ (a j q)⟩
  and := fun ⟨k, a⟩ ⟨l, b⟩ => ⟨max k l, fun j q => ⟨a j (Nat.le_trans (Nat.le_max_left _ _) q), b j (Nat.le_trans (Nat.le_max_right _ _) q)⟩⟩
abbrev SubR (L R : Rec) : Prop := ApR one (fun _ => R) L
section
variable (P : Program) (O : FuncId → Bool)
theorem sub_refl (L : Rec) : SubR L L := ⟨fun _ _ _ _ _ _ _ => rfl, fun _ _ _ _ => rfl, fun _ _ _ _ => rfl⟩
theorem sub_trans {A B C : Rec} (h : SubR A B) (k : SubR B C) : SubR A C where
  code c rnd nt tm mk M hn := by
    have e : B.code c rnd nt tm mk M = A.code c rnd nt tm mk M := h.code c rnd nt tm mk M hn
    have q : C.code c rnd nt tm mk M = B.code c rnd nt tm mk M := k.code c rnd nt tm mk M (e ▸ hn)
    exact q.trans e
  call f args M hn := by
    have e : B.call f args M = A.call f args M := h.call f args M hn
    have q : C.call f args M = B.call f args M := k.call f args M (e ▸ hn)
    exact q.trans e
  round l args M hn := by
    have e : B.round l args M = A.round l args M := h.round l args M hn
    have q : C.round l args M = B.round l args M := k.round l args M (e ▸ hn)
    exact q.trans e
theorem sub_succ : ∀ n, SubR (runA P O n) (runA P O (n + 1))
  | 0 => ⟨fun _ _ _ _ _ _ h => absurd rfl h, fun _ _ _ h => absurd rfl h, fun _ _ _ h => absurd rfl h⟩
  | n + 1 => ap_step P O (sub_succ n)
theorem sub_le {n m : Nat} (h : n ≤ m) : SubR (runA P O n) (runA P O m) := by
  induction h with
  | refl => exact sub_refl _
  | step _ ih => exact sub_trans ih (sub_succ P O _)

open Classical in
/-- What it comes to with any bound. -/
noncomputable def lim : Rec where
  code c rnd nt tm mk M := if h : ∃ k, (runA P O k).code c rnd nt tm mk M ≠ .no then (runA P O h.choose).code c rnd nt tm mk M else .no
  call f args M := if h : ∃ k, (runA P O k).call f args M ≠ .no then (runA P O h.choose).call f args M else .no
  round l args M := if h : ∃ k, (runA P O k).round l args M ≠ .no then (runA P O h.choose).round l args M else .no
theorem lim_ap : ApR ev (runA P O) (lim P O) where
  code c rnd nt tm mk M hn := by
    unfold lim at hn ⊢
    dsimp only at hn ⊢
    split at hn
    · next h => rw [dif_pos h]; exact ⟨h.choose, fun j q => (sub_le P O q).code _ _ _ _ _ _ h.choose_spec⟩
    · exact absurd rfl hn
  call f args M hn := by
    unfold lim at hn ⊢
    dsimp only at hn ⊢
    split at hn
    · next h => rw [dif_pos h]; exact ⟨h.choose, fun j q => (sub_le P O q).call _ _ _ h.choose_spec⟩
    · exact absurd rfl hn
  round l args M hn := by
    unfold lim at hn ⊢
    dsimp only at hn ⊢
    split at hn
    · next h => rw [dif_pos h]; exact ⟨h.choose, fun j q => (sub_le P O q).round _ _ _ h.choose_spec⟩
    · exact absurd rfl hn
theorem lim_sub (n : Nat) : SubR (runA P O n) (lim P O) where
  code c rnd nt tm mk M hn := by
    have h : ∃ k, (runA P O k).code c rnd nt tm mk M ≠ .no := ⟨n, hn⟩
    show (lim P O).code c rnd nt tm mk M = _
    unfold lim
    dsimp only
    rw [dif_pos h]
    rcases Nat.le_total n h.choose with q | q
    · exact (sub_le P O q).code _ _ _ _ _ _ hn
    · exact ((sub_le P O q).code _ _ _ _ _ _ h.choose_spec).symm
  call f args M hn := by
    have h : ∃ k, (runA P O k).call f args M ≠ .no := ⟨n, hn⟩
    show (lim P O).call f args M = _
    unfold lim
    dsimp only
    rw [dif_pos h]
    rcases Nat.le_total n h.choose with q | q
    · exact (sub_le P O q).call _ _ _ hn
    · exact ((sub_le P O q).call _ _ _ h.choose_spec).symm
  round l args M hn := by
    have h : ∃ k, (runA P O k).round l args M ≠ .no := ⟨n, hn⟩
    show (lim P O).round l args M = _
    unfold lim
    dsimp only
    rw [dif_pos h]
    rcases Nat.le_total n h.choose with q | q
    · exact (sub_le P O q).round _ _ _ hn
    · exact ((sub_le P O q).round _ _ _ h.choose_spec).symm
theorem lim_code (c : Code) (rnd : Option Nat) (nt : Nat) (tm : T V) (mk : List Nat) (M : Mem) : (lim P O).code c rnd nt tm mk M = codeA P (lim P O) c rnd nt tm mk M := by
  by_cases hl : (lim P O).code c rnd nt tm mk M = .no
  · by_cases hr : codeA P (lim P O) c rnd nt tm mk M = .no
    · rw [hl, hr]
    · obtain ⟨k, e⟩ := (ap_step P O (lim_ap P O)).code c rnd nt tm mk M hr
      have e : (runA P O (k + 1)).code c rnd nt tm mk M = codeA P (lim P O) c rnd nt tm mk M := e k (Nat.le_refl _)
      have := (lim_sub P O (k + 1)).code c rnd nt tm mk M (by rw [e]; exact hr)
      exact this.trans e
  · obtain ⟨k, e⟩ := (lim_ap P O).code c rnd nt tm mk M hl
    have e : (runA P O (k + 1)).code c rnd nt tm mk M = (lim P O).code c rnd nt tm mk M := e (k + 1) (Nat.le_succ _)
    have q : codeA P (lim P O) c rnd nt tm mk M = (runA P O (k + 1)).code c rnd nt tm mk M := (ap_step P O (lim_sub P O k)).code c rnd nt tm mk M (by show (runA P O (k + 1)).code c rnd nt tm mk M ≠ .no; rw [e]; exact hl)
    exact (q.trans e).symm
theorem lim_call (f : FuncId) (args : List V1) (M : Mem) : (lim P O).call f args M = callA P O (lim P O) f args M := by
  by_cases hl : (lim P O).call f args M = .no
  · by_cases hr : callA P O (lim P O) f args M = .no
    · rw [hl, hr]
    · obtain ⟨k, e⟩ := (ap_step P O (lim_ap P O)).call f args M hr
      have e : (runA P O (k + 1)).call f args M = callA P O (lim P O) f args M := e k (Nat.le_refl _)
      have := (lim_sub P O (k + 1)).call f args M (by rw [e]; exact hr)
      exact this.trans e
  · obtain ⟨k, e⟩ := (lim_ap P O).call f args M hl
    have e : (runA P O (k + 1)).call f args M = (lim P O).call f args M := e (k + 1) (Nat.le_succ _)
    have q : callA P O (lim P O) f args M = (runA P O (k + 1)).call f args M := (ap_step P O (lim_sub P O k)).call f args M (by show (runA P O (k + 1)).call f args M ≠ .no; rw [e]; exact hl)
    exact (q.trans e).symm
theorem lim_round (l : Nat) (args : List V1) (M : Mem) : (lim P O).round l args M = roundA (lim P O) l args M := by
  by_cases hl : (lim P O).round l args M = .no
  · by_cases hr : roundA (lim P O) l args M = .no
    · rw [hl, hr]
    · obtain ⟨k, e⟩ := (ap_step P O (lim_ap P O)).round l args M hr
      have e : (runA P O (k + 1)).round l args M = roundA (lim P O) l args M := e k (Nat.le_refl _)
      have := (lim_sub P O (k + 1)).round l args M (by rw [e]; exact hr)
      exact this.trans e
  · obtain ⟨k, e⟩ := (lim_ap P O).round l args M hl
    have e : (runA P O (k + 1)).round l args M = (lim P O).round l args M := e (k + 1) (Nat.le_succ _)
    have q : roundA (lim P O) l args M = (runA P O (k + 1)).round l args M := (ap_step P O (lim_sub P O k)).round l args M (by show (runA P O (k + 1)).round l args M ≠ .no; rw [e]; exact hl)
    exact (q.trans e).symm
/-- What it comes to, it comes to with some bound. -/
theorem lim_ok {f : FuncId} {args : List V1} {M M' : Mem} {v : V} (h : (lim P O).call f args M = .ok v M') : ∃ k, (runA P O k).call f args M = .ok v M' := by
  obtain ⟨k, e⟩ := (lim_ap P O).call f args M (by rw [h]; simp)
  exact ⟨k, (e k (Nat.le_refl _)).trans h⟩
end
end Go.Ab
