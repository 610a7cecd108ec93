/- Loops over functions, for symbolic runs: what a range, a round, and the end of them come to. No condition. -/
import Derived.Test.YtelmphlmhnipfaaAbNum
namespace Go.Ab
section
variable {P : Program} {O : FuncId → Bool}
theorem rangeA_out (L : Rec) (g : AR) (ps : List Tmp) (asg body : Code) (nt : Nat) (tm : T V) (mk : List Nat) (M : Mem) :
    rangeA L none g ps asg body nt tm mk M = range1 L g ps asg body nt tm M.next (M.next :: mk) (M.put (.dfr true)) := nr rfl
theorem range1_of {L : Rec} {g : AR} {ps : List Tmp} {asg body : Code} {nt : Nat} {tm : T V} {d : Nat} {mk : List Nat} {M M' : Mem} {f : FuncId} {caps : List (Nat × Nat)} {v : V} (hg : g.ev tm = some (.one (.c (.fn f caps))))
    (h : L.call f (.c (.yld M.next) :: caps.map capV) (M.put (.loop .ready none tm nt ps asg body d)) = .ok v M') : range1 L g ps asg body nt tm d mk M = endRange M.next tm mk M' := by
  unfold range1 evC
  rw [hg]
  show Out.bind Rn.no _ (L.call f (.c (.yld M.next) :: caps.map capV) (M.put (.loop .ready none tm nt ps asg body d))) = _
  rw [h]; rfl
theorem endRange_of {l : Nat} {tm : T V} {mk : List Nat} {M : Mem} {st : LoopState} {pend : Option Code} {tm' : T V} {nt : Nat} {ps : List Tmp} {asg body : Code} {d : Nat} (h : M.b.get l = some (.loop st pend tm' nt ps asg body d)) (hb : isBusy st = false) :
    endRange l tm mk M = jumpE pend tm mk (M.upd l (.loop .exhausted pend tm' nt ps asg body d)) := by
  unfold endRange
  rw [h]
  show br (isBusy st) _ _ = _
  rw [hb]; rfl
/-- A round, by how its body ends. -/
noncomputable def roundEnd (l : Nat) (r : Rn) : Out := Rn.rec (motive := fun _ => Out) .no (endRound l none true) (fun id => endRound l (some (.exit id)) false) (endRound l (some .ret) false) r
theorem roundEnd_nx (l : Nat) (tm : T V) (mk : List Nat) (M : Mem) : roundEnd l (.nx tm mk M) = endRound l none true tm mk M := nr rfl
theorem roundEnd_ex (l id : Nat) (tm : T V) (mk : List Nat) (M : Mem) : roundEnd l (.ex id tm mk M) = endRound l (some (.exit id)) false tm mk M := nr rfl
theorem roundEnd_rt (l : Nat) (tm : T V) (mk : List Nat) (M : Mem) : roundEnd l (.rt tm mk M) = endRound l (some .ret) false tm mk M := nr rfl
theorem round_of {l : Nat} {args : List V1} {M : Mem} {pend : Option Code} {tm tm1 tm2 : T V} {nt : Nat} {ps : List Tmp} {asg body : Code} {d : Nat} (h : M.b.get l = some (.loop .ready pend tm nt ps asg body d))
    (hb : bindA ps args tm nt = some tm1) (ha : (lim P O).code asg (some l) nt tm1 [] M = .nx tm2 [] M) :
    (lim P O).round l args M = roundEnd l ((lim P O).code body (some l) nt tm2 [] (M.upd l (.loop .busy pend tm nt ps asg body d))) := by
  rw [lim_round]
  unfold roundA
  rw [h]
  show oRec Out.no _ (bindA ps args tm nt) = _
  rw [hb]
  show Rn.rec (motive := fun _ => Out) .no (midRound (lim P O) l nt body) _ _ ((lim P O).code asg (some l) nt tm1 [] M) = _
  rw [ha]
  show midRound (lim P O) l nt body tm2 [] M = _
  unfold midRound
  show oRec Out.no _ (M.b.get l) = _
  rw [h]; rfl
theorem endRound_of {l : Nat} {jump : Option Code} {ok : Bool} {tm : T V} {M : Mem} {st : LoopState} {pend : Option Code} {tm' : T V} {nt : Nat} {ps : List Tmp} {asg body : Code} {d : Nat} (h : M.b.get l = some (.loop st pend tm' nt ps asg body d)) :
    endRound l jump ok tm [] M = .ok (.one (.c (.bool ok))) (M.upd l (.loop (br ok .ready .done) jump tm' nt ps asg body d)) := by
  unfold endRound
  show oRec Out.no _ (M.b.get l) = _
  rw [h]; rfl
theorem bindA_two {a b : Tmp} {x y : V1} {tm : T V} {nt : Nat} (ha : a < nt) (hb : b < nt) : bindA [a, b] [x, y] tm nt = some ((tm.set a (.one x)).set b (.one y)) := by
  unfold bindA
  rw [blt_t ha, br_t]
  unfold bindA
  rw [blt_t hb, br_t]
  rfl
theorem bindA_one {a : Tmp} {x : V1} {tm : T V} {nt : Nat} (ha : a < nt) : bindA [a] [x] tm nt = some (tm.set a (.one x)) := by
  unfold bindA
  rw [blt_t ha, br_t]
  rfl
theorem jump_none (tm : T V) (mk : List Nat) (M : Mem) : jumpE none tm mk M = .nx tm mk M := nr rfl
theorem jump_ret (tm : T V) (mk : List Nat) (M : Mem) : jumpE (some .ret) tm mk M = .rt tm mk M := nr rfl
theorem jump_exit (id : Nat) (tm : T V) (mk : List Nat) (M : Mem) : jumpE (some (.exit id)) tm mk M = .ex id tm mk M := nr rfl
/-- Behind a call with one mark. -/
theorem retE_one {res : List AV} {tm : T V} {d : Nat} {M : Mem} (h : M.b.get d = some (.dfr true)) : retE res tm [d] M = oRec .no (fun vs => .ok (packA vs) (M.upd d (.dfr false))) (avsE tm (M.upd d (.dfr false)) res) := by
  unfold retE
  have : unmark [d] M = some (M.upd d (.dfr false)) := by
    show oRec none _ (M.b.get d) = _
    rw [h]; rfl
  rw [this]; rfl
/-- One more round of a loop, named. -/
noncomputable def loopN (P : Program) (O : FuncId → Bool) (c : Code) (rnd : Option Nat) (nt : Nat) (tm : T V) (mk : List Nat) (M : Mem) : Rn := (lim P O).code (.loop c) rnd nt tm mk M
theorem loop_step {c : Code} {x : CC} {nt : Nat} (h : comp P nt c = some x) (rnd : Option Nat) (tm : T V) (mk : List Nat) (M : Mem) :
    (lim P O).code (.loop c) rnd nt tm mk M = (run (lim P O) nt rnd x tm mk M).andThen (loopN P O c rnd nt) := loop_eq c x h rnd tm mk M
theorem loop_code {c : Code} {x : CC} {nt : Nat} (h : comp P nt c = some x) (rnd : Option Nat) (tm : T V) (mk : List Nat) (M : Mem) :
    run (lim P O) nt rnd (.loop c x) tm mk M = (lim P O).code (.loop c) rnd nt tm mk M := (run_comp (.loop c) (.loop c x) (by simp [comp, h]) rnd tm mk M).symm
/-! What lies elsewhere. -/
theorem load_of_get {M M' : Mem} {id : Nat} (h : M'.b.get id = M.b.get id) (o : Nat) : M'.load id o = M.load id o := by unfold Mem.load; rw [h]
theorem next_put (M : Mem) (b : Blk) : (M.put b).next = M.next + 1 := nr rfl
theorem next_upd (M : Mem) (id : Nat) (b : Blk) : (M.upd id b).next = M.next := nr rfl
theorem Has.put {M : Mem} (hw : M.Wf) {id : Nat} {wr : Bool} {xs : List CV} (h : Has M id wr xs) (b : Blk) : Has (M.put b) id wr xs := h.other (by rw [get_put, if_neg (by have := h.lt hw; omega)])
theorem Has.upd {M : Mem} {id i : Nat} {wr : Bool} {xs : List CV} (h : Has M id wr xs) (b : Blk) (hi : id ≠ i) : Has (M.upd i b) id wr xs := h.other (by rw [get_upd, if_neg hi])

/-! Slices that grow: as long as their blocks. -/
inductive Sl (M : Mem) (lo es : Nat) : CV → Nat → List CV → Prop
  | nil : Sl M lo es .nils 0 []
  | mk (id len : Nat) (xs : List CV) : lo ≤ id → Has M id true xs → xs.length = len * es → Sl M lo es (.slice id 0 len len es true) len xs
/-- Its block is used no more. -/
noncomputable def killS (M : Mem) (v : CV) : Mem := CV.asSlice M M (fun id _ _ _ _ _ => M.upd id .dead) v
theorem killS_next (M : Mem) (v : CV) : (killS M v).next = M.next := by cases v <;> rfl
theorem app_run {M : Mem} {lo es len n : Nat} {v y : CV} {xs ys : List CV} (h : Sl M lo es v len xs) (hn : 0 < n) (hy : ∀ k, firstE M es k y = k n ys) (hb : len + n ≤ 4294967296) :
    appN M es v y = .ok (.one (.c (.slice M.next 0 (len + n) (len + n) es true))) ((killS M v).new (xs ++ ys)) := by
  unfold appN
  rw [hy]
  have hn0 : Nat.beq n 0 = false := by cases n with
    | zero => omega
    | succ n => rfl
  cases h with
  | nil =>
    show br (Nat.beq n 0) _ (grow M ys n es) = _
    rw [hn0, br_f]
    unfold grow
    rw [ble_t (by omega), br_t, Nat.zero_add, List.nil_append]; rfl
  | mk id len xs hlo hH hl =>
    show app1 M es n ys id 0 len len es true = _
    unfold app1
    rw [Nat.beq_refl, br_t, ble_f (by omega), br_f]
    obtain ⟨c, hg, hc⟩ := hH
    rw [hg]
    rw [oRec_s]
    dsimp only [Blk.asCells]
    rw [br_t, Bool.true_and, hl, Nat.zero_add, Nat.beq_refl, br_t, gets_of hc (len * es) 0 (by omega)]
    rw [oRec_s]
    unfold grow
    rw [ble_t (by omega), br_t]
    rw [List.drop_zero, List.take_of_length_le (by omega)]
    rfl
theorem first_slice {M : Mem} {es id off len cap : Nat} {o : Bool} {ys : List CV} (h : M.loads id off (len * es) = some ys) (k : Nat → List CV → Out) : firstE M es k (.slice id off len cap es o) = k len ys := by
  show br (Nat.beq es es) (oRec .no (k len) (M.loads id off (len * es))) .no = _
  rw [Nat.beq_refl, br_t, h, oRec_s]
theorem wf_killS {M : Mem} (hw : M.Wf) {lo es len : Nat} {v : CV} {xs : List CV} (h : Sl M lo es v len xs) : (killS M v).Wf := by
  cases h with
  | nil => exact hw
  | mk id len xs _ hH _ => exact wf_upd hw (hH.lt hw) _
theorem get_killS {M : Mem} {lo es len : Nat} {v : CV} {xs : List CV} (h : Sl M lo es v len xs) {i : Nat} (hi : i < lo) : (killS M v).b.get i = M.b.get i := by
  cases h with
  | nil => rfl
  | mk id len xs hlo _ _ =>
    show (M.upd id .dead).b.get i = _
    rw [get_upd, if_neg (by omega)]
/-- Behind an append: the slice, and what lies below. -/
theorem sl_app {M : Mem} (hw : M.Wf) {lo es len n : Nat} {v : CV} {xs ys : List CV} (h : Sl M lo es v len xs) (hlo : lo ≤ M.next) (hy : ys.length = n * es) :
    Sl ((killS M v).new (xs ++ ys)) lo es (.slice M.next 0 (len + n) (len + n) es true) (len + n) (xs ++ ys) ∧ ((killS M v).new (xs ++ ys)).Wf ∧ ((killS M v).new (xs ++ ys)).next = M.next + 1 ∧ ∀ i, i < lo → ((killS M v).new (xs ++ ys)).b.get i = M.b.get i := by
  have hx : xs.length = len * es := by cases h with
    | nil => simp
    | mk => assumption
  have hnx := killS_next M v
  refine ⟨.mk _ _ _ hlo ?_ (by rw [List.length_append, hx, hy, Nat.add_mul]), wf_new (wf_killS hw h) _, by rw [next_new, hnx], fun i hi => ?_⟩
  · have := has_new (killS M v) (xs ++ ys)
    rwa [hnx] at this
  · rw [get_new, if_neg (by rw [hnx]; omega)]
    exact get_killS h hi
theorem Sl.other {M M' : Mem} {lo es len : Nat} {v : CV} {xs : List CV} (h : Sl M lo es v len xs) (e : ∀ i, lo ≤ i → i < M.next → M'.b.get i = M.b.get i) (hw : M.Wf) : Sl M' lo es v len xs := by
  cases h with
  | nil => exact .nil
  | mk id len xs a b c => exact .mk _ _ _ a (b.other (e id a (b.lt hw))) c
theorem Sl.lower {M : Mem} {lo lo' es len : Nat} {v : CV} {xs : List CV} (h : Sl M lo es v len xs) (hl : lo' ≤ lo) : Sl M lo' es v len xs := by
  cases h with
  | nil => exact .nil
  | mk id len xs a b c => exact .mk _ _ _ (Nat.le_trans hl a) b c

/-! Slices that may be read. -/
inductive Rd (M : Mem) (es : Nat) : CV → Nat → List CV → Prop
  | nil : Rd M es .nils 0 []
  | mk (id off len cap : Nat) (o : Bool) (xs : List CV) : len ≤ cap → xs.length = len * es → (∀ j, j < len * es → M.load id (off + j) = xs[j]?) → Rd M es (.slice id off len cap es o) len xs
theorem Sl.rd {M : Mem} {lo es len : Nat} {v : CV} {xs : List CV} (h : Sl M lo es v len xs) : Rd M es v len xs := by
  cases h with
  | nil => exact .nil
  | mk id len xs _ hH hl => exact .mk _ _ _ _ _ _ (Nat.le_refl _) hl (fun j _ => by rw [Nat.zero_add]; exact hH.load j)
theorem Rd.lenV {M M' : Mem} {es len : Nat} {v : CV} {xs : List CV} (h : Rd M es v len xs) : lenN M' v = .ok (.one (.c (.int .i64 (len : Int)))) M' := by
  cases h with
  | nil => rfl
  | mk => rfl
/-- The address of a thing. -/
theorem Rd.addr {M : Mem} {es len : Nat} {v : CV} {xs : List CV} (h : Rd M es v len xs) {i : Nat} (hi : i < len) : ∃ id off cap o, v = .slice id off len cap es o ∧ ∀ j, j < es → M.load id (off + i * es + j) = xs[i * es + j]? := by
  cases h with
  | nil => omega
  | mk id off len cap o xs hcap hl hx =>
    refine ⟨id, off, cap, o, rfl, fun j hj => ?_⟩
    have : (i + 1) * es ≤ len * es := Nat.mul_le_mul_right _ hi
    rw [Nat.add_mul] at this
    rw [Nat.add_assoc]
    exact hx (i * es + j) (by omega)
/-- A call of what is known. -/
theorem known_call {f : FuncId} {cc : CC} {nt : Nat} {res : List AV} (h : Body P f cc nt res) (ho : O f = true) (M : Mem) : (lim P O).call f [] M = .ok (.one (.c (.bool true))) M := by
  obtain ⟨c, hc, _⟩ := h
  rw [lim_call]
  unfold callA
  rw [ho, br_t, hc, oRec_s]
end
end Go.Ab
