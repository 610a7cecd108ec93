/- Each operation of the evaluator's is what the model does: more of those that leave memory alone. No condition. -/
import Derived.Test.YtelmphlmhnipfaaAbOps1
import Derived.Laws.StructEq
import Derived.Laws.Slices
namespace Go.Ab
open Go.RowKit

section
variable {P : Program} {B : Nat} {w0 w : World} {σ : Sg} {M M' : Mem} {tm : T V} {ρ : Operand → Value} {v : V}

theorem shift_sound {o : Oper} {op : BinOp} {t t' : TypeId} {x y : Operand} {x' y' : AR} (ho : o.op = .binOp op t x y t') (hop : op = .shl ∨ op = .shr) (hx : Hd σ tm ρ x) (hy : Hd σ tm ρ y)
    (ex : arOf x = some x') (ey : arOf y = some y') (hm : RM B w0 σ M w) (h : shiftE op x' y' tm M = .ok v M') :
    Okay P B w0 σ M (execOp ρ o) w v M' := by
  obtain ⟨c, hc, h⟩ := evC_ok h
  obtain ⟨k, a, rfl, h⟩ := asInt_ok h
  obtain ⟨d, hd, h⟩ := evC_ok h
  obtain ⟨l, b, rfl, h⟩ := asInt_ok h
  obtain ⟨hk, h9⟩ := br_ok' h
  clear h
  obtain ⟨z, hz, hv⟩ := okO_ok h9
  have e1 := hx.int ex hc
  have e2 := hy.int ey hd
  have hb : ¬ b < 0 := by simpa using hk
  rcases hop with rfl | rfl
  · simp only [shiftF, shlF] at hz
    simp at hz; subst hz
    refine .stayc hm (c := .int k _) ?_ (.int _ _) hv
    simp [execOp, ho, e1, e2, eqGuard, binOp, Op.shift, hb]
  · simp only [shiftF, shrF] at hz
    simp at hz; subst hz
    refine .stayc hm (c := .int k _) ?_ (.int _ _) hv
    simp [execOp, ho, e1, e2, eqGuard, binOp, Op.shift, hb]

theorem nsSame_map : ∀ (a b : List UInt8), nsSame (a.map (·.toNat)) (b.map (·.toNat)) = (a == b)
  | [], [] => rfl
  | [], _ :: _ => rfl
  | _ :: _, [] => rfl
  | x :: a, y :: b => by
    simp only [List.map_cons, nsSame, nsSame_map a b]
    have : Nat.beq x.toNat y.toNat = (x == y) := by
      rw [Bool.eq_iff_iff]; simp [Nat.beq_eq, UInt8.toNat_inj]
    rw [this]; rfl
theorem nsLess_map : ∀ (a b : List UInt8), nsLess (a.map (·.toNat)) (b.map (·.toNat)) = Op.bytesLess a b
  | [], [] => rfl
  | [], _ :: _ => rfl
  | _ :: _, [] => rfl
  | x :: a, y :: b => by
    simp only [List.map_cons, nsLess, nsLess_map a b, Op.bytesLess]
    have e1 : Nat.beq x.toNat y.toNat = (x == y) := by
      rw [Bool.eq_iff_iff]; simp [Nat.beq_eq, UInt8.toNat_inj]
    have e2 : Nat.blt x.toNat y.toNat = decide (x < y) := by
      rw [Bool.eq_iff_iff]; simp [Nat.blt_eq, UInt8.lt_iff_toNat_lt]
    rw [e1, e2]
theorem str_len {s : ByteArray} {l : List Nat} (h : s.data.toList.map (·.toNat) = l) : l.length = s.size := by
  subst h; simp

theorem sbin_sound {o : Oper} {op : BinOp} {t t' : TypeId} {x y : Operand} {x' y' : AR} (ho : o.op = .binOp op t x y t') (hop : op ≠ .shl ∧ op ≠ .shr) (hx : Hd σ tm ρ x) (hy : Hd σ tm ρ y)
    (ex : arOf x = some x') (ey : arOf y = some y') (hm : RM B w0 σ M w) (h : sbinE op x' y' tm M = .ok v M') :
    Okay P B w0 σ M (execOp ρ o) w v M' := by
  obtain ⟨c, hc, h⟩ := evC_ok h
  obtain ⟨a, rfl, h⟩ := asStr_ok h
  obtain ⟨d, hd, h⟩ := evC_ok h
  obtain ⟨b, rfl, h⟩ := asStr_ok h
  obtain ⟨z, hz, hv⟩ := okO_ok h
  clear h
  obtain ⟨s1, e1, q1⟩ := hx.str ex hc
  obtain ⟨s2, e2, q2⟩ := hy.str ey hd
  have l1 := str_len q1
  have l2 := str_len q2
  have hE : nsSame a b = (s1.toList == s2.toList) := by rw [← q1, ← q2, nsSame_map, ByteArray.toList_eq, ByteArray.toList_eq]
  have hL : nsLess a b = Op.bytesLess s1.toList s2.toList := by rw [← q1, ← q2, nsLess_map, ByteArray.toList_eq, ByteArray.toList_eq]
  have hg : (eqGuard op t x y (.string s1) (.string s2)).run P w = .ok () w := by
    unfold eqGuard
    cases op <;> rfl
  cases op <;> simp only [strF, sAddF, sEqlF, sNeqF, sLssF, sLeqF, sGtrF, sGeqF, sNoF] at hz <;> (try (simp at hz; done)) <;> (try (simp at hop; done))
  case add =>
    simp only [Bool.cond_eq_ite] at hz
    split at hz
    · rename_i hb
      simp [Nat.blt_eq] at hb hz
      subst hz
      refine .stayc hm (c := .string (s1 ++ s2)) ?_ (.str _ _ ?_) hv
      · have : ¬ ((s1.size + s2.size : Nat) : Int) > IntKind.i64.max := by
          simp [IntKind.max, IntKind.signed, IntKind.bits]; omega
        simp only [execOp, ho, e1, e2, Sem.run_bind, hg, Result.andThen_ok, binOp, Op.stringOp, if_neg this, Sem.run_pure]
      · rw [← q1, ← q2, ← List.map_append]; simp
    · simp at hz
  all_goals
    simp at hz
    subst hz
    refine .stayc hm (c := .bool _) ?_ (.bool _) hv
    simp [execOp, ho, e1, e2, hg, binOp, Op.stringOp, hE, hL]

theorem okB_ok {neg : Bool} {b : Bool} (h : okB neg M b = .ok v M') : v = .one (.c (.bool (if neg then !b else b))) ∧ M' = M := by
  have := okc_ok h
  rwa [br_eq] at this

theorem beq_sound {o : Oper} {op : BinOp} {t t' : TypeId} {x y : Operand} {x' y' : AR} {neg : Bool} (ho : o.op = .binOp op t x y t') (hop : op = if neg then .neq else .eql) (ht : P.underlying t = some .bool)
    (hx : Hd σ tm ρ x) (hy : Hd σ tm ρ y) (ex : arOf x = some x') (ey : arOf y = some y') (hm : RM B w0 σ M w) (h : beqE neg x' y' tm M = .ok v M') :
    Okay P B w0 σ M (execOp ρ o) w v M' := by
  obtain ⟨c, hc, h⟩ := evC_ok h
  obtain ⟨a, rfl, h⟩ := asBool_ok h
  obtain ⟨d, hd, h⟩ := evC_ok h
  obtain ⟨b, rfl, h⟩ := asBool_ok h
  have hv := okB_ok h
  clear h
  have e1 := hx.bool ex hc
  have e2 := hy.bool ey hd
  refine .stayc hm (c := .bool _) ?_ (.bool _) hv
  have he : (Op.equalIn 10000 t (.bool a) (.bool b)).run P w = .ok (bSame a b) w := by rw [bSame_eq]; exact run_equalIn_bool' w 9999 t a b ht
  have hne : (eqGuard op t x y (.bool a) (.bool b)).run P w = .ok () w := by
    unfold eqGuard
    cases op <;> rfl
  have hb : (binOp op t (.bool a) (.bool b)).run P w = .ok (.bool (if neg then !bSame a b else bSame a b)) w := by
    cases neg <;> simp at hop <;> subst hop <;> (simp only [binOp, Op.equal, Op.maxDepth, Sem.run_bind, he]; simp)
  simp [execOp, ho, e1, e2, hne, hb]

/-- The kind of a type that may be nil. -/
def NK.fits : NK → TypeDesc → Prop
  | .p, .pointer _ => True
  | .s, .slice _ => True
  | .m, .map _ _ => True
  | .f, .func _ _ _ => True
  | _, _ => False
theorem equal_nil {t : TypeId} {u : TypeDesc} {k : NK} (ht : P.underlying t = some u) (hu : k.fits u) {a b : CV} {r : Bool} {x y : Value} (hr : nilEq k a b = some r) (hx : RC σ a x) (hy : RC σ b y) (d : Nat) :
    (Op.equalIn (d + 1) t x y).run P w = .ok r w := by
  cases k <;> cases u <;> simp [NK.fits] at hu <;> cases hx <;> cases hy <;> simp [nilEq] at hr <;> subst hr <;> simp [Op.equalIn, run_underlying' ht]
theorem nileq_sound {o : Oper} {op : BinOp} {t t' : TypeId} {x y : Operand} {x' y' : AR} {neg : Bool} {k : NK} {u : TypeDesc} (ho : o.op = .binOp op t x y t') (hop : op = if neg then .neq else .eql)
    (ht : P.underlying t = some u) (hu : k.fits u)
    (hx : Hd σ tm ρ x) (hy : Hd σ tm ρ y) (ex : arOf x = some x') (ey : arOf y = some y') (hm : RM B w0 σ M w) (h : nileqE neg k x' y' tm M = .ok v M') :
    Okay P B w0 σ M (execOp ρ o) w v M' := by
  obtain ⟨c, hc, h⟩ := evC_ok h
  obtain ⟨d, hd, h⟩ := evC_ok h
  obtain ⟨r, hr, h9⟩ := oRec_ok h
  have hv := okB_ok h9
  clear h h9
  have e1 := hx.c ex hc
  have e2 := hy.c ey hd
  have he : (Op.equalIn 10000 t (ρ x) (ρ y)).run P w = .ok r w := equal_nil ht hu hr e1 e2 9999
  generalize hvx : ρ x = vx at *
  generalize hvy : ρ y = vy at *
  refine .stayc hm (c := .bool _) ?_ (.bool _) hv
  have hne : (eqGuard op t x y vx vy).run P w = .ok () w := by
    unfold eqGuard
    cases neg <;> simp at hop <;> subst hop <;> cases e1 <;> cases e2 <;> first | rfl | (cases k <;> simp [nilEq] at hr)
  have hb : (binOp op t vx vy).run P w = .ok (.bool (if neg then !r else r)) w := by
    cases neg <;> simp at hop <;> subst hop <;> cases e1 <;> cases e2 <;> first | (cases k <;> simp [nilEq] at hr; done) | (simp only [binOp, Op.equal, Op.maxDepth, Sem.run_bind, he]; simp)
  simp [execOp, ho, hvx, hvy, hne, hb]

/-! Flat values, held against each other. -/
def Sub (XS : List Value) (o s : Nat) (PX : List Value) : Prop := PX.length = s ∧ ∀ j, j < s → PX[j]? = XS[o + j]?
def Rep (P : Program) (XS : List Value) (t : TypeId) (o : Nat) (X : Value) : Prop :=
  (aggT P t = some true ∧ ∃ PX s, X = .agg ⟨PX⟩ ∧ szOf P t = some s ∧ Sub XS o s PX) ∨ (aggT P t = some false ∧ XS[o]? = some X)
theorem flatEq_append (l m : List (Nat × CK)) (xs ys : List CV) : flatEq (l ++ m) xs ys = (flatEq l xs ys).bind fun b => if b then flatEq m xs ys else some false := by
  induction l with
  | nil => simp [flatEq]
  | cons p l ih =>
    obtain ⟨o, k⟩ := p
    simp only [List.cons_append, flatEq, ih]
    cases xs[o]? <;> simp
    cases ys[o]? <;> simp
    rename_i x y
    cases cellEq k x y <;> simp
    rename_i b
    cases b <;> simp
theorem part_rep {PX XS : List Value} {o s n : Nat} {t : TypeId} {fo : Nat} (hs : Sub XS o s PX) (hn : szOf P t = some n) (hn0 : 0 < n) (hle : fo + n ≤ s) (hl : o + s ≤ XS.length) {g : Bool} (hg : aggT P t = some g) :
    ∃ X, (part t ⟨PX⟩ fo).run P w = .ok X w ∧ Rep P XS t (o + fo) X := by
  obtain ⟨h1, h2⟩ := hs
  cases g with
  | true =>
    refine ⟨.agg ⟨(PX.drop fo).take n⟩, ?_, .inl ⟨hg, _, n, rfl, hn, ?_, ?_⟩⟩
    · simp only [part, Sem.run_bind, run_isAgg' hg, Result.andThen_ok, if_true, run_sizeOf' hn, Sem.run_pure]
      congr 3
      simp
    · simp; omega
    · intro j hj
      rw [List.getElem?_take_of_lt hj, List.getElem?_drop, h2 _ (by omega)]; congr 1; omega
  | false =>
    have hlt : o + fo < XS.length := by omega
    have e : PX[fo]? = some XS[o + fo] := by rw [h2 _ (by omega)]; simp [hlt]
    refine ⟨XS[o + fo], ?_, .inr ⟨hg, by simp [hlt]⟩⟩
    have e2 : (⟨PX⟩ : Array Value)[fo]? = some XS[o + fo] := by simpa using e
    simp only [part, Sem.run_bind, run_isAgg' hg, Result.andThen_ok, Bool.false_eq_true, if_false, e2, Sem.run_pure]

theorem cellEq_str {s1 s2 : ByteArray} {a b : List Nat} (q1 : s1.data.toList.map (·.toNat) = a) (q2 : s2.data.toList.map (·.toNat) = b) : nsSame a b = (s1.toList == s2.toList) := by
  rw [← q1, ← q2, nsSame_map, ByteArray.toList_eq, ByteArray.toList_eq]

theorem flatT_agg {d : Nat} {t : TypeId} {o : Nat} {l : List (Nat × CK)} (h : flatT P d t o = some l) : ∃ g, aggT P t = some g := by
  cases d with
  | zero => simp [flatT] at h
  | succ d =>
    simp only [flatT, Option.bind_eq_some_iff] at h
    obtain ⟨u, hu, _⟩ := h
    exact ⟨descAgg u, by simp [aggT, hu]⟩

theorem equalIn_flat {XS YS : List Value} {xs ys : List CV} (hX : F2 (RC σ) xs XS) (hY : F2 (RC σ) ys YS) : ∀ (d : Nat) (t : TypeId) (o : Nat) (l : List (Nat × CK)), flatT P d t o = some l →
    ∀ (D : Nat), d ≤ D → ∀ (X Y : Value), Rep P XS t o X → Rep P YS t o Y → (∀ s, szOf P t = some s → aggT P t = some true → o + s ≤ XS.length ∧ o + s ≤ YS.length) → ∀ b, flatEq l xs ys = some b → (Op.equalIn D t X Y).run P w = .ok b w := by
  intro d
  induction d with
  | zero => intro t o l h; simp [flatT] at h
  | succ d ih =>
    intro t o l h D hD X Y rX rY hlen b hb
    obtain ⟨D, rfl⟩ : ∃ E, D = E + 1 := ⟨D - 1, by omega⟩
    simp only [flatT, Option.bind_eq_some_iff] at h
    obtain ⟨u, hu, h⟩ := h
    have leaf : descAgg u = false → XS[o]? = some X ∧ YS[o]? = some Y := by
      intro hd
      have ha : aggT P t = some false := by simp [aggT, hu, hd]
      constructor
      · rcases rX with ⟨g, _⟩ | ⟨_, e⟩
        · rw [ha] at g; simp at g
        · exact e
      · rcases rY with ⟨g, _⟩ | ⟨_, e⟩
        · rw [ha] at g; simp at g
        · exact e
    have two : ∀ k, flatEq [(o, k)] xs ys = some b → XS[o]? = some X → YS[o]? = some Y → ∃ x y, RC σ x X ∧ RC σ y Y ∧ cellEq k x y = some b := by
      intro k hk e1 e2
      simp only [flatEq, Option.bind_eq_some_iff] at hk
      obtain ⟨x, hx, y, hy, c, hc, hk⟩ := hk
      obtain ⟨X', e, r⟩ := forall2_get hX o x hx
      obtain ⟨Y', e', r'⟩ := forall2_get hY o y hy
      rw [e1] at e; rw [e2] at e'
      simp at e e'
      subst e e'
      refine ⟨x, y, r, r', ?_⟩
      cases c <;> simp at hk <;> subst hk <;> exact hc
    cases u <;> simp at h
    case bool =>
      subst h
      obtain ⟨e1, e2⟩ := leaf rfl
      obtain ⟨x, y, r, r', hc⟩ := two _ hb e1 e2
      cases r <;> cases r' <;> simp [cellEq] at hc
      subst hc
      rw [bSame_eq]; exact run_equalIn_bool' w D t _ _ hu
    case int =>
      subst h
      obtain ⟨e1, e2⟩ := leaf rfl
      obtain ⟨x, y, r, r', hc⟩ := two _ hb e1 e2
      cases r <;> cases r' <;> simp only [cellEq, Bool.cond_eq_ite] at hc <;> (try (simp at hc; done))
      split at hc
      · rename_i hk
        obtain rfl := kSame_eq hk
        simp at hc
        subst hc
        rw [iSame_eq]; exact run_equalIn_int w D t _ _ _ _ hu
      · simp at hc
    case string =>
      subst h
      obtain ⟨e1, e2⟩ := leaf rfl
      obtain ⟨x, y, r, r', hc⟩ := two _ hb e1 e2
      cases r with
      | str _ s1 q1 => cases r' with
        | str _ s2 q2 =>
          simp [cellEq] at hc
          subst hc
          rw [cellEq_str q1 q2]; exact run_equalIn_string w D t _ _ hu
        | _ => simp [cellEq] at hc
      | _ => cases r' <;> simp [cellEq] at hc
    case struct fs =>
      simp only [Option.bind_eq_some_iff] at h
      obtain ⟨s, hs, h⟩ := h
      simp only [Bool.cond_eq_ite] at h
      split at h
      · simp at h
      · rename_i hst
        have hst : P.stoodInHeld t = false := by simpa using hst
        have ha : aggT P t = some true := by simp [aggT, hu, descAgg]
        obtain ⟨hl1, hl2⟩ := hlen s hs ha
        have gX : ∃ PX s, X = .agg ⟨PX⟩ ∧ szOf P t = some s ∧ Sub XS o s PX := by
          rcases rX with ⟨_, g⟩ | ⟨g, _⟩
          · exact g
          · rw [ha] at g; simp at g
        have gY : ∃ PX s, Y = .agg ⟨PX⟩ ∧ szOf P t = some s ∧ Sub YS o s PX := by
          rcases rY with ⟨_, g⟩ | ⟨g, _⟩
          · exact g
          · rw [ha] at g; simp at g
        clear rX rY
        obtain ⟨PX, s1, rfl, hs1, sX⟩ := gX
        obtain ⟨PY, s2, rfl, hs2, sY⟩ := gY
        rw [hs] at hs1 hs2
        simp at hs1 hs2
        subst hs1 hs2
        have hfo : P.fieldsOf t = fs := by simp [Program.fieldsOf, hu]
        rw [run_equalIn_struct w D t ⟨PX⟩ ⟨PY⟩ (by rw [hfo]; exact hu) hst, hfo]
        generalize fs.toList = L at h
        clear hfo hu leaf two
        induction L generalizing l b with
        | nil => simp [flatFs] at h; subst h; simp [flatEq] at hb; subst hb; rfl
        | cons f L ihL =>
          simp only [flatFs, Option.bind_eq_some_iff, Bool.cond_eq_ite] at h
          obtain ⟨n, hn, h⟩ := h
          split at h
          · simp at h
          · rename_i hc
            simp only [Option.bind_eq_some_iff] at h
            obtain ⟨l1, hl1', l2, hl2', h⟩ := h
            simp at h
            subst h
            simp only [Bool.or_eq_true, not_or, Bool.not_eq_true, Bool.not_eq_eq_eq_not] at hc
            obtain ⟨hname, hc⟩ := hc
            have hn0 : 0 < n ∧ f.offset + n ≤ s := by simpa [Nat.blt_eq] using hc
            have hname : f.name ≠ "_" := by simpa using hname
            obtain ⟨g, hg⟩ := flatT_agg hl1'
            obtain ⟨X1, hX1, rX1⟩ := part_rep (P := P) (w := w) sX hn hn0.1 hn0.2 hl1 hg
            obtain ⟨Y1, hY1, rY1⟩ := part_rep (P := P) (w := w) sY hn hn0.1 hn0.2 hl2 hg
            rw [flatEq_append] at hb
            simp only [Option.bind_eq_some_iff] at hb
            obtain ⟨b1, hb1, hb⟩ := hb
            have hE := ih f.type (o + f.offset) l1 hl1' D (by omega) X1 Y1 rX1 rY1 (fun s' hs' _ => by
              rw [hn] at hs'; simp at hs'; subst hs'; omega) b1 hb1
            simp only [Op.eqFields, if_pos hname, Sem.run_bind, hX1, hY1, hE, Result.andThen_ok]
            cases b1 with
            | false => simp at hb; subst hb; simp
            | true => simp at hb ⊢; exact ihL l2 b hb hl2'

theorem ageq_sound {o : Oper} {op : BinOp} {t t' : TypeId} {x y : Operand} {x' y' : AR} {neg : Bool} {s : Nat} {l : List (Nat × CK)} (ho : o.op = .binOp op t x y t') (hop : op = if neg then .neq else .eql)
    (hg : P.eqGuardType P.depth t = false) (hs : szOf P t = some s) (hl : flatT P 20 t 0 = some l) (ha : aggT P t = some true)
    (hx : Hd σ tm ρ x) (hy : Hd σ tm ρ y) (ex : arOf x = some x') (ey : arOf y = some y') (hm : RM B w0 σ M w) (h : ageqE neg s l x' y' tm M = .ok v M') :
    Okay P B w0 σ M (execOp ρ o) w v M' := by
  obtain ⟨u, hu, h⟩ := oRec_ok h
  obtain ⟨xs, rfl, h⟩ := asAgg_ok h
  obtain ⟨u', hu', h⟩ := oRec_ok h
  obtain ⟨ys, rfl, h⟩ := asAgg_ok h
  obtain ⟨hb, h⟩ := br_ok h
  obtain ⟨r, hr, h9⟩ := oRec_ok h
  have hv := okB_ok h9
  clear h h9
  obtain ⟨XS, eX, fX⟩ := hx.agg ex hu
  obtain ⟨YS, eY, fY⟩ := hy.agg ey hu'
  simp at hb
  have lX := forall2_length fX
  have lY := forall2_length fY
  have he : (Op.equalIn 10000 t (.agg ⟨XS⟩) (.agg ⟨YS⟩)).run P w = .ok r w :=
    equalIn_flat fX fY 20 t 0 l hl 10000 (by omega) _ _ (.inl ⟨ha, XS, s, rfl, hs, by omega, fun j _ => by simp⟩) (.inl ⟨ha, YS, s, rfl, hs, by omega, fun j _ => by simp⟩)
      (fun s' hs' _ => by rw [hs] at hs'; simp at hs'; subst hs'; omega) r hr
  refine .stayc hm (c := .bool _) ?_ (.bool _) hv
  have hne := run_eqGuard_agg (P := P) w op t x y ⟨XS⟩ ⟨YS⟩ hg
  cases neg <;> simp at hop <;> subst hop
  · simp only [execOp, ho, eX, eY, Sem.run_bind, hne, Result.andThen_ok, run_eql_struct, he]; simp
  · simp only [execOp, ho, eX, eY, Sem.run_bind, hne, Result.andThen_ok, run_neq_struct, he]; simp
end
end Go.Ab
