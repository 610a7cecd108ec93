/- Equations for rewriting: what the operations and the compiled code come to, step by step. No condition. -/
import Derived.Test.YtelmphlmhnipfaaAbComp
namespace Go.Ab
theorem nr {p : Prop} (h : p) : p := h
theorem br_t {β : Type} (x y : β) : br true x y = x := nr rfl
theorem br_f {β : Type} (x y : β) : br false x y = y := nr rfl
theorem oRec_n {α β : Type} (d : β) (k : α → β) : oRec d k none = d := nr rfl
theorem oRec_s {α β : Type} (d : β) (k : α → β) (a : α) : oRec d k (some a) = k a := nr rfl

section
variable (L : Rec) (nt : Nat) (rnd : Option Nat) (tm : T V) (mk : List Nat) (M : Mem)
/-- What follows. (A name of its own: rewriting does not look in.) -/
noncomputable def opsN (l : List CO) (L : Rec) (d : Option Nat) (tm : T V) (v : V) (M : Mem) : St := opsE l L (putD d v tm) M
theorem opsN_eq (l : List CO) (d : Option Nat) (v : V) : opsN l L d tm v M = opsE l L (putD d v tm) M := nr rfl
noncomputable def goN (L : Rec) (nt : Nat) (rnd : Option Nat) (b : CC) (tm : T V) (mk : List Nat) (M : Mem) : Rn := run L nt rnd b tm mk M
theorem goN_eq (b : CC) : goN L nt rnd b tm mk M = run L nt rnd b tm mk M := nr rfl
noncomputable def condN (L : Rec) (nt : Nat) (rnd : Option Nat) (a b : CC) (tm : T V) (mk : List Nat) (M : Mem) (c : CV) : Rn := CV.asBool .no (fun t => br t (run L nt rnd a tm mk M) (run L nt rnd b tm mk M)) c
theorem condN_eq (a b : CC) (t : Bool) : condN L nt rnd a b tm mk M (.bool t) = br t (goN L nt rnd a tm mk M) (goN L nt rnd b tm mk M) := nr rfl
noncomputable def drawN (ms : List Nat) (r : List DI) (L : Rec) (last : Option Nat) (wl : List (DI × T V × V)) (d : Option Nat) (tm : T V) (v : V) (M : Mem) : St := drawD L ms r last wl (putD d v tm) M
theorem drawN_eq (ms : List Nat) (r : List DI) (last : Option Nat) (wl : List (DI × T V × V)) (d : Option Nat) (v : V) : drawN ms r L last wl d tm v M = drawD L ms r last wl (putD d v tm) M := nr rfl
noncomputable def drawM (ms : List Nat) (r : List DI) (L : Rec) (last : Option Nat) (wl : List (DI × T V × V)) (p : DI) (d : Option Nat) (tm : T V) (v : V) (M : Mem) : St := drawD L ms r last (br (is1 v) ((p, tm, v) :: wl) wl) (putD d v tm) M
theorem drawM_eq (ms : List Nat) (r : List DI) (last : Option Nat) (wl : List (DI × T V × V)) (p : DI) (d : Option Nat) (v : V) : drawM ms r L last wl p d tm v M = drawD L ms r last (br (is1 v) ((p, tm, v) :: wl) wl) (putD d v tm) M := nr rfl
theorem run_seq (a b : CC) : run L nt rnd (.seq a b) tm mk M = (run L nt rnd a tm mk M).andThen (goN L nt rnd b) := nr rfl
theorem run_ops (l : List CO) : run L nt rnd (.ops l) tm mk M = (opsE l L tm M).done mk := nr rfl
theorem run_draw (ms : List Nat) (l : List DI) : run L nt rnd (.draw ms l) tm mk M = (drawD L ms l none [] tm M).done mk := nr rfl
theorem run_cond (x : AR) (a b : CC) : run L nt rnd (.cond x a b) tm mk M = evC Rn.no (condN L nt rnd a b tm mk M) x tm := nr rfl
theorem run_ret : run L nt rnd .ret tm mk M = .rt tm mk M := nr rfl
theorem run_skip : run L nt rnd .skip tm mk M = .nx tm mk M := nr rfl
theorem run_exit (id : Nat) : run L nt rnd (.exit id) tm mk M = .ex id tm mk M := nr rfl
theorem run_block (id : Nat) (c : CC) : run L nt rnd (.block id c) tm mk M = (run L nt rnd c tm mk M).catch id := nr rfl
theorem run_loop (c0 : Code) (c : CC) : run L nt rnd (.loop c0 c) tm mk M = (run L nt rnd c tm mk M).andThen fun tm mk M => L.code (.loop c0) rnd nt tm mk M := nr rfl
theorem run_range (g : AR) (ps : List Tmp) (asg body : Code) : run L nt rnd (.range g ps asg body) tm mk M = rangeA L rnd g ps asg body nt tm mk M := nr rfl

theorem ops_nil : opsE [] L tm M = .ok tm M := nr rfl
theorem ops_cons (c : CO) (l : List CO) : opsE (c :: l) L tm M = Out.bind .no (opsN l L c.dst tm) (c.ev L tm M) := nr rfl
theorem draw_nil (ms : List Nat) (last : Option Nat) (wl : List (DI × T V × V)) : drawD L ms [] last wl tm M = br (again' ms last M wl) (.ok tm M) .no := nr rfl
theorem draw_eff (ms : List Nat) (i : Nat) (c : CO) (r : List DI) (last : Option Nat) (wl : List (DI × T V × V)) :
    drawD L ms (⟨i, .eff, c⟩ :: r) last wl tm M = br (again' ms last M wl) (Out.bind .no (drawN ms r L (some i) wl c.dst tm) (c.ev L tm M)) .no := by rw [drawD]; rfl
theorem draw_read (ms : List Nat) (i : Nat) (c : CO) (r : List DI) (last : Option Nat) (wl : List (DI × T V × V)) :
    drawD L ms (⟨i, .read, c⟩ :: r) last wl tm M = Out.bind .no (drawM ms r L last wl ⟨i, .read, c⟩ c.dst tm) (c.ev L tm M) := by rw [drawD]; rfl
theorem draw_pure (ms : List Nat) (i : Nat) (c : CO) (r : List DI) (last : Option Nat) (wl : List (DI × T V × V)) :
    drawD L ms (⟨i, .pure, c⟩ :: r) last wl tm M = Out.bind .no (drawN ms r L last wl c.dst tm) (c.ev L tm M) := by rw [drawD]; rfl
theorem draw_alloc (ms : List Nat) (i : Nat) (c : CO) (r : List DI) (last : Option Nat) (wl : List (DI × T V × V)) :
    drawD L ms (⟨i, .alloc, c⟩ :: r) last wl tm M = Out.bind .no (drawN ms r L last wl c.dst tm) (c.ev L tm M) := by rw [drawD]; rfl
theorem again_nil (ms : List Nat) (last : Option Nat) : again' ms last M [] = true := nr rfl
theorem again_cons (ms : List Nat) (last : Option Nat) (i : Nat) (k : Kind) (g : Option (Nat × Bool)) (d : Option Nat) (x : AX) (v : V) (r : List (DI × T V × V)) :
    again' ms last M ((⟨i, k, ⟨g, d, x⟩⟩, tm, v) :: r) = br (br (oRec false (fun e => anc ms e i) last) true (Out.bind false (fun u _ => V.same u v) (x.ev ⟨fun _ _ _ _ _ _ => .no, fun _ _ _ => .no, fun _ _ _ => .no⟩ tm M))) (again' ms last M r) false := nr rfl
theorem is1_one (v : V1) : is1 (.one v) = true := nr rfl

theorem bind_ok' {β : Type} (d : β) (k : V → Mem → β) (v : V) : Out.bind d k (.ok v M) = k v M := nr rfl
theorem bind_no' {β : Type} (d : β) (k : V → Mem → β) : Out.bind d k .no = d := nr rfl
theorem co_none (d : Option Nat) (x : AX) : CO.ev ⟨none, d, x⟩ L tm M = x.ev L tm M := nr rfl
theorem co_some (p : Nat × Bool) (d : Option Nat) (x : AX) : CO.ev ⟨some p, d, x⟩ L tm M = oRec .no (fun v => br (V.asC false (CV.asBool false (bSame p.2)) v) (x.ev L tm M) (.ok .undef M)) (tm.get p.1) := by
  show oRec Out.no _ (oRec none _ (tm.get p.1)) = _
  cases tm.get p.1 <;> rfl
theorem ax_op (a : AOp) : AX.ev (.op a) L tm M = a.ev tm M := nr rfl
theorem ax_call (f : AR) (args : List AR) : AX.ev (.call f args) L tm M = evC .no (CV.asFn .no (fun g caps => oRec .no (fun xs => L.call g (xs ++ caps.map capV) M) (evs args tm)) (fun l => oRec .no (fun xs => L.round l xs M) (evs args tm))) f tm := nr rfl
theorem evs_nil : evs [] tm = some [] := nr rfl
theorem evs_cons (x : AR) (l : List AR) : evs (x :: l) tm = ev1 none (fun v => (evs l tm).bind fun vs => some (v :: vs)) x tm := nr rfl
theorem evps_nil : evps [] tm = some [] := nr rfl
theorem evps_cons (x : AR) (l : List AR) : evps (x :: l) tm = evC none (CV.asPtr none fun a b => (evps l tm).bind fun vs => some ((a, b) :: vs)) x tm := nr rfl
theorem evC_t {β : Type} (d : β) (k : CV → β) (n : Nat) : evC d k (.t n) tm = oRec d (V.asC d k) (tm.get n) := nr rfl
theorem evC_v {β : Type} (d : β) (k : CV → β) (c : CV) : evC d k (.v (.c c)) tm = k c := nr rfl
theorem ev1_t {β : Type} (d : β) (k : V1 → β) (n : Nat) : ev1 d k (.t n) tm = oRec d (V.as1 d k) (tm.get n) := nr rfl
theorem ev1_v {β : Type} (d : β) (k : V1 → β) (c : V1) : ev1 d k (.v c) tm = k c := nr rfl
theorem ev_t (n : Nat) : AR.ev (.t n) tm = tm.get n := nr rfl
theorem ev_v (x : V1) : AR.ev (.v x) tm = some (.one x) := nr rfl
theorem asC_c {β : Type} (d : β) (k : CV → β) (c : CV) : V.asC d k (.one (.c c)) = k c := nr rfl
theorem asC_u {β : Type} (d : β) (k : CV → β) : V.asC d k .undef = d := nr rfl
theorem as1_o {β : Type} (d : β) (k : V1 → β) (c : V1) : V.as1 d k (.one c) = k c := nr rfl
theorem asAgg_a {β : Type} (d : β) (k : List CV → β) (c : List CV) : V.asAgg d k (.one (.agg c)) = k c := nr rfl
theorem asBool_b {β : Type} (d : β) (k : Bool → β) (c : Bool) : CV.asBool d k (.bool c) = k c := nr rfl
theorem asInt_i {β : Type} (d : β) (k : IntKind → Int → β) (i : IntKind) (n : Int) : CV.asInt d k (.int i n) = k i n := nr rfl
theorem asStr_s {β : Type} (d : β) (k : List Nat → β) (s : List Nat) : CV.asStr d k (.str s) = k s := nr rfl
theorem asPtr_p {β : Type} (d : β) (k : Nat → Nat → β) (i n : Nat) : CV.asPtr d k (.ptr i n) = k i n := nr rfl
theorem asSlice_s {β : Type} (d e : β) (k : Nat → Nat → Nat → Nat → Nat → Bool → β) (a b c x f : Nat) (g : Bool) : CV.asSlice d e k (.slice a b c x f g) = k a b c x f g := nr rfl
theorem asSlice_n {β : Type} (d e : β) (k : Nat → Nat → Nat → Nat → Nat → Bool → β) : CV.asSlice d e k .nils = e := nr rfl
theorem asFn_f {β : Type} (d : β) (k : FuncId → List (Nat × Nat) → β) (y : Nat → β) (f : FuncId) (c : List (Nat × Nat)) : CV.asFn d k y (.fn f c) = k f c := nr rfl
theorem asFn_y {β : Type} (d : β) (k : FuncId → List (Nat × Nat) → β) (y : Nat → β) (l : Nat) : CV.asFn d k y (.yld l) = y l := nr rfl
theorem okV_s (v : V) : okV (some v) M = .ok v M := nr rfl
theorem okc_eq (x : CV) : okc x M = .ok (.one (.c x)) M := nr rfl
theorem okO_s (x : CV) : okO (some x) M = .ok (.one (.c x)) M := nr rfl
theorem okB_f (b : Bool) : okB false M b = .ok (.one (.c (.bool b))) M := nr rfl
theorem okB_t (b : Bool) : okB true M b = .ok (.one (.c (.bool !b))) M := nr rfl
theorem putD_s (n : Nat) (v : V) : putD (some n) v tm = tm.set n v := nr rfl
theorem putD_n (v : V) : putD none v tm = tm := nr rfl

theorem op_mv (x : AR) : AOp.ev (.mv x) tm M = okV (x.ev tm) M := nr rfl
theorem op_pick (c a b : AR) : AOp.ev (.pick c a b) tm M = evC .no (CV.asBool .no fun t => okV ((br t a b).ev tm) M) c tm := nr rfl
theorem op_alloc (z : List CV) : AOp.ev (.alloc z) tm M = .ok (.one (.c (.ptr M.next 0))) (M.new z) := nr rfl
theorem op_box (x : AR) : AOp.ev (.box x) tm M = ev1 .no (fun v => .ok (.one (.c (.ptr M.next 0))) (M.new v.cells)) x tm := nr rfl
theorem op_build (z : List CV) (ps : List (Nat × Nat × AR)) : AOp.ev (.build z ps) tm M = oRec .no (fun cs => .ok (.one (.agg cs)) M) (fillE ps tm z) := nr rfl
theorem op_bslice (s len : Nat) (z : List CV) (ps : List (Nat × Nat × AR)) : AOp.ev (.bslice s len z ps) tm M = oRec .no (fun cs => .ok (.one (.c (.slice M.next 0 len len s false))) (M.new cs)) (fillE ps tm (repA z len)) := nr rfl
theorem op_mkslice (s b : Nat) (z : List CV) (l c : AR) : AOp.ev (.mkslice s b z l c) tm M =   evC .no (CV.asInt .no fun _ l => oRec .no (fun l => evC .no (CV.asInt .no fun _ c => oRec .no (fun c =>
    br (Nat.ble l c && Nat.ble (c * b) 4294967296 && Nat.ble c 4294967296) (.ok (.one (.c (.slice M.next 0 l c s false))) (M.new (repA z c))) .no) (natOf c)) c tm) (natOf l)) l tm := nr rfl
theorem op_ld1 (x : AR) : AOp.ev (.ld1 x) tm M = evC .no (CV.asPtr .no fun id off => okO (M.load id off) M) x tm := nr rfl
theorem op_ldn (s : Nat) (x : AR) : AOp.ev (.ldn s x) tm M = evC .no (CV.asPtr .no fun id off => oRec .no (fun l => .ok (.one (.agg l)) M) (M.loads id off s)) x tm := nr rfl
theorem op_st (s : Nat) (a x : AR) : AOp.ev (.st s a x) tm M = evC .no (CV.asPtr .no fun id off => ev1 .no (fun y => br (Nat.beq y.cells.length s) (oRec .no (fun M' => .ok .undef M') (M.stores id off y.cells)) .no) x tm) a tm := nr rfl
/-- Not nil. -/
noncomputable def nilOk (M : Mem) (v : CV) : Out := CV.rec (motive := fun _ => Out) (fun _ => .no) (fun _ _ => .no) (fun _ => .no) (fun _ _ => okc v M) .no (fun _ _ _ _ _ _ => .no) .no (fun _ _ => okc v M) (fun _ => okc v M) .no .no (fun _ => .no) .no v
theorem op_nilck (x : AR) : AOp.ev (.nilck x) tm M = evC .no (nilOk M) x tm := nr rfl
theorem nilOk_p (a b : Nat) : nilOk M (.ptr a b) = .ok (.one (.c (.ptr a b))) M := nr rfl
theorem nilOk_f (f : FuncId) (c : List (Nat × Nat)) : nilOk M (.fn f c) = .ok (.one (.c (.fn f c))) M := nr rfl
theorem nilOk_y (l : Nat) : nilOk M (.yld l) = .ok (.one (.c (.yld l))) M := nr rfl
theorem op_ibin (op : BinOp) (x y : AR) : AOp.ev (.ibin op x y) tm M = evC .no (CV.asInt .no fun k a => evC .no (CV.asInt .no fun l b => br (kSame k l) (okO (intF op k a b) M) .no) y tm) x tm := nr rfl
theorem op_shift (op : BinOp) (x y : AR) : AOp.ev (.shift op x y) tm M = evC .no (CV.asInt .no fun k a => evC .no (CV.asInt .no fun _ b => br (decide (b < 0)) .no (okO (shiftF op k a b) M)) y tm) x tm := nr rfl
theorem op_sbin (op : BinOp) (x y : AR) : AOp.ev (.sbin op x y) tm M = evC .no (CV.asStr .no fun a => evC .no (CV.asStr .no fun b => okO (strF op a b) M) y tm) x tm := nr rfl
theorem op_beq (neg : Bool) (x y : AR) : AOp.ev (.beq neg x y) tm M = evC .no (CV.asBool .no fun a => evC .no (CV.asBool .no fun b => okB neg M (bSame a b)) y tm) x tm := nr rfl
theorem op_nileq (n : Bool) (k : NK) (x y : AR) : AOp.ev (.nileq n k x y) tm M = evC .no (fun a => evC .no (fun b => oRec .no (okB n M) (nilEq k a b)) y tm) x tm := nr rfl
theorem op_ageq (neg : Bool) (s : Nat) (l : List (Nat × CK)) (x y : AR) : AOp.ev (.ageq neg s l x y) tm M =
  oRec .no (V.asAgg .no fun a => oRec .no (V.asAgg .no fun b => br (Nat.beq a.length s && Nat.beq b.length s) (oRec .no (okB neg M) (flatEq l a b)) .no) (y.ev tm)) (x.ev tm) := nr rfl
theorem op_ineg (x : AR) : AOp.ev (.ineg x) tm M = evC .no (CV.asInt .no fun k n => .ok (.one (.c (negF k n))) M) x tm := nr rfl
theorem op_bnot (x : AR) : AOp.ev (.bnot x) tm M = evC .no (CV.asBool .no fun b => .ok (.one (.c (.bool !b))) M) x tm := by
  show evC .no (CV.asBool .no fun b => okc (.bool (br b false true)) M) x tm = _
  congr 2; funext b; cases b <;> rfl
theorem op_i2i (k : IntKind) (x : AR) : AOp.ev (.i2i k x) tm M = evC .no (CV.asInt .no fun _ n => .ok (.one (.c (.int k (k.wrap n)))) M) x tm := nr rfl
theorem op_s2s (x : AR) : AOp.ev (.s2s x) tm M = evC .no (CV.asStr .no fun s => .ok (.one (.c (.str s))) M) x tm := nr rfl
theorem op_s2b (x : AR) : AOp.ev (.s2b x) tm M = evC .no (CV.asStr .no fun s => .ok (.one (.c (.slice M.next 0 s.length s.length 1 true))) (M.new (bytesOf s))) x tm := nr rfl
theorem op_b2s (x : AR) : AOp.ev (.b2s x) tm M = evC .no (CV.asSlice .no (.ok (.one (.c (.str []))) M) fun id off len _ es _ => br (Nat.beq es 1) (oRec .no (fun l => oRec .no (fun b => .ok (.one (.c (.str b))) M) (bytesBack l)) (M.loads id off len)) .no) x tm := nr rfl
theorem op_mkfn (f : FuncId) (caps : List AR) : AOp.ev (.mkfn f caps) tm M = oRec .no (fun cs => .ok (.one (.c (.fn f cs))) M) (evps caps tm) := nr rfl
theorem op_slS (x : AR) (lo hi : Option AR) : AOp.ev (.slS x lo hi) tm M = evC .no (CV.asStr .no fun s => bnd (fun h => bnd (fun l => .ok (.one (.c (.str ((s.drop l).take (h - l))))) M) lo 0 h tm) hi s.length s.length tm) x tm := nr rfl
theorem op_slV (es : Nat) (x : AR) (lo hi mx : Option AR) : AOp.ev (.slV es x lo hi mx) tm M =
  evC .no (CV.asSlice .no (br mx.isSome .no (bnd (fun h => bnd (fun _ => okc .nils M) lo 0 h tm) hi 0 0 tm)) fun id off len cap es' opn =>
    br (Nat.beq es es' && !(mx.isSome && (hi.isNone || (opn && Nat.beq cap 0)))) (bnd (fun m => bnd (fun h => br (Nat.ble h m) (bnd (fun l =>
      okc (.slice id (br (Nat.beq m l && (mx.isSome || !opn)) off (off + l * es)) (h - l) (m - l) es (opn && !mx.isSome)) M) lo 0 h tm) .no) hi len m tm) mx cap cap tm) .no) x tm := nr rfl
theorem op_faddr (o : Nat) (x : AR) : AOp.ev (.faddr o x) tm M = evC .no (CV.asPtr .no fun id off => .ok (.one (.c (.ptr id (off + o)))) M) x tm := nr rfl
theorem op_fld1 (o : Nat) (x : AR) : AOp.ev (.fld1 o x) tm M = oRec .no (V.asAgg .no fun cs => okO (cs[o]?) M) (x.ev tm) := nr rfl
theorem op_fldn (o s : Nat) (x : AR) : AOp.ev (.fldn o s x) tm M = oRec .no (V.asAgg .no fun cs => celln cs o s M) (x.ev tm) := nr rfl
theorem op_iaddrA (len s : Nat) (x i : AR) : AOp.ev (.iaddrA len s x i) tm M = evC .no (CV.asPtr .no fun id off => nat' (fun i => br (Nat.blt i len) (.ok (.one (.c (.ptr id (off + i * s)))) M) .no) i tm) x tm := nr rfl
theorem op_iaddrS (s : Nat) (x i : AR) : AOp.ev (.iaddrS s x i) tm M = evC .no (CV.asSlice .no .no fun id off len _ es _ => nat' (fun i => br (Nat.blt i len && Nat.beq s es) (.ok (.one (.c (.ptr id (off + i * s)))) M) .no) i tm) x tm := nr rfl
theorem op_idx1 (len s : Nat) (x i : AR) : AOp.ev (.idx1 len s x i) tm M = oRec .no (V.asAgg .no fun cs => nat' (fun i => br (Nat.blt i len) (okO (cs[i * s]?) M) .no) i tm) (x.ev tm) := nr rfl
theorem op_idxS (x i : AR) : AOp.ev (.idxS x i) tm M = evC .no (CV.asStr .no fun s => nat' (fun j => oRec .no (fun (b : Nat) => .ok (.one (.c (.int .u8 (b : Int)))) M) (s[j]?)) i tm) x tm := nr rfl
theorem op_ext (i : Nat) (x : AR) : AOp.ev (.ext i x) tm M = oRec .no (V.rec (motive := fun _ => Out) (fun _ => .no) (fun vs => oRec .no (fun y => .ok (.one y) M) (vs[i]?)) .no) (x.ev tm) := nr rfl
theorem op_lenS (x : AR) : AOp.ev (.len true x) tm M = evC .no (CV.asStr .no fun s => .ok (.one (.c (.int .i64 (s.length : Int)))) M) x tm := nr rfl
/-- A slice's length. -/
noncomputable def lenN (M : Mem) (v : CV) : Out := CV.asSlice .no (.ok (.one (.c (.int .i64 0))) M) (fun _ _ n _ _ _ => .ok (.one (.c (.int .i64 (n : Int)))) M) v
theorem lenN_s (id off len cap es : Nat) (o : Bool) : lenN M (.slice id off len cap es o) = .ok (.one (.c (.int .i64 (len : Int)))) M := nr rfl
theorem lenN_n : lenN M .nils = .ok (.one (.c (.int .i64 0))) M := nr rfl
theorem op_lenV (x : AR) : AOp.ev (.len false x) tm M = evC .no (lenN M) x tm := nr rfl
/-- An append, its first thing known; both known. -/
noncomputable def appN (M : Mem) (s : Nat) (a y : CV) : Out := firstE M s (fun n new => CV.asSlice .no (br (Nat.beq n 0) (okc .nils M) (grow M new n s)) (app1 M s n new) a) y
noncomputable def appA (s : Nat) (y : AR) (tm : T V) (M : Mem) (a : CV) : Out := evC .no (appN M s a) y tm
theorem appA_eq (s : Nat) (y : AR) (a : CV) : appA s y tm M a = evC .no (appN M s a) y tm := nr rfl
theorem op_app (s b : Nat) (x y : AR) : AOp.ev (.app s b x y) tm M = evC .no (appA s y tm M) x tm := nr rfl
theorem op_cpy (s : Nat) (x y : AR) : AOp.ev (.cpy s x y) tm M =   evC .no (fun a => evC .no (firstE M s fun n new =>
    CV.asSlice .no (okc (.int .i64 0) M) (fun id off len _ es _ => br (Nat.beq s es)
      (oRec .no (fun M' => okc (.int .i64 (Int.ofNat (Nat.min n len))) M') (M.stores id off (new.take (Nat.min n len * s)))) .no) a) y tm) x tm := nr rfl
theorem op_min (x y : AR) : AOp.ev (.min x y) tm M = evC .no (CV.asInt .no fun k a => evC .no (CV.asInt .no fun _ b => .ok (.one (.c (.int k (br (decide (b < a)) b a)))) M) y tm) x tm := nr rfl
theorem ext_tup (d : Out) (k1 : V1 → Out) (k : List V1 → Out) (vs : List V1) : (V.rec (motive := fun _ => Out) k1 k d (.tup vs) : Out) = k vs := nr rfl
theorem fill_nil (cs : List CV) : fillE [] tm cs = some cs := nr rfl
theorem fill_cons (o s : Nat) (x : AR) (r : List (Nat × Nat × AR)) (cs : List CV) : fillE ((o, s, x) :: r) tm cs = ev1 none (fun v => br (Nat.beq v.cells.length s && Nat.ble (o + s) cs.length) (fillE r tm (putAt cs o v.cells)) none) x tm := nr rfl
theorem repA_z (z : List CV) : repA z 0 = [] := nr rfl
theorem repA_s (z : List CV) (n : Nat) : repA z (n + 1) = z ++ repA z n := nr rfl
theorem putAt_e (l : List CV) (n : Nat) : putAt l n [] = l := by cases l <;> cases n <;> rfl
theorem putAt_z (y x : CV) (r xs : List CV) : putAt (y :: r) 0 (x :: xs) = x :: putAt r 0 xs := nr rfl
theorem putAt_s (y x : CV) (r xs : List CV) (i : Nat) : putAt (y :: r) (i + 1) (x :: xs) = y :: putAt r i (x :: xs) := nr rfl
theorem cells_c (x : CV) : V1.cells (.c x) = [x] := nr rfl
theorem cells_a (x : List CV) : V1.cells (.agg x) = x := nr rfl
theorem celln_eq (cs : List CV) (o s : Nat) : celln cs o s M = br (Nat.ble (o + s) cs.length) (.ok (.one (.agg ((cs.drop o).take s))) M) .no := nr rfl
theorem nat_eq (k : Nat → Out) (i : AR) : nat' k i tm = evC .no (CV.asInt .no fun _ n => oRec .no k (natOf n)) i tm := nr rfl
theorem bnd_n (k : Nat → Out) (d t : Nat) : bnd k none d t tm = k d := nr rfl
theorem bnd_s (k : Nat → Out) (o : AR) (d t : Nat) : bnd k (some o) d t tm = evC .no (CV.asInt .no fun _ n => oRec .no (fun n => br (Nat.ble n t) (k n) .no) (natOf n)) o tm := nr rfl
theorem natOf_n (n : Nat) : natOf (n : Int) = some n := nr rfl
theorem natOf_t (n : Int) (h : 0 ≤ n) : natOf n = some n.toNat := by cases n with
  | ofNat n => rfl
  | negSucc n => omega

theorem kSame_self (k : IntKind) : kSame k k = true := by cases k <;> rfl
theorem bSame_t (b : Bool) : bSame true b = b := by cases b <;> rfl
theorem bSame_f (b : Bool) : bSame false b = !b := by cases b <;> rfl
theorem bSame_self (b : Bool) : bSame b b = true := by cases b <;> rfl
theorem iSame_dec (a b : Int) : iSame a b = decide (a = b) := by
  rw [Bool.eq_iff_iff, decide_eq_true_iff]
  cases a <;> cases b <;> simp [iSame] <;> omega
theorem nsSame_dec : ∀ (a b : List Nat), nsSame a b = decide (a = b)
  | [], [] => rfl
  | [], _ :: _ => rfl
  | _ :: _, [] => rfl
  | a :: r, b :: s => by
    simp only [nsSame, nsSame_dec r s]
    rw [Bool.eq_iff_iff]; simp
theorem int_add (k : IntKind) (a b : Int) : intF .add k a b = some (.int k (k.wrap (a + b))) := nr rfl
theorem int_sub (k : IntKind) (a b : Int) : intF .sub k a b = some (.int k (k.wrap (a - b))) := nr rfl
theorem int_mul (k : IntKind) (a b : Int) : intF .mul k a b = some (.int k (k.wrap (a * b))) := nr rfl
theorem int_eql (k : IntKind) (a b : Int) : intF .eql k a b = some (.bool (decide (a = b))) := by show some (CV.bool (iSame a b)) = _; rw [iSame_dec]
theorem int_neq (k : IntKind) (a b : Int) : intF .neq k a b = some (.bool (!decide (a = b))) := by show some (CV.bool (!iSame a b)) = _; rw [iSame_dec]
theorem int_lss (k : IntKind) (a b : Int) : intF .lss k a b = some (.bool (decide (a < b))) := nr rfl
theorem int_leq (k : IntKind) (a b : Int) : intF .leq k a b = some (.bool (decide (a ≤ b))) := nr rfl
theorem int_gtr (k : IntKind) (a b : Int) : intF .gtr k a b = some (.bool (decide (b < a))) := nr rfl
theorem int_geq (k : IntKind) (a b : Int) : intF .geq k a b = some (.bool (decide (b ≤ a))) := nr rfl
theorem int_and (k : IntKind) (a b : Int) : intF .and k a b = andF k a b := nr rfl
theorem int_or (k : IntKind) (a b : Int) : intF .or k a b = orF k a b := nr rfl
theorem int_xor (k : IntKind) (a b : Int) : intF .xor k a b = xorF k a b := nr rfl
theorem int_rem (k : IntKind) (a b : Int) (h : b ≠ 0) : intF .rem k a b = some (.int k (a.tmod b)) := by
  show br (iSame b 0) none _ = _
  rw [iSame_dec, decide_eq_false h]; rfl
theorem int_quo (k : IntKind) (a b : Int) (h : b ≠ 0) : intF .quo k a b = some (.int k (k.wrap (a.tdiv b))) := by
  show br (iSame b 0) none _ = _
  rw [iSame_dec, decide_eq_false h]; rfl
theorem sh_shl (k : IntKind) (a b : Int) : shiftF .shl k a b = some (.int k (k.wrap (a * 2 ^ (min b.toNat k.bits)))) := nr rfl
theorem sh_shr (k : IntKind) (a b : Int) : shiftF .shr k a b = some (.int k (a.fdiv (2 ^ (min b.toNat k.bits)))) := nr rfl
theorem str_add (a b : List Nat) (h : a.length + b.length < 4294967296) : strF .add a b = some (.str (a ++ b)) := by
  show cond (Nat.blt (a.length + b.length) 4294967296) _ none = _
  have : Nat.blt (a.length + b.length) 4294967296 = true := by rw [Nat.blt_eq]; exact h
  rw [this]; rfl
theorem str_eql (a b : List Nat) : strF .eql a b = some (.bool (decide (a = b))) := by show some (CV.bool (nsSame a b)) = _; rw [nsSame_dec]
theorem str_neq (a b : List Nat) : strF .neq a b = some (.bool (!decide (a = b))) := by show some (CV.bool (!nsSame a b)) = _; rw [nsSame_dec]
theorem nil_pp : nilEq .p .nilp .nilp = some true := nr rfl
theorem nil_pq (a b : Nat) : nilEq .p (.ptr a b) .nilp = some false := nr rfl
theorem nil_qp (a b : Nat) : nilEq .p .nilp (.ptr a b) = some false := nr rfl
theorem nil_ss : nilEq .s .nils .nils = some true := nr rfl
theorem nil_sq (a b c d e : Nat) (o : Bool) : nilEq .s (.slice a b c d e o) .nils = some false := nr rfl
theorem nil_ff : nilEq .f .nilf .nilf = some true := nr rfl
theorem nil_fq (f : FuncId) (c : List (Nat × Nat)) : nilEq .f (.fn f c) .nilf = some false := nr rfl
/-! ### Behind a call -/
theorem retE_nil (res : List AV) : retE res tm [] M = oRec .no (fun vs => .ok (packA vs) M) (avsE tm M res) := nr rfl
theorem avs_nil : avsE tm M [] = some [] := nr rfl
theorem avs_cons (a : AV) (r : List AV) : avsE tm M (a :: r) = oRec none (fun v => oRec none (fun vs => some (v :: vs)) (avsE tm M r)) (a.ev tm M) := nr rfl
theorem av_t (n : Nat) : AV.ev tm M (.t n) = oRec none (V.as1 none some) (tm.get n) := nr rfl
theorem av_c1 (n : Nat) : AV.ev tm M (.c1 n) = oRec none (V.asC none (CV.asPtr none fun id off => oRec none (fun x => some (.c x)) (M.load id off))) (tm.get n) := nr rfl
theorem av_cn (n s : Nat) : AV.ev tm M (.cn n s) = oRec none (V.asC none (CV.asPtr none fun id off => oRec none (fun l => some (.agg l)) (M.loads id off s))) (tm.get n) := nr rfl
theorem pack_1 (v : V1) : packA [v] = .one v := nr rfl
theorem pack_0 : packA [] = .tup [] := nr rfl
theorem pack_2 (v u : V1) (r : List V1) : packA (v :: u :: r) = .tup (v :: u :: r) := nr rfl
end

/-! What is read again. -/
theorem iSame_self (n : Int) : iSame n n = true := by rw [iSame_dec]; simp
theorem capsSame_self : ∀ l : List (Nat × Nat), capsSame l l = true
  | [] => rfl
  | (a, b) :: r => by simp [capsSame, capsSame_self r]
theorem cvSame_self (x : CV) : x.same x = true := by
  cases x <;> simp [CV.same, iSame_self, nsSame_dec, kSame_self, capsSame_self, bSame]
  case bool b => cases b <;> rfl
  case slice a b c d e f => cases f <;> rfl
theorem csSame_self : ∀ l : List CV, csSame l l = true
  | [] => rfl
  | a :: r => by simp [csSame, cvSame_self, csSame_self r]
theorem same_c (x : CV) : V.same (.one (.c x)) (.one (.c x)) = true := cvSame_self x
theorem same_a (x : List CV) : V.same (.one (.agg x)) (.one (.agg x)) = true := csSame_self x

@[congr] theorem cg_bind {β : Type} (d : β) (k : V → Mem → β) {o o' : Out} (h : o = o') : Out.bind d k o = Out.bind d k o' := by rw [h]
@[congr] theorem cg_oRec {α β : Type} (d : β) (k : α → β) {o o' : Option α} (h : o = o') : oRec d k o = oRec d k o' := by rw [h]
@[congr] theorem cg_br {β : Type} (x y : β) {b b' : Bool} (h : b = b') : br b x y = br b' x y := by rw [h]
@[congr] theorem cg_then (f : T V → List Nat → Mem → Rn) {r r' : Rn} (h : r = r') : r.andThen f = r'.andThen f := by rw [h]
@[congr] theorem cg_asC {β : Type} (d : β) (k : CV → β) {o o' : V} (h : o = o') : V.asC d k o = V.asC d k o' := by rw [h]
end Go.Ab
