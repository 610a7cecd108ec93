/-
  The law function FrameCuts returns true whatever its arguments are, whatever the model draws, and each argument reads behind the call as it read before.
  Conditions: none beyond the given statement.
-/
import Derived.Test.YtelmphlmhnipfaaRows
import Derived.Test.YtelmphlmhnipfaaFrmZ
namespace Go.Proofs.Ytelmphlmhnipfaa.frameCuts
open Go.ChangeShapes Go.WideShapes Go.ChangeAt Go.RowKit Go.Ab

theorem own : ownKnob Try.prog.godebug = none := by kernel_rfl
theorem good : Go.Ab.Good Try.prog := Go.Ab.good_of (by kernel_rfl) (by kernel_rfl)
theorem laid : laidOutB Try.prog = true := by kernel_rfl
theorem wakes : Go.Ab.tellsTrue Try.prog Go.Ab.noneKnown 1000000 7 = true := by kernel_rfl
theorem knows : Go.Ab.Knows Try.prog (Go.Ab.only 7) := Go.Ab.knows_only (Go.Ab.tells_calls good (Go.Ab.knows_none _) wakes)
theorem pks : Go.Ab.pksOf Try.prog [23, 3] = some [.sl [.s], .cell (.i .i64)] := by kernel_rfl
theorem run (M : Mem) (xs : List V1) (hw : M.Wf) (h : F2 (PK.ok M) [.sl [.s], .cell (.i .i64)] xs) : ∃ M', (lim Try.prog (Go.Ab.only 7)).call 5 xs M = .ok (.one (.c (.bool true))) M' := by
  cases h with
  | cons a r => cases r with
    | cons b r => cases r
                  rename_i x y
                  cases x with
                  | agg => exact a.elim
                  | c x => cases y with
                    | agg => exact b.elim
                    | c y =>
                      cases y <;> first | exact b.elim | skip
                      rename_i k n
                      obtain ⟨rfl, hn⟩ := b
                      simp [Lit.wf, IntKind.min, IntKind.max, IntKind.signed, IntKind.bits] at hn
                      obtain ⟨len, xs, hs⟩ := a
                      obtain ⟨ps, hl, har⟩ := ars_of hw hs
                      exact cuts_run hw har (by rw [hl]; exact len_le hs) (by omega) (by omega)

set_option maxRecDepth 100000 in
theorem lifted (os : Os) (started : os.Started) (H : Type) (enc : TypeId × Value → H) :
    ReturnsInHanded {} Try.checked os 5 .any (Rows.frameCutsSpec.pre6 enc Try.prog Try.f5 Rows.frameCutsRow.domain false) (Rows.frameCutsSpec.post enc Try.prog Try.f5 false true false false) := by
  refine returnsInHanded_of_change (C := Try.checked) own started (by kernel_rfl) Try.func5
    (ChangeSpec.witness6 (enc := enc) (C := Try.checked) false ⟨#[], #[.slice none 0 0, .int .i64 0], []⟩ 8 (by kernel_rfl) (by kernel_rfl) (by kernel_rfl) (by kernel_rfl)) ?_
  intro W base args ds gs before hval0 hW hcnd _
  have hW' := hW
  obtain ⟨p, q, hA0, hV, rfl, hfz, hnd⟩ := hW
  have hA : DataW.TrodAll enc Try.prog W 0 (fun _ => true) true Try.f5.params.toList args.toList ds p := hA0
  rw [Try.params5] at hA
  obtain ⟨rfl, rfl⟩ := trodVars_none hV
  have hds : ∃ d0 d1, ds = [d0, d1] := by
    obtain ⟨v0, v1, d0, d1, p0, p1, _, hd, _⟩ := trodAll_two hA
    exact ⟨d0, d1, hd⟩
  have hc := Go.Ab.law_calls good knows pks (fun j t v a b => ⟨base, hval0 j t v (by rw [← Array.getElem?_toList, Try.params5]; exact a) (by rw [← Array.getElem?_toList]; exact b)⟩) hA (fun b off hm => hfz b off (List.mem_append_left _ hm)) run
  obtain ⟨d0, d1, rfl⟩ := hds
  refine hc.mono fun e W' ⟨he, bel⟩ => ?_
  subst he
  exact ⟨_, rfl, Go.Ab.law_post laid (by rw [Try.params5]; kernel_rfl) Try.underlying4 (by kernel_rfl) rfl rfl rfl rfl hW' bel⟩

theorem over : Rows.frameCutsRow.holds Try.pinned (OpenSpec.ofChange Rows.frameCutsSpec) :=
  OpenClaim.holds_of_wide 5 Try.f5 rfl rfl rfl rfl rfl rfl rfl ⟨rfl, rfl, rfl, rfl, rfl⟩ rfl rfl rfl rfl rfl (by kernel_rfl) Try.func5 (by kernel_rfl)
    (of_decide_eq_true (by kernel_rfl)) (by unfold Func.isWrapper; first | (rw [if_pos (by decide +kernel)]; kernel_rfl) | (rw [if_neg (by decide +kernel)]; exact ⟨rfl, rfl⟩))
    (fun os started H enc _ => lifted os started H enc)

theorem proved : Rows.FrameCutsSaid := over
end Go.Proofs.Ytelmphlmhnipfaa.frameCuts
