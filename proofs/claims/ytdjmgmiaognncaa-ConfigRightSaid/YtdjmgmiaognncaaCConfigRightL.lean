/- The row of the statement ConfigRight: For any settings (a name of at most 300 octets, an authority of at most 500) config.Right and config.Print answer as the reference's do, and the document's example is as it says. Conditions: none beyond the row's own. -/
import Derived.Test.YtdjmgmiaognncaaRows
import Derived.Test.YtdjmgmiaognncaaCConfigRight3
import Derived.Test.YtdjmgmiaognncaaCConfigRightP
import Derived.WalkKit
import Derived.ProofKit
import Derived.OpenShut
import Derived.ShutString
import Derived.ChangeOld
import Derived.Below
import Derived.SizedLaws
import Derived.Carry
namespace Go.Proofs.Ytdjmgmiaognncaa.configRight
open Go.ChangeShapes Go.WideShapes Go.ChangeAt Go.RowKit Go.Proofs.Ytdjmgmiaognncaa.X Go.Proofs.YtdjmgmiaognncaaW.PrintWords
open Go.ChangeMaps (open_string shut_string)
set_option linter.unusedVariables false
set_option linter.unusedSimpArgs false
theorem own : ownKnob Try.prog.godebug = none := by kernel_rfl
theorem laidOut : laidOutB Try.prog = true := by kernel_rfl
def good_23 (x : S23) : Prop := (Lit.int .i64 x.f0).wf = true ∧ (Lit.int .i64 x.f1).wf = true ∧ (Lit.int .i64 x.f2).wf = true ∧ (Lit.int .i64 x.f3).wf = true ∧ (Lit.int .i64 x.f4).wf = true
set_option maxRecDepth 100000 in
theorem el_23 {H : Type} {enc : TypeId × Value → H} {W : World} : ∀ n cs y, DataW.trod enc Try.prog W 0 (fun _ => true) true n 23 cs = some y → ∃ x : S23, k23.K W x cs ∧ good_23 x := by
  intro n cs y h
  obtain ⟨xs, m, _, _, hlen, hxl, hf⟩ := DataW.trod_struct Try.underlying23 h
  rw [show Try.prog.cellsOf 23 = 5 from by kernel_rfl] at hlen
  match cs, hlen, xs, hxl, hf with
  | [c0, c1, c2, c3, c4], _, [y0, y1, y2, y3, y4], _, hf =>
    have g0 : DataW.trod enc Try.prog W 0 (fun _ => true) true m 3 [c0] = some y0 := by
      have g := hf 0 _ rfl
      rw [show Try.prog.cellsOf _ = 1 from by kernel_rfl] at g
      exact g
    obtain ⟨x0, hk0, hg0⟩ := (el_int Try.underlying3) _ _ _ g0
    have g1 : DataW.trod enc Try.prog W 0 (fun _ => true) true m 3 [c1] = some y1 := by
      have g := hf 1 _ rfl
      rw [show Try.prog.cellsOf _ = 1 from by kernel_rfl] at g
      exact g
    obtain ⟨x1, hk1, hg1⟩ := (el_int Try.underlying3) _ _ _ g1
    have g2 : DataW.trod enc Try.prog W 0 (fun _ => true) true m 3 [c2] = some y2 := by
      have g := hf 2 _ rfl
      rw [show Try.prog.cellsOf _ = 1 from by kernel_rfl] at g
      exact g
    obtain ⟨x2, hk2, hg2⟩ := (el_int Try.underlying3) _ _ _ g2
    have g3 : DataW.trod enc Try.prog W 0 (fun _ => true) true m 3 [c3] = some y3 := by
      have g := hf 3 _ rfl
      rw [show Try.prog.cellsOf _ = 1 from by kernel_rfl] at g
      exact g
    obtain ⟨x3, hk3, hg3⟩ := (el_int Try.underlying3) _ _ _ g3
    have g4 : DataW.trod enc Try.prog W 0 (fun _ => true) true m 3 [c4] = some y4 := by
      have g := hf 4 _ rfl
      rw [show Try.prog.cellsOf _ = 1 from by kernel_rfl] at g
      exact g
    obtain ⟨x4, hk4, hg4⟩ := (el_int Try.underlying3) _ _ _ g4
    exact ⟨⟨x0, x1, x2, x3, x4⟩, ⟨[c0], [c1, c2, c3, c4], rfl, hk0, ⟨[c1], [c2, c3, c4], rfl, hk1, ⟨[c2], [c3, c4], rfl, hk2, ⟨[c3], [c4], rfl, hk3, hk4⟩⟩⟩⟩, ⟨hg0, hg1, hg2, hg3, hg4⟩⟩
def good_25 (x : S25) : Prop := x.f0.size ≤ maxLen ∧ x.f1.size ≤ maxLen ∧ (Lit.int .i64 x.f2).wf = true ∧ (Lit.int .i64 x.f3).wf = true ∧ (Lit.int .i64 x.f4).wf = true ∧ (Lit.int .i64 x.f5).wf = true ∧ (Lit.int .i64 x.f6).wf = true ∧ (Lit.int .i64 x.f7).wf = true ∧ (Lit.int .i64 x.f8).wf = true ∧ (Lit.int .i64 x.f9).wf = true ∧ (Lit.int .i64 x.f10).wf = true ∧ (Lit.int .i64 x.f11).wf = true ∧ (Lit.int .i64 x.f12).wf = true ∧ good_23 x.f13
set_option maxRecDepth 100000 in
theorem el_25 {H : Type} {enc : TypeId × Value → H} {W : World} : ∀ n cs y, DataW.trod enc Try.prog W 0 (fun _ => true) true n 25 cs = some y → ∃ x : S25, k25.K W x cs ∧ good_25 x := by
  intro n cs y h
  obtain ⟨xs, m, _, _, hlen, hxl, hf⟩ := DataW.trod_struct Try.underlying25 h
  rw [show Try.prog.cellsOf 25 = 18 from by kernel_rfl] at hlen
  match cs, hlen, xs, hxl, hf with
  | [c0, c1, c2, c3, c4, c5, c6, c7, c8, c9, c10, c11, c12, c13, c14, c15, c16, c17], _, [y0, y1, y2, y3, y4, y5, y6, y7, y8, y9, y10, y11, y12, y13], _, hf =>
    have g0 : DataW.trod enc Try.prog W 0 (fun _ => true) true m 9 [c0] = some y0 := by
      have g := hf 0 _ rfl
      rw [show Try.prog.cellsOf _ = 1 from by kernel_rfl] at g
      exact g
    obtain ⟨x0, hk0, hg0⟩ := (el_string Try.underlying9) _ _ _ g0
    have g1 : DataW.trod enc Try.prog W 0 (fun _ => true) true m 9 [c1] = some y1 := by
      have g := hf 1 _ rfl
      rw [show Try.prog.cellsOf _ = 1 from by kernel_rfl] at g
      exact g
    obtain ⟨x1, hk1, hg1⟩ := (el_string Try.underlying9) _ _ _ g1
    have g2 : DataW.trod enc Try.prog W 0 (fun _ => true) true m 3 [c2] = some y2 := by
      have g := hf 2 _ rfl
      rw [show Try.prog.cellsOf _ = 1 from by kernel_rfl] at g
      exact g
    obtain ⟨x2, hk2, hg2⟩ := (el_int Try.underlying3) _ _ _ g2
    have g3 : DataW.trod enc Try.prog W 0 (fun _ => true) true m 3 [c3] = some y3 := by
      have g := hf 3 _ rfl
      rw [show Try.prog.cellsOf _ = 1 from by kernel_rfl] at g
      exact g
    obtain ⟨x3, hk3, hg3⟩ := (el_int Try.underlying3) _ _ _ g3
    have g4 : DataW.trod enc Try.prog W 0 (fun _ => true) true m 3 [c4] = some y4 := by
      have g := hf 4 _ rfl
      rw [show Try.prog.cellsOf _ = 1 from by kernel_rfl] at g
      exact g
    obtain ⟨x4, hk4, hg4⟩ := (el_int Try.underlying3) _ _ _ g4
    have g5 : DataW.trod enc Try.prog W 0 (fun _ => true) true m 3 [c5] = some y5 := by
      have g := hf 5 _ rfl
      rw [show Try.prog.cellsOf _ = 1 from by kernel_rfl] at g
      exact g
    obtain ⟨x5, hk5, hg5⟩ := (el_int Try.underlying3) _ _ _ g5
    have g6 : DataW.trod enc Try.prog W 0 (fun _ => true) true m 3 [c6] = some y6 := by
      have g := hf 6 _ rfl
      rw [show Try.prog.cellsOf _ = 1 from by kernel_rfl] at g
      exact g
    obtain ⟨x6, hk6, hg6⟩ := (el_int Try.underlying3) _ _ _ g6
    have g7 : DataW.trod enc Try.prog W 0 (fun _ => true) true m 3 [c7] = some y7 := by
      have g := hf 7 _ rfl
      rw [show Try.prog.cellsOf _ = 1 from by kernel_rfl] at g
      exact g
    obtain ⟨x7, hk7, hg7⟩ := (el_int Try.underlying3) _ _ _ g7
    have g8 : DataW.trod enc Try.prog W 0 (fun _ => true) true m 3 [c8] = some y8 := by
      have g := hf 8 _ rfl
      rw [show Try.prog.cellsOf _ = 1 from by kernel_rfl] at g
      exact g
    obtain ⟨x8, hk8, hg8⟩ := (el_int Try.underlying3) _ _ _ g8
    have g9 : DataW.trod enc Try.prog W 0 (fun _ => true) true m 3 [c9] = some y9 := by
      have g := hf 9 _ rfl
      rw [show Try.prog.cellsOf _ = 1 from by kernel_rfl] at g
      exact g
    obtain ⟨x9, hk9, hg9⟩ := (el_int Try.underlying3) _ _ _ g9
    have g10 : DataW.trod enc Try.prog W 0 (fun _ => true) true m 3 [c10] = some y10 := by
      have g := hf 10 _ rfl
      rw [show Try.prog.cellsOf _ = 1 from by kernel_rfl] at g
      exact g
    obtain ⟨x10, hk10, hg10⟩ := (el_int Try.underlying3) _ _ _ g10
    have g11 : DataW.trod enc Try.prog W 0 (fun _ => true) true m 3 [c11] = some y11 := by
      have g := hf 11 _ rfl
      rw [show Try.prog.cellsOf _ = 1 from by kernel_rfl] at g
      exact g
    obtain ⟨x11, hk11, hg11⟩ := (el_int Try.underlying3) _ _ _ g11
    have g12 : DataW.trod enc Try.prog W 0 (fun _ => true) true m 3 [c12] = some y12 := by
      have g := hf 12 _ rfl
      rw [show Try.prog.cellsOf _ = 1 from by kernel_rfl] at g
      exact g
    obtain ⟨x12, hk12, hg12⟩ := (el_int Try.underlying3) _ _ _ g12
    have g13 : DataW.trod enc Try.prog W 0 (fun _ => true) true m 23 [c13, c14, c15, c16, c17] = some y13 := by
      have g := hf 13 _ rfl
      rw [show Try.prog.cellsOf _ = 5 from by kernel_rfl] at g
      exact g
    obtain ⟨x13, hk13, hg13⟩ := el_23 _ _ _ g13
    exact ⟨⟨x0, x1, x2, x3, x4, x5, x6, x7, x8, x9, x10, x11, x12, x13⟩, ⟨[c0], [c1, c2, c3, c4, c5, c6, c7, c8, c9, c10, c11, c12, c13, c14, c15, c16, c17], rfl, hk0, ⟨[c1], [c2, c3, c4, c5, c6, c7, c8, c9, c10, c11, c12, c13, c14, c15, c16, c17], rfl, hk1, ⟨[c2], [c3, c4, c5, c6, c7, c8, c9, c10, c11, c12, c13, c14, c15, c16, c17], rfl, hk2, ⟨[c3], [c4, c5, c6, c7, c8, c9, c10, c11, c12, c13, c14, c15, c16, c17], rfl, hk3, ⟨[c4], [c5, c6, c7, c8, c9, c10, c11, c12, c13, c14, c15, c16, c17], rfl, hk4, ⟨[c5], [c6, c7, c8, c9, c10, c11, c12, c13, c14, c15, c16, c17], rfl, hk5, ⟨[c6], [c7, c8, c9, c10, c11, c12, c13, c14, c15, c16, c17], rfl, hk6, ⟨[c7], [c8, c9, c10, c11, c12, c13, c14, c15, c16, c17], rfl, hk7, ⟨[c8], [c9, c10, c11, c12, c13, c14, c15, c16, c17], rfl, hk8, ⟨[c9], [c10, c11, c12, c13, c14, c15, c16, c17], rfl, hk9, ⟨[c10], [c11, c12, c13, c14, c15, c16, c17], rfl, hk10, ⟨[c11], [c12, c13, c14, c15, c16, c17], rfl, hk11, ⟨[c12], [c13, c14, c15, c16, c17], rfl, hk12, hk13⟩⟩⟩⟩⟩⟩⟩⟩⟩⟩⟩⟩⟩, ⟨hg0, hg1, hg2, hg3, hg4, hg5, hg6, hg7, hg8, hg9, hg10, hg11, hg12, hg13⟩⟩
set_option maxRecDepth 100000 in
theorem lifted (os : Os) (started : os.Started) (H : Type) (enc : TypeId × Value → H) :
    ReturnsInHanded {} Try.checked os 3 .any (Rows.configRightSpec.pre6 enc Try.prog Try.f3 Rows.configRightRow.domain false) (Rows.configRightSpec.post enc Try.prog Try.f3 false true false false) := by
  refine returnsInHanded_of_change_sized (C := Try.checked) own started (by kernel_rfl) Try.func3
    (ChangeSpec.witness6 (enc := enc) (C := Try.checked) false ⟨#[], #[.agg #[(.string ⟨#[]⟩), (.string ⟨#[]⟩), (.int .i64 0), (.int .i64 0), (.int .i64 0), (.int .i64 0), (.int .i64 0), (.int .i64 0), (.int .i64 0), (.int .i64 0), (.int .i64 0), (.int .i64 0), (.int .i64 0), (.int .i64 0), (.int .i64 0), (.int .i64 0), (.int .i64 0), (.int .i64 0)]], []⟩ 8 (by kernel_rfl) (by kernel_rfl) (by kernel_rfl) (by kernel_rfl)) ?_
  intro W base args ds gs before hval0 hW hcnd hsz0 _
  have hsz : (DataW.weightsEach Try.prog (Try.f3.params.toList ++ Rows.configRightSpec.plain.varTypes Try.prog) (ds ++ gs)).all (· ≤ reachBytes) = true := hsz0
  have hval : ∀ (j : Nat) t v, Try.f3.params[j]? = some t → args[j]? = some v → Value.okWide Try.prog W .any base t v := hval0
  have hW' := hW
  obtain ⟨p, q, hA0, hV, rfl, hfz, hnd⟩ := hW
  have hA : DataW.TrodAll enc Try.prog W 0 (fun _ => true) true Try.f3.params.toList args.toList ds p := hA0
  rw [Try.params3] at hA hval hsz
  obtain ⟨v0, vs0, d0, ds0, p0, q0, hargs, rfl, rfl, h0, r0⟩ := trodAll_cons hA
  obtain ⟨rfl, rfl, rfl⟩ := trodAll_nil r0
  obtain rfl : args = #[v0] := by cases args; simp_all
  obtain ⟨rfl, rfl⟩ := trodVars_none hV
  obtain ⟨cs0, rfl, hs0⟩ := okWide_struct Try.underlying25 (hval 0 25 v0 rfl rfl)
  have k0 := h0
  have lt0 : ∀ x ∈ p0, x.block < W.heap.size := by obtain ⟨m, hm⟩ := k0; exact DataW.trod_lt m _ _ _ hm
  obtain ⟨fu0, hf0⟩ := h0
  obtain ⟨x0, hK0, hg0⟩ := el_25 fu0 cs0.toList (d0, p0) (by simpa [Value.cells] using hf0)
  have ho0 := k25_open hK0
  obtain rfl : cs0 = #[.string x0.f0, .string x0.f1, .int .i64 x0.f2, .int .i64 x0.f3, .int .i64 x0.f4, .int .i64 x0.f5, .int .i64 x0.f6, .int .i64 x0.f7, .int .i64 x0.f8, .int .i64 x0.f9, .int .i64 x0.f10, .int .i64 x0.f11, .int .i64 x0.f12, .int .i64 x0.f13.f0, .int .i64 x0.f13.f1, .int .i64 x0.f13.f2, .int .i64 x0.f13.f3, .int .i64 x0.f13.f4] := by cases cs0; simp_all
  clear hA0 hval0 hsz0 hsz
  have hk_ := Pure.ConfigRight x0 hg0
  refine (abutmentlaw13_ConfigRight.calls x0.f0 x0.f1 x0.f2 x0.f3 x0.f4 x0.f5 x0.f6 x0.f7 x0.f8 x0.f9 x0.f10 x0.f11 x0.f12 x0.f13.f0 x0.f13.f1 x0.f13.f2 x0.f13.f3 x0.f13.f4 true W  hk_).mono ?_
  rintro e W' ⟨rfl, hd⟩
  have bel : Below W.heap.size W W' := hd
  exact ⟨_, rfl, _, _, _, [], _, [], hW', trodAll_mk1 (shut_bool Try.underlying4 _), (trodAll_cons_mk (Below.trod laidOut (by kernel_rfl) (of_decide_eq_true (by kernel_rfl)) k0 bel lt0) trodAll_mk0), rfl, bel.frame _, fun h => by cases h⟩
theorem over : Rows.configRightRow.holds Try.pinned (OpenSpec.ofChange Rows.configRightSpec) :=
  OpenClaim.holds_of_wide 3 Try.f3 rfl rfl rfl rfl rfl rfl rfl ⟨rfl, rfl, rfl, rfl, rfl⟩ rfl rfl rfl rfl rfl (by kernel_rfl) Try.func3 (by kernel_rfl)
    (of_decide_eq_true (by kernel_rfl)) (by unfold Func.isWrapper; first | (rw [if_pos (by decide +kernel)]; kernel_rfl) | (rw [if_neg (by decide +kernel)]; exact ⟨rfl, rfl⟩))
    (fun os started H enc _ => lifted os started H enc)
theorem proved : Rows.ConfigRightSaid := over
end Go.Proofs.Ytdjmgmiaognncaa.configRight
namespace Go.Proofs.Ytdjmgmiaognncaa
/-- The row, under a short name, for the claim. -/
theorem configRight_holds : Rows.ConfigRightSaid := configRight.proved
end Go.Proofs.Ytdjmgmiaognncaa
