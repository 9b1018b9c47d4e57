/- The row of the statement ActAsserts: For any event (its text cut at 6,000 octets) act.Sent, Must and Tried tell of its step whether it is a Send, and act.Conn what it is about; what must be a Send, and is none, panics; the document's example is as it says: the whole law is walked (abutmentlaw44_ActAsserts.calls). Conditions: none beyond the row's own. -/
import Derived.Test.YtkepebaapgkhbaaRows
import Derived.Test.YtkepebaapgkhbaaCActAsserts2
import Derived.Test.YtkepebaapgkhbaaCActAssertsP
import Derived.WalkKit
import Derived.ProofKit
import Derived.OpenShut
import Derived.ShutString
import Derived.ChangeOld
import Derived.Below
import Derived.SizedLaws
import Derived.Carry
namespace Go.Proofs.Ytkepebaapgkhbaa.actAsserts
open Go.ChangeShapes Go.WideShapes Go.ChangeAt Go.RowKit Go.Proofs.Ytkepebaapgkhbaa.X Go.Proofs.YtkepebaapgkhbaaW.PrintWords
open Go.ChangeMaps (open_string shut_string)
set_option linter.unusedVariables false
set_option linter.unusedSimpArgs false
theorem own : ownKnob Try.prog.godebug = none := by kernel_rfl
theorem laidOut : laidOutB Try.prog = true := by kernel_rfl
def good_23 (x : S23) : Prop := (Lit.int .i64 x.f0).wf = true ∧ (Lit.int .i64 x.f1).wf = true
set_option maxRecDepth 100000 in
theorem el_23 {H : Type} {enc : TypeId × Value → H} {W : World} : ∀ n cs y, DataW.trod enc Try.prog W 0 (fun _ => true) true n 23 cs = some y → ∃ x : S23, k23.K W x cs ∧ good_23 x := by
  intro n cs y h
  obtain ⟨xs, m, _, _, hlen, hxl, hf⟩ := DataW.trod_struct Try.underlying23 h
  rw [show Try.prog.cellsOf 23 = 2 from by kernel_rfl] at hlen
  match cs, hlen, xs, hxl, hf with
  | [c0, c1], _, [y0, y1], _, hf =>
    have g0 : DataW.trod enc Try.prog W 0 (fun _ => true) true m 3 [c0] = some y0 := by
      have g := hf 0 _ rfl
      rw [show Try.prog.cellsOf _ = 1 from by kernel_rfl] at g
      exact g
    obtain ⟨x0, hk0, hg0⟩ := (el_int Try.underlying3) _ _ _ g0
    have g1 : DataW.trod enc Try.prog W 0 (fun _ => true) true m 3 [c1] = some y1 := by
      have g := hf 1 _ rfl
      rw [show Try.prog.cellsOf _ = 1 from by kernel_rfl] at g
      exact g
    obtain ⟨x1, hk1, hg1⟩ := (el_int Try.underlying3) _ _ _ g1
    exact ⟨⟨x0, x1⟩, ⟨[c0], [c1], rfl, hk0, hk1⟩, ⟨hg0, hg1⟩⟩
def good_25 (x : S25) : Prop := (Lit.int .i64 x.f0).wf = true ∧ good_23 x.f1 ∧ (Lit.int .i64 x.f2).wf = true ∧ x.f3.size ≤ maxLen
set_option maxRecDepth 100000 in
theorem el_25 {H : Type} {enc : TypeId × Value → H} {W : World} : ∀ n cs y, DataW.trod enc Try.prog W 0 (fun _ => true) true n 25 cs = some y → ∃ x : S25, k25.K W x cs ∧ good_25 x := by
  intro n cs y h
  obtain ⟨xs, m, _, _, hlen, hxl, hf⟩ := DataW.trod_struct Try.underlying25 h
  rw [show Try.prog.cellsOf 25 = 5 from by kernel_rfl] at hlen
  match cs, hlen, xs, hxl, hf with
  | [c0, c1, c2, c3, c4], _, [y0, y1, y2, y3], _, hf =>
    have g0 : DataW.trod enc Try.prog W 0 (fun _ => true) true m 3 [c0] = some y0 := by
      have g := hf 0 _ rfl
      rw [show Try.prog.cellsOf _ = 1 from by kernel_rfl] at g
      exact g
    obtain ⟨x0, hk0, hg0⟩ := (el_int Try.underlying3) _ _ _ g0
    have g1 : DataW.trod enc Try.prog W 0 (fun _ => true) true m 23 [c1, c2] = some y1 := by
      have g := hf 1 _ rfl
      rw [show Try.prog.cellsOf _ = 2 from by kernel_rfl] at g
      exact g
    obtain ⟨x1, hk1, hg1⟩ := el_23 _ _ _ g1
    have g2 : DataW.trod enc Try.prog W 0 (fun _ => true) true m 3 [c3] = some y2 := by
      have g := hf 2 _ rfl
      rw [show Try.prog.cellsOf _ = 1 from by kernel_rfl] at g
      exact g
    obtain ⟨x2, hk2, hg2⟩ := (el_int Try.underlying3) _ _ _ g2
    have g3 : DataW.trod enc Try.prog W 0 (fun _ => true) true m 9 [c4] = some y3 := by
      have g := hf 3 _ rfl
      rw [show Try.prog.cellsOf _ = 1 from by kernel_rfl] at g
      exact g
    obtain ⟨x3, hk3, hg3⟩ := (el_string Try.underlying9) _ _ _ g3
    exact ⟨⟨x0, x1, x2, x3⟩, ⟨[c0], [c1, c2, c3, c4], rfl, hk0, ⟨[c1, c2], [c3, c4], rfl, hk1, ⟨[c3], [c4], rfl, hk2, hk3⟩⟩⟩, ⟨hg0, hg1, hg2, hg3⟩⟩
set_option maxRecDepth 100000 in
theorem lifted (os : Os) (started : os.Started) (H : Type) (enc : TypeId × Value → H) :
    ReturnsInHanded {} Try.checked os 5 .any (Rows.actAssertsSpec.pre6 enc Try.prog Try.f5 Rows.actAssertsRow.domain false) (Rows.actAssertsSpec.post enc Try.prog Try.f5 false true false false) := by
  refine returnsInHanded_of_change_sized (C := Try.checked) own started (by kernel_rfl) Try.func5
    (ChangeSpec.witness6 (enc := enc) (C := Try.checked) false ⟨#[], #[.agg #[(.int .i64 0), (.int .i64 0), (.int .i64 0), (.int .i64 0), (.string ⟨#[]⟩)]], []⟩ 8 (by kernel_rfl) (by kernel_rfl) (by kernel_rfl) (by kernel_rfl)) ?_
  intro W base args ds gs before hval0 hW hcnd hsz0 _
  have hsz : (DataW.weightsEach Try.prog (Try.f5.params.toList ++ Rows.actAssertsSpec.plain.varTypes Try.prog) (ds ++ gs)).all (· ≤ reachBytes) = true := hsz0
  have hval : ∀ (j : Nat) t v, Try.f5.params[j]? = some t → args[j]? = some v → Value.okWide Try.prog W .any base t v := hval0
  have hW' := hW
  obtain ⟨p, q, hA0, hV, rfl, hfz, hnd⟩ := hW
  have hA : DataW.TrodAll enc Try.prog W 0 (fun _ => true) true Try.f5.params.toList args.toList ds p := hA0
  rw [Try.params5] at hA hval hsz
  obtain ⟨v0, vs0, d0, ds0, p0, q0, hargs, rfl, rfl, h0, r0⟩ := trodAll_cons hA
  obtain ⟨rfl, rfl, rfl⟩ := trodAll_nil r0
  obtain rfl : args = #[v0] := by cases args; simp_all
  obtain ⟨rfl, rfl⟩ := trodVars_none hV
  obtain ⟨cs0, rfl, hs0⟩ := okWide_struct Try.underlying25 (hval 0 25 v0 rfl rfl)
  have k0 := h0
  have lt0 : ∀ x ∈ p0, x.block < W.heap.size := by obtain ⟨m, hm⟩ := k0; exact DataW.trod_lt m _ _ _ hm
  obtain ⟨fu0, hf0⟩ := h0
  obtain ⟨x0, hK0, hg0⟩ := el_25 fu0 cs0.toList (d0, p0) (by simpa [Value.cells] using hf0)
  have ho0 := k25_open hK0
  obtain rfl : cs0 = #[.int .i64 x0.f0, .int .i64 x0.f1.f0, .int .i64 x0.f1.f1, .int .i64 x0.f2, .string x0.f3] := by cases cs0; simp_all
  clear hA0 hval0 hsz0 hsz
  have hk_ := Pure.ActAsserts x0 hg0
  refine (abutmentlaw44_ActAsserts.calls x0.f0 x0.f1.f0 x0.f1.f1 x0.f2 x0.f3 true W  hk_).mono ?_
  rintro e W' ⟨rfl, hd⟩
  have bel : Below W.heap.size W W' := hd
  exact ⟨_, rfl, _, _, _, [], _, [], hW', trodAll_mk1 (shut_bool Try.underlying4 _), (trodAll_cons_mk (Below.trod laidOut (by kernel_rfl) (of_decide_eq_true (by kernel_rfl)) k0 bel lt0) trodAll_mk0), rfl, bel.frame _, fun h => by cases h⟩
theorem over : Rows.actAssertsRow.holds Try.pinned (OpenSpec.ofChange Rows.actAssertsSpec) :=
  OpenClaim.holds_of_wide 5 Try.f5 rfl rfl rfl rfl rfl rfl rfl ⟨rfl, rfl, rfl, rfl, rfl⟩ rfl rfl rfl rfl rfl (by kernel_rfl) Try.func5 (by kernel_rfl)
    (of_decide_eq_true (by kernel_rfl)) (by unfold Func.isWrapper; first | (rw [if_pos (by decide +kernel)]; kernel_rfl) | (rw [if_neg (by decide +kernel)]; exact ⟨rfl, rfl⟩))
    (fun os started H enc _ => lifted os started H enc)
theorem proved : Rows.ActAssertsSaid := over
end Go.Proofs.Ytkepebaapgkhbaa.actAsserts
namespace Go.Proofs.Ytkepebaapgkhbaa
/-- The row, under a short name, for the claim. -/
theorem actAsserts_holds : Rows.ActAssertsSaid := actAsserts.proved
end Go.Proofs.Ytkepebaapgkhbaa
