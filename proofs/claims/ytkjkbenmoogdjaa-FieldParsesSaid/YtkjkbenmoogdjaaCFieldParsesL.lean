/- The row of the statement FieldParses: For any text (cut at 1,000 octets) and any field (name cut at 300, value at 1,000 octets) field.Parse, Line and Right answer as the reference's Parse, Line and Right do, and the document's examples are as it says. Conditions: none beyond the row's own. -/
import Derived.Test.YtkjkbenmoogdjaaRows
import Derived.Test.YtkjkbenmoogdjaaCFieldParses3
import Derived.Test.YtkjkbenmoogdjaaCFieldParsesP
import Derived.WalkKit
import Derived.ProofKit
import Derived.OpenShut
import Derived.ShutString
import Derived.ChangeOld
import Derived.Below
import Derived.SizedLaws
import Derived.Carry
namespace Go.Proofs.Ytkjkbenmoogdjaa.fieldParses
open Go.ChangeShapes Go.WideShapes Go.ChangeAt Go.RowKit Go.Proofs.Ytkjkbenmoogdjaa.X Go.Proofs.YtkjkbenmoogdjaaW.PrintWords
open Go.ChangeMaps (open_string shut_string)
set_option linter.unusedVariables false
set_option linter.unusedSimpArgs false
theorem own : ownKnob Try.prog.godebug = none := by kernel_rfl
theorem laidOut : laidOutB Try.prog = true := by kernel_rfl
def good_23 (x : S23) : Prop := x.f0.size ≤ maxLen ∧ x.f1.size ≤ maxLen
set_option maxRecDepth 100000 in
theorem el_23 {H : Type} {enc : TypeId × Value → H} {W : World} : ∀ n cs y, DataW.trod enc Try.prog W 0 (fun _ => true) true n 23 cs = some y → ∃ x : S23, k23.K W x cs ∧ good_23 x := by
  intro n cs y h
  obtain ⟨xs, m, _, _, hlen, hxl, hf⟩ := DataW.trod_struct Try.underlying23 h
  rw [show Try.prog.cellsOf 23 = 2 from by kernel_rfl] at hlen
  match cs, hlen, xs, hxl, hf with
  | [c0, c1], _, [y0, y1], _, hf =>
    have g0 : DataW.trod enc Try.prog W 0 (fun _ => true) true m 9 [c0] = some y0 := by
      have g := hf 0 _ rfl
      rw [show Try.prog.cellsOf _ = 1 from by kernel_rfl] at g
      exact g
    obtain ⟨x0, hk0, hg0⟩ := (el_string Try.underlying9) _ _ _ g0
    have g1 : DataW.trod enc Try.prog W 0 (fun _ => true) true m 9 [c1] = some y1 := by
      have g := hf 1 _ rfl
      rw [show Try.prog.cellsOf _ = 1 from by kernel_rfl] at g
      exact g
    obtain ⟨x1, hk1, hg1⟩ := (el_string Try.underlying9) _ _ _ g1
    exact ⟨⟨x0, x1⟩, ⟨[c0], [c1], rfl, hk0, hk1⟩, ⟨hg0, hg1⟩⟩
set_option maxRecDepth 100000 in
theorem lifted (os : Os) (started : os.Started) (H : Type) (enc : TypeId × Value → H) :
    ReturnsInHanded {} Try.checked os 3 .any (Rows.fieldParsesSpec.pre6 enc Try.prog Try.f3 Rows.fieldParsesRow.domain false) (Rows.fieldParsesSpec.post enc Try.prog Try.f3 false true false false) := by
  refine returnsInHanded_of_change_sized (C := Try.checked) own started (by kernel_rfl) Try.func3
    (ChangeSpec.witness6 (enc := enc) (C := Try.checked) false ⟨#[], #[.string ByteArray.empty, .agg #[(.string ⟨#[]⟩), (.string ⟨#[]⟩)]], []⟩ 8 (by kernel_rfl) (by kernel_rfl) (by kernel_rfl) (by kernel_rfl)) ?_
  intro W base args ds gs before hval0 hW hcnd hsz0 _
  have hsz : (DataW.weightsEach Try.prog (Try.f3.params.toList ++ Rows.fieldParsesSpec.plain.varTypes Try.prog) (ds ++ gs)).all (· ≤ reachBytes) = true := hsz0
  have hval : ∀ (j : Nat) t v, Try.f3.params[j]? = some t → args[j]? = some v → Value.okWide Try.prog W .any base t v := hval0
  have hW' := hW
  obtain ⟨p, q, hA0, hV, rfl, hfz, hnd⟩ := hW
  have hA : DataW.TrodAll enc Try.prog W 0 (fun _ => true) true Try.f3.params.toList args.toList ds p := hA0
  rw [Try.params3] at hA hval hsz
  obtain ⟨v0, vs0, d0, ds0, p0, q0, hargs, rfl, rfl, h0, r0⟩ := trodAll_cons hA
  obtain ⟨v1, vs1, d1, ds1, p1, q1, rfl, rfl, rfl, h1, r1⟩ := trodAll_cons r0
  obtain ⟨rfl, rfl, rfl⟩ := trodAll_nil r1
  obtain rfl : args = #[v0, v1] := by cases args; simp_all
  obtain ⟨rfl, rfl⟩ := trodVars_none hV
  obtain ⟨a0, rfl, rfl, rfl, y0⟩ := open_string Try.underlying9 (hval 0 9 v0 rfl rfl) h0
  have w0 : a0.size ≤ 140737488351232 := by
    have z := sized_string hsz (j := 0) (t := 9) rfl rfl
    rw [Array.length_toList] at z
    exact z
  obtain ⟨cs1, rfl, hs1⟩ := okWide_struct Try.underlying23 (hval 1 23 v1 rfl rfl)
  have k1 := h1
  have lt1 : ∀ x ∈ p1, x.block < W.heap.size := by obtain ⟨m, hm⟩ := k1; exact DataW.trod_lt m _ _ _ hm
  obtain ⟨fu1, hf1⟩ := h1
  obtain ⟨x1, hK1, hg1⟩ := el_23 fu1 cs1.toList (d1, p1) (by simpa [Value.cells] using hf1)
  have ho1 := k23_open hK1
  obtain rfl : cs1 = #[.string x1.f0, .string x1.f1] := by cases cs1; simp_all
  clear hA0 hval0 hsz0 hsz
  obtain ⟨k_, hk_⟩ := Pure.FieldParses a0 x1 w0 hg1
  refine (abutmentlaw09_FieldParses.calls k_ a0 x1.f0 x1.f1 true W  hk_).mono ?_
  rintro e W' ⟨rfl, hd⟩
  have bel : Below W.heap.size W W' := hd
  exact ⟨_, rfl, _, _, _, [], _, [], hW', trodAll_mk1 (shut_bool Try.underlying4 _), (trodAll_cons_mk (shut_string Try.underlying9 y0) (trodAll_cons_mk (Below.trod laidOut (by kernel_rfl) (of_decide_eq_true (by kernel_rfl)) k1 bel lt1) trodAll_mk0)), rfl, bel.frame _, fun h => by cases h⟩
theorem over : Rows.fieldParsesRow.holds Try.pinned (OpenSpec.ofChange Rows.fieldParsesSpec) :=
  OpenClaim.holds_of_wide 3 Try.f3 rfl rfl rfl rfl rfl rfl rfl ⟨rfl, rfl, rfl, rfl, rfl⟩ rfl rfl rfl rfl rfl (by kernel_rfl) Try.func3 (by kernel_rfl)
    (of_decide_eq_true (by kernel_rfl)) (by unfold Func.isWrapper; first | (rw [if_pos (by decide +kernel)]; kernel_rfl) | (rw [if_neg (by decide +kernel)]; exact ⟨rfl, rfl⟩))
    (fun os started H enc _ => lifted os started H enc)
theorem proved : Rows.FieldParsesSaid := over
end Go.Proofs.Ytkjkbenmoogdjaa.fieldParses
namespace Go.Proofs.Ytkjkbenmoogdjaa
/-- The row, under a short name, for the claim. -/
theorem fieldParses_holds : Rows.FieldParsesSaid := fieldParses.proved
end Go.Proofs.Ytkjkbenmoogdjaa
