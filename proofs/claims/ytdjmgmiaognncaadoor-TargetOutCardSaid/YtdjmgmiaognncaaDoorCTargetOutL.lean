/- The row of the statement TargetOut: For any method (of at most 60 octets) and any target (parts of at most 1000 octets) target.Text and target.Out answer as the reference's do, and the document's example is as it says. Conditions: none beyond the row's own. -/
import Derived.Test.YtdjmgmiaognncaaDoorRows
import Derived.Test.YtdjmgmiaognncaaDoorCTargetOut3
import Derived.Test.YtdjmgmiaognncaaDoorCTargetOutP
import Derived.WalkKit
import Derived.ProofKit
import Derived.OpenShut
import Derived.ShutString
import Derived.ChangeOld
import Derived.Below
import Derived.SizedLaws
import Derived.Carry
import Derived.LaidMore
import Derived.Lay
import Derived.SevenTiedAt
import Derived.Stop.Joined
import Derived.Test.YtdjmgmiaognncaaDoorTie
import Derived.Test.YtdjmgmiaognncaaDoorCards
namespace Go.Proofs.YtdjmgmiaognncaaDoor.targetOut
open Go.ChangeShapes Go.WideShapes Go.ChangeAt Go.RowKit Go.Proofs.YtdjmgmiaognncaaDoor.X Go.Proofs.YtdjmgmiaognncaaDoorW.PrintWords
open Go.ChangeMaps (open_string shut_string)
set_option linter.unusedVariables false
set_option linter.unusedSimpArgs false
theorem own : ownKnob Tryd.prog.godebug = none := by kernel_rfl
theorem laidOut : laidOutB Tryd.prog = true := by kernel_rfl
def good_32 (x : S32) : Prop := (Lit.int .i64 x.f0).wf = true ∧ x.f1.size ≤ maxLen ∧ x.f2.size ≤ maxLen
set_option maxRecDepth 100000 in
theorem el_32 {H : Type} {enc : TypeId × Value → H} {W : World} : ∀ n cs y, DataW.trod enc Tryd.prog W 0 (fun _ => true) true n 32 cs = some y → ∃ x : S32, k32.K W x cs ∧ good_32 x := by
  intro n cs y h
  obtain ⟨xs, m, _, _, hlen, hxl, hf⟩ := DataW.trod_struct Tryd.underlying32 h
  rw [show Tryd.prog.cellsOf 32 = 3 from by kernel_rfl] at hlen
  match cs, hlen, xs, hxl, hf with
  | [c0, c1, c2], _, [y0, y1, y2], _, hf =>
    have g0 : DataW.trod enc Tryd.prog W 0 (fun _ => true) true m 3 [c0] = some y0 := by
      have g := hf 0 _ rfl
      rw [show Tryd.prog.cellsOf _ = 1 from by kernel_rfl] at g
      exact g
    obtain ⟨x0, hk0, hg0⟩ := (el_int Tryd.underlying3) _ _ _ g0
    have g1 : DataW.trod enc Tryd.prog W 0 (fun _ => true) true m 9 [c1] = some y1 := by
      have g := hf 1 _ rfl
      rw [show Tryd.prog.cellsOf _ = 1 from by kernel_rfl] at g
      exact g
    obtain ⟨x1, hk1, hg1⟩ := (el_string Tryd.underlying9) _ _ _ g1
    have g2 : DataW.trod enc Tryd.prog W 0 (fun _ => true) true m 9 [c2] = some y2 := by
      have g := hf 2 _ rfl
      rw [show Tryd.prog.cellsOf _ = 1 from by kernel_rfl] at g
      exact g
    obtain ⟨x2, hk2, hg2⟩ := (el_string Tryd.underlying9) _ _ _ g2
    exact ⟨⟨x0, x1, x2⟩, ⟨[c0], [c1, c2], rfl, hk0, ⟨[c1], [c2], rfl, hk1, hk2⟩⟩, ⟨hg0, hg1, hg2⟩⟩
def laid : List (String × DataW Unit) := [("unicode/utf8.acceptRanges", Rows.laid_unicode_utf8_acceptRanges), ("unicode/utf8.first", Rows.laid_unicode_utf8_first)]
set_option maxRecDepth 100000 in
theorem lifted (os : Os) (started : os.Started) (H : Type) (enc : TypeId × Value → H) :
    ReturnsInHanded {} Tryd.checked os 5 .any (fun w args => (Rows.targetOutSpec.pre enc Tryd.prog Tryd.f5 Rows.targetOutRow.domain false w args ∧ laidMetH Tryd.prog laid w) ∧ sizedMet enc Tryd.prog Tryd.f5 (OpenSpec.ofChange Rows.targetOutSpec) false w args) (Rows.targetOutSpec.post enc Tryd.prog Tryd.f5 false true false false) := by
  refine returnsInHanded_of_change_and (C := Tryd.checked) (X := fun w _ => laidMetH Tryd.prog laid w) (fun _ _ _ hh h => h.of_heap hh) own started (by kernel_rfl) Tryd.func5
    (ChangeSpec.witness_shaped (enc := enc) (C := Tryd.checked) (os := os) (X := fun w _ => laidMetH Tryd.prog laid w) false (World.laidAll Tryd.prog os laid) #[.string ByteArray.empty, .agg #[(.int .i64 0), (.string ⟨#[]⟩), (.string ⟨#[]⟩)]] 8 (World.laidAll_os _ _ _)
      (World.shaped_of_ZipB (by kernel_rfl) (by kernel_rfl)) (by kernel_rfl) (by kernel_rfl) (by kernel_rfl)
      (by rw [MakeChecks.laidMetH_plain _ _ _ (by kernel_rfl)]; exact laidMet_laidAll _ (by kernel_rfl) (by kernel_rfl))) ?_
  intro W base args ds gs before hval0 hW hcnd hsz0 _ _
  have hsz : (DataW.weightsEach Tryd.prog (Tryd.f5.params.toList ++ Rows.targetOutSpec.plain.varTypes Tryd.prog) (ds ++ gs)).all (· ≤ reachBytes) = true := hsz0
  have hval : ∀ (j : Nat) t v, Tryd.f5.params[j]? = some t → args[j]? = some v → Value.okWide Tryd.prog W .any base t v := hval0
  have hW' := hW
  obtain ⟨p, q, hA0, hV, rfl, hfz, hnd⟩ := hW
  have hA : DataW.TrodAll enc Tryd.prog W 0 (fun _ => true) true Tryd.f5.params.toList args.toList ds p := hA0
  rw [Tryd.params5] at hA hval hsz
  obtain ⟨v0, vs0, d0, ds0, p0, q0, hargs, rfl, rfl, h0, r0⟩ := trodAll_cons hA
  obtain ⟨v1, vs1, d1, ds1, p1, q1, rfl, rfl, rfl, h1, r1⟩ := trodAll_cons r0
  obtain ⟨rfl, rfl, rfl⟩ := trodAll_nil r1
  obtain rfl : args = #[v0, v1] := by cases args; simp_all
  obtain ⟨rfl, rfl⟩ := trodVars_none hV
  obtain ⟨a0, rfl, rfl, rfl, y0⟩ := open_string Tryd.underlying9 (hval 0 9 v0 rfl rfl) h0
  have w0 : a0.size ≤ 140737488351232 := by
    have z := sized_string hsz (j := 0) (t := 9) rfl rfl
    rw [Array.length_toList] at z
    exact z
  obtain ⟨cs1, rfl, hs1⟩ := okWide_struct Tryd.underlying32 (hval 1 32 v1 rfl rfl)
  have k1 := h1
  have lt1 : ∀ x ∈ p1, x.block < W.heap.size := by obtain ⟨m, hm⟩ := k1; exact DataW.trod_lt m _ _ _ hm
  obtain ⟨fu1, hf1⟩ := h1
  obtain ⟨x1, hK1, hg1⟩ := el_32 fu1 cs1.toList (d1, p1) (by simpa [Value.cells] using hf1)
  have ho1 := k32_open hK1
  obtain rfl : cs1 = #[.int .i64 x1.f0, .string x1.f1, .string x1.f2] := by cases cs1; simp_all
  clear hA0 hval0 hsz0 hsz
  obtain ⟨k_, hk_⟩ := Pure.TargetOut a0 x1 w0 hg1
  refine (abutmentlaw12_TargetOut.calls k_ a0 x1.f0 x1.f1 x1.f2 true W  hk_).mono ?_
  rintro e W' ⟨rfl, hd⟩
  have bel : Below W.heap.size W W' := hd
  exact ⟨_, rfl, _, _, _, [], _, [], hW', trodAll_mk1 (shut_bool Tryd.underlying4 _), (trodAll_cons_mk (shut_string Tryd.underlying9 y0) (trodAll_cons_mk (Below.trod laidOut (by kernel_rfl) (of_decide_eq_true (by kernel_rfl)) k1 bel lt1) trodAll_mk0)), rfl, bel.frame _, fun h => by cases h⟩
theorem over : Rows.targetOutRow.holds Tryd.pinned (OpenSpec.ofChange Rows.targetOutSpec) :=
  OpenClaim.holds_of_wide 5 Tryd.f5 rfl rfl rfl rfl rfl rfl rfl ⟨rfl, rfl, rfl, rfl, rfl⟩ rfl rfl rfl rfl rfl (by kernel_rfl) Tryd.func5 (by kernel_rfl)
    (of_decide_eq_true (by kernel_rfl)) (by unfold Func.isWrapper; first | (rw [if_pos (by decide +kernel)]; kernel_rfl) | (rw [if_neg (by decide +kernel)]; exact ⟨rfl, rfl⟩))
    (fun os started H enc _ => lifted os started H enc)
theorem proved : Rows.TargetOutSaid := over
theorem card : Rows.TargetOutCardSaid :=
  Claim7.holds_tied_plain_at .later [] [.data, .pinned] true (true, "9508d6c03039419b71088e1e374a479ef8ca0fa9abe09e0ce1422219b94f3a42") true proved (fun _ h => by cases h) (by kernel_rfl) (fun _ h => by cases h) targetOut_row_tie rfl ⟨rfl, rfl⟩ (by kernel_rfl) rfl
    (fun f fn hf hfn => by
      obtain rfl : f = 5 := Option.some.inj ((show Tryd.prog.funcNamed Rows.targetOutRow.func = some 5 by kernel_rfl).symm.trans hf) |>.symm
      obtain rfl : fn = Tryd.f5 := (Option.some.inj (Tryd.func5.symm.trans hfn)).symm
      exact ⟨by kernel_rfl, fun j t ht => by
        rw [Tryd.params5] at ht
        have hm : t ∈ [9, 32] := by simpa using Array.mem_of_getElem? ht
        have hall : ([9, 32].all fun u => !Tryd.prog.wantsStandIn u) = true := by kernel_rfl
        exact (show Tryd.prog.wantsStandIn t = false by simpa using List.all_eq_true.1 hall t hm)⟩)
    (by kernel_rfl)
end Go.Proofs.YtdjmgmiaognncaaDoor.targetOut
namespace Go.Proofs.YtdjmgmiaognncaaDoor
/-- The row, under a short name, for the claim. -/
theorem targetOut_holds : Rows.TargetOutCardSaid := targetOut.card
end Go.Proofs.YtdjmgmiaognncaaDoor
