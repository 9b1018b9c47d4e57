/- Part 2 of the texts behind the claim on ConfigRight: contracts of the functions that it reaches, and plain laws about them. No conditions of its own. -/
import Derived.Test.YtdjmgmiaognncaaCConfigRight1
import Derived.Handy
import Derived.Laws.CopyOwn
import Derived.RangeFuncRecord
import Derived.ArgAppend
import Derived.Deep.RegionLaw
import Derived.Deep.RegionWith
import Derived.Test.YtdjmgmiaognncaaShelf
namespace Go.Proofs.Ytdjmgmiaognncaa.X
open Go.RowKit Go.Proofs.YtdjmgmiaognncaaW.PrintWords Go.Proofs.YtdjmgmiaognncaaW.PrintLast Go.Proofs.YtdjmgmiaognncaaW.PrintMore
attribute [local go_sem] max2_int min2_int max_two min_two max_three min_three max_four min_four   -- for this text's walks alone
set_option linter.unusedVariables false
set_option linter.unusedSimpArgs false

/-! ### config_bounds: function 18 -/
/-- P13.2: a config's numbers, and from what to what they may be. -/
def boundsV (g : Nat) : Array Value := #[.pointer (some ⟨g, 2, none⟩), .int .i64 0, .int .i64 1, .pointer (some ⟨g, 3, none⟩), .int .i64 0, .int .i64 1, .pointer (some ⟨g, 4, none⟩), .int .i64 0, .int .i64 1, .pointer (some ⟨g, 5, none⟩), .int .i64 0, .int .i64 1, .pointer (some ⟨g, 6, none⟩), .int .i64 1, .int .i64 65536, .pointer (some ⟨g, 7, none⟩), .int .i64 1, .int .i64 65536, .pointer (some ⟨g, 8, none⟩), .int .i64 0, .int .i64 100, .pointer (some ⟨g, 9, none⟩), .int .i64 0, .int .i64 1073741824, .pointer (some ⟨g, 10, none⟩), .int .i64 1, .int .i64 16, .pointer (some ⟨g, 11, none⟩), .int .i64 1, .int .i64 16, .pointer (some ⟨g, 12, none⟩), .int .i64 0, .int .i64 1, .pointer (some ⟨g, 13, none⟩), .int .i64 16, .int .i64 65536, .pointer (some ⟨g, 14, none⟩), .int .i64 1, .int .i64 1000, .pointer (some ⟨g, 15, none⟩), .int .i64 3, .int .i64 4096, .pointer (some ⟨g, 16, none⟩), .int .i64 0, .int .i64 1048576, .pointer (some ⟨g, 17, none⟩), .int .i64 0, .int .i64 1]
section
variable {P : Program} {md : Region.Mode} {ops : Array Oper} {Q : Exit → Act → World → Prop}
/-- An operation taken first, its slot written out. -/
theorem takeA {i d : Nat} {oi : Oper} {v : Value} {fuel : Nat} {listed : Array Bool} {a : Act} {w : World} (hi : ops[i]? = some oi) (hd : oi.dst = some d)
    (hs : Region.noSelect ops = true) (hf : Region.free md ops listed i = true) (hr : (Region.ready md ops listed).contains i = true)
    (hQ : ∀ c a w, Q (.panic c) (a.put oi.dst v) w → Q (.panic c) a w) (hy : Yields P ops oi v a)
    (h : wpAny P md ops Q fuel (listed.setIfInBounds i true) { tmps := a.tmps.setIfInBounds d v, defers := a.defers } w) : wpAny P md ops Q (fuel + 1) listed a w := by
  refine wpAny_take hi hs hf hr hQ hy ?_
  rw [hd]
  exact h
end
theorem bounds_results (X : World) (r0 g : Nat) (hX : X.heap[r0]? = some (.cells (boundsV g) 44 (0, 0))) (tmps : Array Value) (h2 : tmps.getD 2 undef = .pointer (some ⟨r0, 0, none⟩)) :
    (results Try.f18 tmps).run Try.prog X = .ok (.agg (boundsV g)) X := by
  exact results_cell_row (fn := Try.f18) (P := Try.prog) (p := 2) rfl tmps X r0 _ _ _ _ h2 hX Try.underlying44 (by rfl) (by kernel_rfl)
set_option maxHeartbeats 8000000 in
set_option maxRecDepth 1000000 in
theorem bounds_wp (g : Nat) (w : World) : Calls Try.prog 18 #[.pointer (some ⟨g, 0, none⟩)] w fun e w' => e = .returned (.agg (boundsV g)) ∧ Below w.heap.size w w' := by
  go_enter Try.func18, Try.ntmps18
  go_wp2
  refine wp_region_any (by kernel_rfl) ?_
  change wpAny _ _ _ _ _ _ _ (World.drew _)
  refine takeA (i := 0) (d := 7) (v := .pointer (some ⟨g, 0, none⟩)) rfl rfl (by kernel_rfl) (by kernel_rfl) (by kernel_rfl) (fun _ _ _ h => h) (Or.inl ⟨by kernel_rfl, fun _ => by kernel_rfl⟩) ?_
  simp only [List.setIfInBounds_toArray, List.set_cons_zero, List.set_cons_succ]
  refine takeA (i := 1) (d := 8) (v := .pointer (some ⟨g, 0, none⟩)) rfl rfl (by kernel_rfl) (by kernel_rfl) (by kernel_rfl) (fun _ _ _ h => h) (Or.inl ⟨by kernel_rfl, fun _ => by kernel_rfl⟩) ?_
  simp only [List.setIfInBounds_toArray, List.set_cons_zero, List.set_cons_succ]
  refine takeA (i := 2) (d := 9) (v := .pointer (some ⟨g, 2, none⟩)) rfl rfl (by kernel_rfl) (by kernel_rfl) (by kernel_rfl) (fun _ _ _ h => h) (Or.inl ⟨by kernel_rfl, fun _ => by kernel_rfl⟩) ?_
  simp only [List.setIfInBounds_toArray, List.set_cons_zero, List.set_cons_succ]
  refine takeA (i := 3) (d := 10) (v := .agg #[.pointer (some ⟨g, 2, none⟩), .int .i64 0, .int .i64 1]) rfl rfl (by kernel_rfl) (by kernel_rfl) (by kernel_rfl) (fun _ _ _ h => h) (Or.inl ⟨by kernel_rfl, fun _ => by kernel_rfl⟩) ?_
  simp only [List.setIfInBounds_toArray, List.set_cons_zero, List.set_cons_succ]
  refine takeA (i := 4) (d := 11) (v := .pointer (some ⟨g, 0, none⟩)) rfl rfl (by kernel_rfl) (by kernel_rfl) (by kernel_rfl) (fun _ _ _ h => h) (Or.inl ⟨by kernel_rfl, fun _ => by kernel_rfl⟩) ?_
  simp only [List.setIfInBounds_toArray, List.set_cons_zero, List.set_cons_succ]
  refine takeA (i := 5) (d := 12) (v := .pointer (some ⟨g, 0, none⟩)) rfl rfl (by kernel_rfl) (by kernel_rfl) (by kernel_rfl) (fun _ _ _ h => h) (Or.inl ⟨by kernel_rfl, fun _ => by kernel_rfl⟩) ?_
  simp only [List.setIfInBounds_toArray, List.set_cons_zero, List.set_cons_succ]
  refine takeA (i := 6) (d := 13) (v := .pointer (some ⟨g, 3, none⟩)) rfl rfl (by kernel_rfl) (by kernel_rfl) (by kernel_rfl) (fun _ _ _ h => h) (Or.inl ⟨by kernel_rfl, fun _ => by kernel_rfl⟩) ?_
  simp only [List.setIfInBounds_toArray, List.set_cons_zero, List.set_cons_succ]
  refine takeA (i := 7) (d := 14) (v := .agg #[.pointer (some ⟨g, 3, none⟩), .int .i64 0, .int .i64 1]) rfl rfl (by kernel_rfl) (by kernel_rfl) (by kernel_rfl) (fun _ _ _ h => h) (Or.inl ⟨by kernel_rfl, fun _ => by kernel_rfl⟩) ?_
  simp only [List.setIfInBounds_toArray, List.set_cons_zero, List.set_cons_succ]
  refine takeA (i := 8) (d := 15) (v := .pointer (some ⟨g, 0, none⟩)) rfl rfl (by kernel_rfl) (by kernel_rfl) (by kernel_rfl) (fun _ _ _ h => h) (Or.inl ⟨by kernel_rfl, fun _ => by kernel_rfl⟩) ?_
  simp only [List.setIfInBounds_toArray, List.set_cons_zero, List.set_cons_succ]
  refine takeA (i := 9) (d := 16) (v := .pointer (some ⟨g, 0, none⟩)) rfl rfl (by kernel_rfl) (by kernel_rfl) (by kernel_rfl) (fun _ _ _ h => h) (Or.inl ⟨by kernel_rfl, fun _ => by kernel_rfl⟩) ?_
  simp only [List.setIfInBounds_toArray, List.set_cons_zero, List.set_cons_succ]
  refine takeA (i := 10) (d := 17) (v := .pointer (some ⟨g, 4, none⟩)) rfl rfl (by kernel_rfl) (by kernel_rfl) (by kernel_rfl) (fun _ _ _ h => h) (Or.inl ⟨by kernel_rfl, fun _ => by kernel_rfl⟩) ?_
  simp only [List.setIfInBounds_toArray, List.set_cons_zero, List.set_cons_succ]
  refine takeA (i := 11) (d := 18) (v := .agg #[.pointer (some ⟨g, 4, none⟩), .int .i64 0, .int .i64 1]) rfl rfl (by kernel_rfl) (by kernel_rfl) (by kernel_rfl) (fun _ _ _ h => h) (Or.inl ⟨by kernel_rfl, fun _ => by kernel_rfl⟩) ?_
  simp only [List.setIfInBounds_toArray, List.set_cons_zero, List.set_cons_succ]
  refine takeA (i := 12) (d := 19) (v := .pointer (some ⟨g, 0, none⟩)) rfl rfl (by kernel_rfl) (by kernel_rfl) (by kernel_rfl) (fun _ _ _ h => h) (Or.inl ⟨by kernel_rfl, fun _ => by kernel_rfl⟩) ?_
  simp only [List.setIfInBounds_toArray, List.set_cons_zero, List.set_cons_succ]
  refine takeA (i := 13) (d := 20) (v := .pointer (some ⟨g, 0, none⟩)) rfl rfl (by kernel_rfl) (by kernel_rfl) (by kernel_rfl) (fun _ _ _ h => h) (Or.inl ⟨by kernel_rfl, fun _ => by kernel_rfl⟩) ?_
  simp only [List.setIfInBounds_toArray, List.set_cons_zero, List.set_cons_succ]
  refine takeA (i := 14) (d := 21) (v := .pointer (some ⟨g, 5, none⟩)) rfl rfl (by kernel_rfl) (by kernel_rfl) (by kernel_rfl) (fun _ _ _ h => h) (Or.inl ⟨by kernel_rfl, fun _ => by kernel_rfl⟩) ?_
  simp only [List.setIfInBounds_toArray, List.set_cons_zero, List.set_cons_succ]
  refine takeA (i := 15) (d := 22) (v := .agg #[.pointer (some ⟨g, 5, none⟩), .int .i64 0, .int .i64 1]) rfl rfl (by kernel_rfl) (by kernel_rfl) (by kernel_rfl) (fun _ _ _ h => h) (Or.inl ⟨by kernel_rfl, fun _ => by kernel_rfl⟩) ?_
  simp only [List.setIfInBounds_toArray, List.set_cons_zero, List.set_cons_succ]
  refine takeA (i := 16) (d := 23) (v := .pointer (some ⟨g, 0, none⟩)) rfl rfl (by kernel_rfl) (by kernel_rfl) (by kernel_rfl) (fun _ _ _ h => h) (Or.inl ⟨by kernel_rfl, fun _ => by kernel_rfl⟩) ?_
  simp only [List.setIfInBounds_toArray, List.set_cons_zero, List.set_cons_succ]
  refine takeA (i := 17) (d := 24) (v := .pointer (some ⟨g, 0, none⟩)) rfl rfl (by kernel_rfl) (by kernel_rfl) (by kernel_rfl) (fun _ _ _ h => h) (Or.inl ⟨by kernel_rfl, fun _ => by kernel_rfl⟩) ?_
  simp only [List.setIfInBounds_toArray, List.set_cons_zero, List.set_cons_succ]
  refine takeA (i := 18) (d := 25) (v := .pointer (some ⟨g, 6, none⟩)) rfl rfl (by kernel_rfl) (by kernel_rfl) (by kernel_rfl) (fun _ _ _ h => h) (Or.inl ⟨by kernel_rfl, fun _ => by kernel_rfl⟩) ?_
  simp only [List.setIfInBounds_toArray, List.set_cons_zero, List.set_cons_succ]
  refine takeA (i := 19) (d := 26) (v := .agg #[.pointer (some ⟨g, 6, none⟩), .int .i64 1, .int .i64 65536]) rfl rfl (by kernel_rfl) (by kernel_rfl) (by kernel_rfl) (fun _ _ _ h => h) (Or.inl ⟨by kernel_rfl, fun _ => by kernel_rfl⟩) ?_
  simp only [List.setIfInBounds_toArray, List.set_cons_zero, List.set_cons_succ]
  refine takeA (i := 20) (d := 27) (v := .pointer (some ⟨g, 0, none⟩)) rfl rfl (by kernel_rfl) (by kernel_rfl) (by kernel_rfl) (fun _ _ _ h => h) (Or.inl ⟨by kernel_rfl, fun _ => by kernel_rfl⟩) ?_
  simp only [List.setIfInBounds_toArray, List.set_cons_zero, List.set_cons_succ]
  refine takeA (i := 21) (d := 28) (v := .pointer (some ⟨g, 0, none⟩)) rfl rfl (by kernel_rfl) (by kernel_rfl) (by kernel_rfl) (fun _ _ _ h => h) (Or.inl ⟨by kernel_rfl, fun _ => by kernel_rfl⟩) ?_
  simp only [List.setIfInBounds_toArray, List.set_cons_zero, List.set_cons_succ]
  refine takeA (i := 22) (d := 29) (v := .pointer (some ⟨g, 7, none⟩)) rfl rfl (by kernel_rfl) (by kernel_rfl) (by kernel_rfl) (fun _ _ _ h => h) (Or.inl ⟨by kernel_rfl, fun _ => by kernel_rfl⟩) ?_
  simp only [List.setIfInBounds_toArray, List.set_cons_zero, List.set_cons_succ]
  refine takeA (i := 23) (d := 30) (v := .agg #[.pointer (some ⟨g, 7, none⟩), .int .i64 1, .int .i64 65536]) rfl rfl (by kernel_rfl) (by kernel_rfl) (by kernel_rfl) (fun _ _ _ h => h) (Or.inl ⟨by kernel_rfl, fun _ => by kernel_rfl⟩) ?_
  simp only [List.setIfInBounds_toArray, List.set_cons_zero, List.set_cons_succ]
  refine takeA (i := 24) (d := 31) (v := .pointer (some ⟨g, 0, none⟩)) rfl rfl (by kernel_rfl) (by kernel_rfl) (by kernel_rfl) (fun _ _ _ h => h) (Or.inl ⟨by kernel_rfl, fun _ => by kernel_rfl⟩) ?_
  simp only [List.setIfInBounds_toArray, List.set_cons_zero, List.set_cons_succ]
  refine takeA (i := 25) (d := 32) (v := .pointer (some ⟨g, 0, none⟩)) rfl rfl (by kernel_rfl) (by kernel_rfl) (by kernel_rfl) (fun _ _ _ h => h) (Or.inl ⟨by kernel_rfl, fun _ => by kernel_rfl⟩) ?_
  simp only [List.setIfInBounds_toArray, List.set_cons_zero, List.set_cons_succ]
  refine takeA (i := 26) (d := 33) (v := .pointer (some ⟨g, 8, none⟩)) rfl rfl (by kernel_rfl) (by kernel_rfl) (by kernel_rfl) (fun _ _ _ h => h) (Or.inl ⟨by kernel_rfl, fun _ => by kernel_rfl⟩) ?_
  simp only [List.setIfInBounds_toArray, List.set_cons_zero, List.set_cons_succ]
  refine takeA (i := 27) (d := 34) (v := .agg #[.pointer (some ⟨g, 8, none⟩), .int .i64 0, .int .i64 100]) rfl rfl (by kernel_rfl) (by kernel_rfl) (by kernel_rfl) (fun _ _ _ h => h) (Or.inl ⟨by kernel_rfl, fun _ => by kernel_rfl⟩) ?_
  simp only [List.setIfInBounds_toArray, List.set_cons_zero, List.set_cons_succ]
  refine takeA (i := 28) (d := 35) (v := .pointer (some ⟨g, 0, none⟩)) rfl rfl (by kernel_rfl) (by kernel_rfl) (by kernel_rfl) (fun _ _ _ h => h) (Or.inl ⟨by kernel_rfl, fun _ => by kernel_rfl⟩) ?_
  simp only [List.setIfInBounds_toArray, List.set_cons_zero, List.set_cons_succ]
  refine takeA (i := 29) (d := 36) (v := .pointer (some ⟨g, 0, none⟩)) rfl rfl (by kernel_rfl) (by kernel_rfl) (by kernel_rfl) (fun _ _ _ h => h) (Or.inl ⟨by kernel_rfl, fun _ => by kernel_rfl⟩) ?_
  simp only [List.setIfInBounds_toArray, List.set_cons_zero, List.set_cons_succ]
  refine takeA (i := 30) (d := 37) (v := .pointer (some ⟨g, 9, none⟩)) rfl rfl (by kernel_rfl) (by kernel_rfl) (by kernel_rfl) (fun _ _ _ h => h) (Or.inl ⟨by kernel_rfl, fun _ => by kernel_rfl⟩) ?_
  simp only [List.setIfInBounds_toArray, List.set_cons_zero, List.set_cons_succ]
  refine takeA (i := 31) (d := 38) (v := .agg #[.pointer (some ⟨g, 9, none⟩), .int .i64 0, .int .i64 1073741824]) rfl rfl (by kernel_rfl) (by kernel_rfl) (by kernel_rfl) (fun _ _ _ h => h) (Or.inl ⟨by kernel_rfl, fun _ => by kernel_rfl⟩) ?_
  simp only [List.setIfInBounds_toArray, List.set_cons_zero, List.set_cons_succ]
  refine takeA (i := 32) (d := 39) (v := .pointer (some ⟨g, 0, none⟩)) rfl rfl (by kernel_rfl) (by kernel_rfl) (by kernel_rfl) (fun _ _ _ h => h) (Or.inl ⟨by kernel_rfl, fun _ => by kernel_rfl⟩) ?_
  simp only [List.setIfInBounds_toArray, List.set_cons_zero, List.set_cons_succ]
  refine takeA (i := 33) (d := 40) (v := .pointer (some ⟨g, 0, none⟩)) rfl rfl (by kernel_rfl) (by kernel_rfl) (by kernel_rfl) (fun _ _ _ h => h) (Or.inl ⟨by kernel_rfl, fun _ => by kernel_rfl⟩) ?_
  simp only [List.setIfInBounds_toArray, List.set_cons_zero, List.set_cons_succ]
  refine takeA (i := 34) (d := 41) (v := .pointer (some ⟨g, 10, none⟩)) rfl rfl (by kernel_rfl) (by kernel_rfl) (by kernel_rfl) (fun _ _ _ h => h) (Or.inl ⟨by kernel_rfl, fun _ => by kernel_rfl⟩) ?_
  simp only [List.setIfInBounds_toArray, List.set_cons_zero, List.set_cons_succ]
  refine takeA (i := 35) (d := 42) (v := .agg #[.pointer (some ⟨g, 10, none⟩), .int .i64 1, .int .i64 16]) rfl rfl (by kernel_rfl) (by kernel_rfl) (by kernel_rfl) (fun _ _ _ h => h) (Or.inl ⟨by kernel_rfl, fun _ => by kernel_rfl⟩) ?_
  simp only [List.setIfInBounds_toArray, List.set_cons_zero, List.set_cons_succ]
  refine takeA (i := 36) (d := 43) (v := .pointer (some ⟨g, 0, none⟩)) rfl rfl (by kernel_rfl) (by kernel_rfl) (by kernel_rfl) (fun _ _ _ h => h) (Or.inl ⟨by kernel_rfl, fun _ => by kernel_rfl⟩) ?_
  simp only [List.setIfInBounds_toArray, List.set_cons_zero, List.set_cons_succ]
  refine takeA (i := 37) (d := 44) (v := .pointer (some ⟨g, 0, none⟩)) rfl rfl (by kernel_rfl) (by kernel_rfl) (by kernel_rfl) (fun _ _ _ h => h) (Or.inl ⟨by kernel_rfl, fun _ => by kernel_rfl⟩) ?_
  simp only [List.setIfInBounds_toArray, List.set_cons_zero, List.set_cons_succ]
  refine takeA (i := 38) (d := 45) (v := .pointer (some ⟨g, 11, none⟩)) rfl rfl (by kernel_rfl) (by kernel_rfl) (by kernel_rfl) (fun _ _ _ h => h) (Or.inl ⟨by kernel_rfl, fun _ => by kernel_rfl⟩) ?_
  simp only [List.setIfInBounds_toArray, List.set_cons_zero, List.set_cons_succ]
  refine takeA (i := 39) (d := 46) (v := .agg #[.pointer (some ⟨g, 11, none⟩), .int .i64 1, .int .i64 16]) rfl rfl (by kernel_rfl) (by kernel_rfl) (by kernel_rfl) (fun _ _ _ h => h) (Or.inl ⟨by kernel_rfl, fun _ => by kernel_rfl⟩) ?_
  simp only [List.setIfInBounds_toArray, List.set_cons_zero, List.set_cons_succ]
  refine takeA (i := 40) (d := 47) (v := .pointer (some ⟨g, 0, none⟩)) rfl rfl (by kernel_rfl) (by kernel_rfl) (by kernel_rfl) (fun _ _ _ h => h) (Or.inl ⟨by kernel_rfl, fun _ => by kernel_rfl⟩) ?_
  simp only [List.setIfInBounds_toArray, List.set_cons_zero, List.set_cons_succ]
  refine takeA (i := 41) (d := 48) (v := .pointer (some ⟨g, 0, none⟩)) rfl rfl (by kernel_rfl) (by kernel_rfl) (by kernel_rfl) (fun _ _ _ h => h) (Or.inl ⟨by kernel_rfl, fun _ => by kernel_rfl⟩) ?_
  simp only [List.setIfInBounds_toArray, List.set_cons_zero, List.set_cons_succ]
  refine takeA (i := 42) (d := 49) (v := .pointer (some ⟨g, 12, none⟩)) rfl rfl (by kernel_rfl) (by kernel_rfl) (by kernel_rfl) (fun _ _ _ h => h) (Or.inl ⟨by kernel_rfl, fun _ => by kernel_rfl⟩) ?_
  simp only [List.setIfInBounds_toArray, List.set_cons_zero, List.set_cons_succ]
  refine takeA (i := 43) (d := 50) (v := .agg #[.pointer (some ⟨g, 12, none⟩), .int .i64 0, .int .i64 1]) rfl rfl (by kernel_rfl) (by kernel_rfl) (by kernel_rfl) (fun _ _ _ h => h) (Or.inl ⟨by kernel_rfl, fun _ => by kernel_rfl⟩) ?_
  simp only [List.setIfInBounds_toArray, List.set_cons_zero, List.set_cons_succ]
  refine takeA (i := 44) (d := 51) (v := .pointer (some ⟨g, 13, none⟩)) rfl rfl (by kernel_rfl) (by kernel_rfl) (by kernel_rfl) (fun _ _ _ h => h) (Or.inl ⟨by kernel_rfl, fun _ => by kernel_rfl⟩) ?_
  simp only [List.setIfInBounds_toArray, List.set_cons_zero, List.set_cons_succ]
  refine takeA (i := 45) (d := 52) (v := .pointer (some ⟨g, 13, none⟩)) rfl rfl (by kernel_rfl) (by kernel_rfl) (by kernel_rfl) (fun _ _ _ h => h) (Or.inl ⟨by kernel_rfl, fun _ => by kernel_rfl⟩) ?_
  simp only [List.setIfInBounds_toArray, List.set_cons_zero, List.set_cons_succ]
  refine takeA (i := 46) (d := 53) (v := .pointer (some ⟨g, 13, none⟩)) rfl rfl (by kernel_rfl) (by kernel_rfl) (by kernel_rfl) (fun _ _ _ h => h) (Or.inl ⟨by kernel_rfl, fun _ => by kernel_rfl⟩) ?_
  simp only [List.setIfInBounds_toArray, List.set_cons_zero, List.set_cons_succ]
  refine takeA (i := 47) (d := 54) (v := .agg #[.pointer (some ⟨g, 13, none⟩), .int .i64 16, .int .i64 65536]) rfl rfl (by kernel_rfl) (by kernel_rfl) (by kernel_rfl) (fun _ _ _ h => h) (Or.inl ⟨by kernel_rfl, fun _ => by kernel_rfl⟩) ?_
  simp only [List.setIfInBounds_toArray, List.set_cons_zero, List.set_cons_succ]
  refine takeA (i := 48) (d := 55) (v := .pointer (some ⟨g, 13, none⟩)) rfl rfl (by kernel_rfl) (by kernel_rfl) (by kernel_rfl) (fun _ _ _ h => h) (Or.inl ⟨by kernel_rfl, fun _ => by kernel_rfl⟩) ?_
  simp only [List.setIfInBounds_toArray, List.set_cons_zero, List.set_cons_succ]
  refine takeA (i := 49) (d := 56) (v := .pointer (some ⟨g, 13, none⟩)) rfl rfl (by kernel_rfl) (by kernel_rfl) (by kernel_rfl) (fun _ _ _ h => h) (Or.inl ⟨by kernel_rfl, fun _ => by kernel_rfl⟩) ?_
  simp only [List.setIfInBounds_toArray, List.set_cons_zero, List.set_cons_succ]
  refine takeA (i := 50) (d := 57) (v := .pointer (some ⟨g, 14, none⟩)) rfl rfl (by kernel_rfl) (by kernel_rfl) (by kernel_rfl) (fun _ _ _ h => h) (Or.inl ⟨by kernel_rfl, fun _ => by kernel_rfl⟩) ?_
  simp only [List.setIfInBounds_toArray, List.set_cons_zero, List.set_cons_succ]
  refine takeA (i := 51) (d := 58) (v := .agg #[.pointer (some ⟨g, 14, none⟩), .int .i64 1, .int .i64 1000]) rfl rfl (by kernel_rfl) (by kernel_rfl) (by kernel_rfl) (fun _ _ _ h => h) (Or.inl ⟨by kernel_rfl, fun _ => by kernel_rfl⟩) ?_
  simp only [List.setIfInBounds_toArray, List.set_cons_zero, List.set_cons_succ]
  refine takeA (i := 52) (d := 59) (v := .pointer (some ⟨g, 13, none⟩)) rfl rfl (by kernel_rfl) (by kernel_rfl) (by kernel_rfl) (fun _ _ _ h => h) (Or.inl ⟨by kernel_rfl, fun _ => by kernel_rfl⟩) ?_
  simp only [List.setIfInBounds_toArray, List.set_cons_zero, List.set_cons_succ]
  refine takeA (i := 53) (d := 60) (v := .pointer (some ⟨g, 13, none⟩)) rfl rfl (by kernel_rfl) (by kernel_rfl) (by kernel_rfl) (fun _ _ _ h => h) (Or.inl ⟨by kernel_rfl, fun _ => by kernel_rfl⟩) ?_
  simp only [List.setIfInBounds_toArray, List.set_cons_zero, List.set_cons_succ]
  refine takeA (i := 54) (d := 61) (v := .pointer (some ⟨g, 15, none⟩)) rfl rfl (by kernel_rfl) (by kernel_rfl) (by kernel_rfl) (fun _ _ _ h => h) (Or.inl ⟨by kernel_rfl, fun _ => by kernel_rfl⟩) ?_
  simp only [List.setIfInBounds_toArray, List.set_cons_zero, List.set_cons_succ]
  refine takeA (i := 55) (d := 62) (v := .agg #[.pointer (some ⟨g, 15, none⟩), .int .i64 3, .int .i64 4096]) rfl rfl (by kernel_rfl) (by kernel_rfl) (by kernel_rfl) (fun _ _ _ h => h) (Or.inl ⟨by kernel_rfl, fun _ => by kernel_rfl⟩) ?_
  simp only [List.setIfInBounds_toArray, List.set_cons_zero, List.set_cons_succ]
  refine takeA (i := 56) (d := 63) (v := .pointer (some ⟨g, 13, none⟩)) rfl rfl (by kernel_rfl) (by kernel_rfl) (by kernel_rfl) (fun _ _ _ h => h) (Or.inl ⟨by kernel_rfl, fun _ => by kernel_rfl⟩) ?_
  simp only [List.setIfInBounds_toArray, List.set_cons_zero, List.set_cons_succ]
  refine takeA (i := 57) (d := 64) (v := .pointer (some ⟨g, 13, none⟩)) rfl rfl (by kernel_rfl) (by kernel_rfl) (by kernel_rfl) (fun _ _ _ h => h) (Or.inl ⟨by kernel_rfl, fun _ => by kernel_rfl⟩) ?_
  simp only [List.setIfInBounds_toArray, List.set_cons_zero, List.set_cons_succ]
  refine takeA (i := 58) (d := 65) (v := .pointer (some ⟨g, 16, none⟩)) rfl rfl (by kernel_rfl) (by kernel_rfl) (by kernel_rfl) (fun _ _ _ h => h) (Or.inl ⟨by kernel_rfl, fun _ => by kernel_rfl⟩) ?_
  simp only [List.setIfInBounds_toArray, List.set_cons_zero, List.set_cons_succ]
  refine takeA (i := 59) (d := 66) (v := .agg #[.pointer (some ⟨g, 16, none⟩), .int .i64 0, .int .i64 1048576]) rfl rfl (by kernel_rfl) (by kernel_rfl) (by kernel_rfl) (fun _ _ _ h => h) (Or.inl ⟨by kernel_rfl, fun _ => by kernel_rfl⟩) ?_
  simp only [List.setIfInBounds_toArray, List.set_cons_zero, List.set_cons_succ]
  refine takeA (i := 60) (d := 67) (v := .pointer (some ⟨g, 13, none⟩)) rfl rfl (by kernel_rfl) (by kernel_rfl) (by kernel_rfl) (fun _ _ _ h => h) (Or.inl ⟨by kernel_rfl, fun _ => by kernel_rfl⟩) ?_
  simp only [List.setIfInBounds_toArray, List.set_cons_zero, List.set_cons_succ]
  refine takeA (i := 61) (d := 68) (v := .pointer (some ⟨g, 13, none⟩)) rfl rfl (by kernel_rfl) (by kernel_rfl) (by kernel_rfl) (fun _ _ _ h => h) (Or.inl ⟨by kernel_rfl, fun _ => by kernel_rfl⟩) ?_
  simp only [List.setIfInBounds_toArray, List.set_cons_zero, List.set_cons_succ]
  refine takeA (i := 62) (d := 69) (v := .pointer (some ⟨g, 17, none⟩)) rfl rfl (by kernel_rfl) (by kernel_rfl) (by kernel_rfl) (fun _ _ _ h => h) (Or.inl ⟨by kernel_rfl, fun _ => by kernel_rfl⟩) ?_
  simp only [List.setIfInBounds_toArray, List.set_cons_zero, List.set_cons_succ]
  refine takeA (i := 63) (d := 70) (v := .agg #[.pointer (some ⟨g, 17, none⟩), .int .i64 0, .int .i64 1]) rfl rfl (by kernel_rfl) (by kernel_rfl) (by kernel_rfl) (fun _ _ _ h => h) (Or.inl ⟨by kernel_rfl, fun _ => by kernel_rfl⟩) ?_
  simp only [List.setIfInBounds_toArray, List.set_cons_zero, List.set_cons_succ]
  refine takeA (i := 64) (d := 71) (v := .agg #[.pointer (some ⟨g, 2, none⟩), .int .i64 0, .int .i64 1, .pointer (some ⟨g, 3, none⟩), .int .i64 0, .int .i64 1, .pointer (some ⟨g, 4, none⟩), .int .i64 0, .int .i64 1, .pointer (some ⟨g, 5, none⟩), .int .i64 0, .int .i64 1, .pointer (some ⟨g, 6, none⟩), .int .i64 1, .int .i64 65536, .pointer (some ⟨g, 7, none⟩), .int .i64 1, .int .i64 65536, .pointer (some ⟨g, 8, none⟩), .int .i64 0, .int .i64 100, .pointer (some ⟨g, 9, none⟩), .int .i64 0, .int .i64 1073741824, .pointer (some ⟨g, 10, none⟩), .int .i64 1, .int .i64 16, .pointer (some ⟨g, 11, none⟩), .int .i64 1, .int .i64 16, .pointer (some ⟨g, 12, none⟩), .int .i64 0, .int .i64 1, .pointer (some ⟨g, 13, none⟩), .int .i64 16, .int .i64 65536, .pointer (some ⟨g, 14, none⟩), .int .i64 1, .int .i64 1000, .pointer (some ⟨g, 15, none⟩), .int .i64 3, .int .i64 4096, .pointer (some ⟨g, 16, none⟩), .int .i64 0, .int .i64 1048576, .pointer (some ⟨g, 17, none⟩), .int .i64 0, .int .i64 1]) rfl rfl (by kernel_rfl) (by kernel_rfl) (by kernel_rfl) (fun _ _ _ h => h) (Or.inl ⟨by kernel_rfl, fun _ => by kernel_rfl⟩) ?_
  simp only [List.setIfInBounds_toArray, List.set_cons_zero, List.set_cons_succ]
  refine wpAny_ready (rs := [65]) (by kernel_rfl) (by simp) ?_
  refine AllReady.cons rfl (fun K hK => ?_) AllReady.nil
  rw [if_pos (by kernel_rfl)]
  refine wp_store_row _ (.tmp 2) (.tmp 71) rfl w.heap.size (boundsV g) rfl rfl _ _ (World.alloc_heap_new _ _) (by kernel_rfl) (by kernel_rfl) (by kernel_rfl) ?_
  refine hK _ _ ?_
  clear hK K
  refine wpAny_done (by kernel_rfl) ?_ _
  go_wp2
  generalize hX : World.setRow _ _ _ = X
  have hb : X.heap[w.heap.size]? = some (.cells (boundsV g) 44 (0, 0)) := by rw [← hX]; exact setRow_heap _ _ _ _ _ _ (World.alloc_heap_new _ _)
  have hB : Below w.heap.size w X := by rw [← hX]; exact below_setRow ((Below.refl _ w).alloc (Nat.le_refl _) _).drew (Nat.le_refl _) _
  clear hX
  refine bodyPost_ret (bounds_results X w.heap.size g hb _ (by kernel_rfl)) rfl ⟨rfl, hB⟩


end Go.Proofs.Ytdjmgmiaognncaa.X
namespace Go.Proofs.Ytdjmgmiaognncaa.X
open Go.RowKit Go.Proofs.YtdjmgmiaognncaaW.PrintWords Go.Proofs.YtdjmgmiaognncaaW.PrintLast Go.Proofs.YtdjmgmiaognncaaW.PrintMore
attribute [local go_sem] max2_int min2_int max_two min_two max_three min_three max_four min_four   -- for this text's walks alone
set_option linter.unusedVariables false
set_option linter.unusedSimpArgs false

/-! ### config_Right: function 6 -/
/-- Is a number in its bounds. -/
def inB (n l h : Int) : Bool := decide (l ≤ n) && decide (n ≤ h)
/-- P13.2: are a config's numbers in their bounds (the numbers in order; from what to what). -/
def insB : List (Int × Int × Int) → Bool
  | [] => true
  | (n, l, h) :: r => inB n l h && insB r
def rightN (n0 n1 n2 n3 n4 n5 n6 n7 n8 n9 n10 n11 n12 n13 n14 n15 : Int) : List (Int × Int × Int) := [(n0, 0, 1), (n1, 0, 1), (n2, 0, 1), (n3, 0, 1), (n4, 1, 65536), (n5, 1, 65536), (n6, 0, 100), (n7, 0, 1073741824), (n8, 1, 16), (n9, 1, 16), (n10, 0, 1), (n11, 16, 65536), (n12, 1, 1000), (n13, 3, 4096), (n14, 0, 1048576), (n15, 0, 1)]
def nameBad (s : ByteArray) : Bool := !octetToken s || decide (100 < (s.size : Int))
def hostBad (s k : ByteArray) : Bool := !s.toList.isEmpty && (k.toList != s.toList || decide (200 < (k.size : Int)) || k.toList == [45])
def config_Right.f (a0_0 : ByteArray) (a0_1 : ByteArray) (a0_2 : Int) (a0_3 : Int) (a0_4 : Int) (a0_5 : Int) (a0_6 : Int) (a0_7 : Int) (a0_8 : Int) (a0_9 : Int) (a0_10 : Int) (a0_11 : Int) (a0_12 : Int) (a0_13 : Int) (a0_14 : Int) (a0_15 : Int) (a0_16 : Int) (a0_17 : Int) : Option (Int) := (host_Key.f 1000000000 a0_1).bind fun p => some (if nameBad a0_0 then 6 else if hostBad a0_1 p.1 then 13 else if insB (rightN a0_2 a0_3 a0_4 a0_5 a0_6 a0_7 a0_8 a0_9 a0_10 a0_11 a0_12 a0_13 a0_14 a0_15 a0_16 a0_17) then 0 else 5)
/-- The block that holds the config. -/
def CBox (g : Nat) (s t : ByteArray) (n0 n1 n2 n3 n4 n5 n6 n7 n8 n9 n10 n11 n12 n13 n14 n15 : Int) (W : World) : Prop := W.heap[g]? = some (.cells #[.string s, .string t, .int .i64 n0, .int .i64 n1, .int .i64 n2, .int .i64 n3, .int .i64 n4, .int .i64 n5, .int .i64 n6, .int .i64 n7, .int .i64 n8, .int .i64 n9, .int .i64 n10, .int .i64 n11, .int .i64 n12, .int .i64 n13, .int .i64 n14, .int .i64 n15] 25 (0, 0))
section
variable {g : Nat} {s t : ByteArray} {n0 n1 n2 n3 n4 n5 n6 n7 n8 n9 n10 n11 n12 n13 n14 n15 : Int} {W X : World}
theorem CBox.next (h : CBox g s t n0 n1 n2 n3 n4 n5 n6 n7 n8 n9 n10 n11 n12 n13 n14 n15 W) (hb : Below W.heap.size W X) : CBox g s t n0 n1 n2 n3 n4 n5 n6 n7 n8 n9 n10 n11 n12 n13 n14 n15 X := (hb.block g (Array.getElem?_eq_some_iff.1 h).1).trans h
theorem CBox.name (h : CBox g s t n0 n1 n2 n3 n4 n5 n6 n7 n8 n9 n10 n11 n12 n13 n14 n15 W) : W.cell? ⟨g, 0, none⟩ = some (.string s) := by
  unfold CBox at h
  simp only [World.cell?, h]
  rfl
theorem CBox.host (h : CBox g s t n0 n1 n2 n3 n4 n5 n6 n7 n8 n9 n10 n11 n12 n13 n14 n15 W) : W.cell? ⟨g, 1, none⟩ = some (.string t) := by
  unfold CBox at h
  simp only [World.cell?, h]
  rfl
end
set_option maxRecDepth 100000 in
/-- An array's member by its place. -/
theorem bound_at (g : Nat) (n0 n1 n2 n3 n4 n5 n6 n7 n8 n9 n10 n11 n12 n13 n14 n15 : Int) (s t : ByteArray) (i : Nat) (hi : i < 16) :
    ∃ o n l h, (∀ X, (Instr.index 44 (.agg (boundsV g)) (.int .i64 (i : Int))).run Try.prog X = .ok (.agg #[.pointer (some ⟨g, o, none⟩), .int .i64 l, .int .i64 h]) X) ∧ (∀ W, CBox g s t n0 n1 n2 n3 n4 n5 n6 n7 n8 n9 n10 n11 n12 n13 n14 n15 W → W.cell? ⟨g, o, none⟩ = some (.int .i64 n))
      ∧ (rightN n0 n1 n2 n3 n4 n5 n6 n7 n8 n9 n10 n11 n12 n13 n14 n15)[i]? = some (n, l, h) := by
  match i, hi with
  | 0, _ => exact ⟨2, n0, 0, 1, fun X => by kernel_rfl, fun W h => by unfold CBox at h; simp only [World.cell?, h]; rfl, rfl⟩
  | 1, _ => exact ⟨3, n1, 0, 1, fun X => by kernel_rfl, fun W h => by unfold CBox at h; simp only [World.cell?, h]; rfl, rfl⟩
  | 2, _ => exact ⟨4, n2, 0, 1, fun X => by kernel_rfl, fun W h => by unfold CBox at h; simp only [World.cell?, h]; rfl, rfl⟩
  | 3, _ => exact ⟨5, n3, 0, 1, fun X => by kernel_rfl, fun W h => by unfold CBox at h; simp only [World.cell?, h]; rfl, rfl⟩
  | 4, _ => exact ⟨6, n4, 1, 65536, fun X => by kernel_rfl, fun W h => by unfold CBox at h; simp only [World.cell?, h]; rfl, rfl⟩
  | 5, _ => exact ⟨7, n5, 1, 65536, fun X => by kernel_rfl, fun W h => by unfold CBox at h; simp only [World.cell?, h]; rfl, rfl⟩
  | 6, _ => exact ⟨8, n6, 0, 100, fun X => by kernel_rfl, fun W h => by unfold CBox at h; simp only [World.cell?, h]; rfl, rfl⟩
  | 7, _ => exact ⟨9, n7, 0, 1073741824, fun X => by kernel_rfl, fun W h => by unfold CBox at h; simp only [World.cell?, h]; rfl, rfl⟩
  | 8, _ => exact ⟨10, n8, 1, 16, fun X => by kernel_rfl, fun W h => by unfold CBox at h; simp only [World.cell?, h]; rfl, rfl⟩
  | 9, _ => exact ⟨11, n9, 1, 16, fun X => by kernel_rfl, fun W h => by unfold CBox at h; simp only [World.cell?, h]; rfl, rfl⟩
  | 10, _ => exact ⟨12, n10, 0, 1, fun X => by kernel_rfl, fun W h => by unfold CBox at h; simp only [World.cell?, h]; rfl, rfl⟩
  | 11, _ => exact ⟨13, n11, 16, 65536, fun X => by kernel_rfl, fun W h => by unfold CBox at h; simp only [World.cell?, h]; rfl, rfl⟩
  | 12, _ => exact ⟨14, n12, 1, 1000, fun X => by kernel_rfl, fun W h => by unfold CBox at h; simp only [World.cell?, h]; rfl, rfl⟩
  | 13, _ => exact ⟨15, n13, 3, 4096, fun X => by kernel_rfl, fun W h => by unfold CBox at h; simp only [World.cell?, h]; rfl, rfl⟩
  | 14, _ => exact ⟨16, n14, 0, 1048576, fun X => by kernel_rfl, fun W h => by unfold CBox at h; simp only [World.cell?, h]; rfl, rfl⟩
  | 15, _ => exact ⟨17, n15, 0, 1, fun X => by kernel_rfl, fun W h => by unfold CBox at h; simp only [World.cell?, h]; rfl, rfl⟩
  | n + 16, hi => exact absurd hi (by omega)
set_option maxHeartbeats 16000000 in
set_option maxRecDepth 100000 in
theorem config_Right.calls (a0_0 : ByteArray) (a0_1 : ByteArray) (a0_2 : Int) (a0_3 : Int) (a0_4 : Int) (a0_5 : Int) (a0_6 : Int) (a0_7 : Int) (a0_8 : Int) (a0_9 : Int) (a0_10 : Int) (a0_11 : Int) (a0_12 : Int) (a0_13 : Int) (a0_14 : Int) (a0_15 : Int) (a0_16 : Int) (a0_17 : Int) (r : Int) (w : World) (h : config_Right.f a0_0 a0_1 a0_2 a0_3 a0_4 a0_5 a0_6 a0_7 a0_8 a0_9 a0_10 a0_11 a0_12 a0_13 a0_14 a0_15 a0_16 a0_17 = some r) :
    Calls Try.prog 6 #[.agg #[.string a0_0, .string a0_1, .int .i64 a0_2, .int .i64 a0_3, .int .i64 a0_4, .int .i64 a0_5, .int .i64 a0_6, .int .i64 a0_7, .int .i64 a0_8, .int .i64 a0_9, .int .i64 a0_10, .int .i64 a0_11, .int .i64 a0_12, .int .i64 a0_13, .int .i64 a0_14, .int .i64 a0_15, .int .i64 a0_16, .int .i64 a0_17]] w fun e w' => e = .returned (.int .i64 r) ∧ Below w.heap.size w w' := by
  replace h := Option.bind_eq_some_iff.mp h
  obtain ⟨⟨k, ok⟩, hk, h⟩ := h
  have HRES := Aside0.mk (Option.some.inj h)
  clear h
  have HK := fun W => host_Key.calls 1000000000 a0_1 k ok W hk
  have HT := fun W => octet_Token.calls a0_0 (octetToken a0_0) W rfl
  clear hk
  generalize hTK : octetToken a0_0 = tk at HT
  generalize hLN : decide (100 < (a0_0.size : Int)) = ln
  have hN : nameBad a0_0 = (!tk || ln) := by rw [← hTK, ← hLN]; rfl
  have hTK := Aside0.mk hTK
  cases tk
  case false =>
    go_enter Try.func6, Try.ntmps6
    go_wp2_with (first | (go_at_call 16; refine (HK _).mono ?_; rintro e w1 ⟨rfl, hb1⟩; have hx1 : CBox w.heap.size a0_0 a0_1 a0_2 a0_3 a0_4 a0_5 a0_6 a0_7 a0_8 a0_9 a0_10 a0_11 a0_12 a0_13 a0_14 a0_15 a0_16 a0_17 w1 := CBox.next (World.alloc_heap_new _ _) hb1; have c0 := hx1.name; have c1 := hx1.host) | (go_at_call 17; refine (HT _).mono ?_; rintro e w2 ⟨rfl, hb2⟩; have hx2 := hx1.next hb2; have d1 := hx2.host; have d0 := hx2.name) | (go_at_call 18; refine (bounds_wp _ _).mono ?_; rintro e w3 ⟨rfl, hb3⟩; have hx3 := Aside0.mk (hx2.next hb3); have BW3 := Aside0.mk (below_step (below_step (below_step ((Below.refl _ w).alloc (Nat.le_refl _) _) hb1) hb2) hb3); clear hx1 hx2 hb1 hb2 hb3 c0 c1 d0 d1))
    go_ret
    exact ⟨by rw [← HRES.out, hN]; rfl, below_step (below_step ((Below.refl _ w).alloc (Nat.le_refl _) _) hb1) hb2⟩
  case true =>
    cases ln
    case true =>
      go_enter Try.func6, Try.ntmps6
      go_wp2_with (first | (go_at_call 16; refine (HK _).mono ?_; rintro e w1 ⟨rfl, hb1⟩; have hx1 : CBox w.heap.size a0_0 a0_1 a0_2 a0_3 a0_4 a0_5 a0_6 a0_7 a0_8 a0_9 a0_10 a0_11 a0_12 a0_13 a0_14 a0_15 a0_16 a0_17 w1 := CBox.next (World.alloc_heap_new _ _) hb1; have c0 := hx1.name; have c1 := hx1.host) | (go_at_call 17; refine (HT _).mono ?_; rintro e w2 ⟨rfl, hb2⟩; have hx2 := hx1.next hb2; have d1 := hx2.host; have d0 := hx2.name) | (go_at_call 18; refine (bounds_wp _ _).mono ?_; rintro e w3 ⟨rfl, hb3⟩; have hx3 := Aside0.mk (hx2.next hb3); have BW3 := Aside0.mk (below_step (below_step (below_step ((Below.refl _ w).alloc (Nat.le_refl _) _) hb1) hb2) hb3); clear hx1 hx2 hb1 hb2 hb3 c0 c1 d0 d1))
      go_ret
      exact ⟨by rw [← HRES.out, hN]; rfl, below_step (below_step ((Below.refl _ w).alloc (Nat.le_refl _) _) hb1) hb2⟩
    case false =>
      by_cases e1 : a0_1.toList = []
      · have hH : hostBad a0_1 k = false := by unfold hostBad; rw [e1]; rfl
        have HR := Aside0.mk (show (if insB (rightN a0_2 a0_3 a0_4 a0_5 a0_6 a0_7 a0_8 a0_9 a0_10 a0_11 a0_12 a0_13 a0_14 a0_15 a0_16 a0_17) then (0 : Int) else 5) = r by rw [← HRES.out, hN, hH]; rfl)
        clear HRES hN hH
        go_enter Try.func6, Try.ntmps6
        go_wp2_with (first | (go_at_call 16; refine (HK _).mono ?_; rintro e w1 ⟨rfl, hb1⟩; have hx1 : CBox w.heap.size a0_0 a0_1 a0_2 a0_3 a0_4 a0_5 a0_6 a0_7 a0_8 a0_9 a0_10 a0_11 a0_12 a0_13 a0_14 a0_15 a0_16 a0_17 w1 := CBox.next (World.alloc_heap_new _ _) hb1; have c0 := hx1.name; have c1 := hx1.host) | (go_at_call 17; refine (HT _).mono ?_; rintro e w2 ⟨rfl, hb2⟩; have hx2 := hx1.next hb2; have d1 := hx2.host; have d0 := hx2.name) | (go_at_call 18; refine (bounds_wp _ _).mono ?_; rintro e w3 ⟨rfl, hb3⟩; have hx3 := Aside0.mk (hx2.next hb3); have BW3 := Aside0.mk (below_step (below_step (below_step ((Below.refl _ w).alloc (Nat.le_refl _) _) hb1) hb2) hb3); clear hx1 hx2 hb1 hb2 hb3 c0 c1 d0 d1))
        go_loopg [44] 17 (fun gg s44 wr => ∃ i : Nat, s44 = .int .i64 (i : Int) ∧ i ≤ 16 ∧ 16 - i < gg ∧ Aside0 ((if insB ((rightN a0_2 a0_3 a0_4 a0_5 a0_6 a0_7 a0_8 a0_9 a0_10 a0_11 a0_12 a0_13 a0_14 a0_15 a0_16 a0_17).drop i) then (0 : Int) else 5) = r) ∧ Aside0 (CBox w.heap.size a0_0 a0_1 a0_2 a0_3 a0_4 a0_5 a0_6 a0_7 a0_8 a0_9 a0_10 a0_11 a0_12 a0_13 a0_14 a0_15 a0_16 a0_17 wr) ∧ Aside0 (Below w.heap.size w wr))
        case atStart =>
          exact ⟨0, rfl, by omega, by omega, HR, hx3, BW3⟩
        case round =>
          obtain ⟨i, rfl, hi, hgz, HI, HX, BW⟩ := hrel
          cases gk with
          | zero => exact absurd hgz (by omega)
          | succ g' =>
            by_cases hlt : i < 16
            · have hlt2 : ((i : Int) < 16) := by omega
              obtain ⟨o, n, l, h, hix, hcell, hget⟩ := bound_at w.heap.size a0_2 a0_3 a0_4 a0_5 a0_6 a0_7 a0_8 a0_9 a0_10 a0_11 a0_12 a0_13 a0_14 a0_15 a0_16 a0_17 a0_0 a0_1 i hlt
              have hdrop := List.drop_eq_getElem_cons (l := rightN a0_2 a0_3 a0_4 a0_5 a0_6 a0_7 a0_8 a0_9 a0_10 a0_11 a0_12 a0_13 a0_14 a0_15 a0_16 a0_17) (i := i) (by exact hlt)
              have hc := hcell _ HX.out
              have hgl : (rightN a0_2 a0_3 a0_4 a0_5 a0_6 a0_7 a0_8 a0_9 a0_10 a0_11 a0_12 a0_13 a0_14 a0_15 a0_16 a0_17)[i]'hlt = (n, l, h) := by
                have := List.getElem?_eq_getElem (l := rightN a0_2 a0_3 a0_4 a0_5 a0_6 a0_7 a0_8 a0_9 a0_10 a0_11 a0_12 a0_13 a0_14 a0_15 a0_16 a0_17) (i := i) hlt
                rw [this] at hget
                exact Option.some.inj hget
              rw [hgl] at hdrop
              have HI2 := Aside0.mk (show (if inB n l h && insB ((rightN a0_2 a0_3 a0_4 a0_5 a0_6 a0_7 a0_8 a0_9 a0_10 a0_11 a0_12 a0_13 a0_14 a0_15 a0_16 a0_17).drop (i + 1)) then (0 : Int) else 5) = r by have := HI.out; rw [hdrop] at this; exact this)
              clear hdrop hget hgl HI
              generalize hq1 : decide (n < l) = q1
              generalize hq2 : decide (h < n) = q2
              cases q1
              case true =>
                have HF := Aside0.mk (show (5 : Int) = r by rw [← HI2.out]; have hz : inB n l h = false := (by unfold inB; have := of_decide_eq_true hq1; rw [show decide (l ≤ n) = false from decide_eq_false (by omega)]; rfl); rw [hz]; rfl)
                clear HI2
                go_wp2
                generalize hX : World.alloc wr _ = X
                have BX : Below wr.heap.size wr X := by rw [← hX]; exact (Below.refl _ wr).alloc (Nat.le_refl _) _
                have HX2 := Aside0.mk (HX.out.next BX)
                have BW2 := Aside0.mk (below_step BW.out BX)
                have hb : X.heap[wr.heap.size]? = some (.cells #[.pointer (some ⟨w.heap.size, o, none⟩), .int .i64 l, .int .i64 h] 43 (0, 0)) := by rw [← hX]; exact World.alloc_heap_new _ _
                have f0 : X.cell? ⟨wr.heap.size, 0, none⟩ = some (.pointer (some ⟨w.heap.size, o, none⟩)) := by simp only [World.cell?, hb]; rfl
                have f1 : X.cell? ⟨wr.heap.size, 1, none⟩ = some (.int .i64 l) := by simp only [World.cell?, hb]; rfl
                have f2 : X.cell? ⟨wr.heap.size, 2, none⟩ = some (.int .i64 h) := by simp only [World.cell?, hb]; rfl
                have fc : X.cell? ⟨w.heap.size, o, none⟩ = some (.int .i64 n) := hcell _ HX2.out
                clear hX BX hb hc HX BW hix hcell
                go_quiet (fail)
                go_wp2
                go_ret
                exact ⟨by rw [← HF.out]; rfl, pw_below_drewN BW2.out _⟩
              case false =>
                cases q2
                case true =>
                  have HF := Aside0.mk (show (5 : Int) = r by rw [← HI2.out]; have hz : inB n l h = false := (by unfold inB; have := of_decide_eq_true hq2; rw [show decide (n ≤ h) = false from decide_eq_false (by omega), Bool.and_false]); rw [hz]; rfl)
                  clear HI2
                  go_wp2
                  generalize hX : World.alloc wr _ = X
                  have BX : Below wr.heap.size wr X := by rw [← hX]; exact (Below.refl _ wr).alloc (Nat.le_refl _) _
                  have HX2 := Aside0.mk (HX.out.next BX)
                  have BW2 := Aside0.mk (below_step BW.out BX)
                  have hb : X.heap[wr.heap.size]? = some (.cells #[.pointer (some ⟨w.heap.size, o, none⟩), .int .i64 l, .int .i64 h] 43 (0, 0)) := by rw [← hX]; exact World.alloc_heap_new _ _
                  have f0 : X.cell? ⟨wr.heap.size, 0, none⟩ = some (.pointer (some ⟨w.heap.size, o, none⟩)) := by simp only [World.cell?, hb]; rfl
                  have f1 : X.cell? ⟨wr.heap.size, 1, none⟩ = some (.int .i64 l) := by simp only [World.cell?, hb]; rfl
                  have f2 : X.cell? ⟨wr.heap.size, 2, none⟩ = some (.int .i64 h) := by simp only [World.cell?, hb]; rfl
                  have fc : X.cell? ⟨w.heap.size, o, none⟩ = some (.int .i64 n) := hcell _ HX2.out
                  clear hX BX hb hc HX BW hix hcell
                  go_quiet (fail)
                  go_wp2
                  go_ret
                  exact ⟨by rw [← HF.out]; rfl, pw_below_drewN BW2.out _⟩
                case false =>
                  have HF := Aside0.mk (show (if insB ((rightN a0_2 a0_3 a0_4 a0_5 a0_6 a0_7 a0_8 a0_9 a0_10 a0_11 a0_12 a0_13 a0_14 a0_15 a0_16 a0_17).drop (i + 1)) then (0 : Int) else 5) = r by rw [← HI2.out]; have hz : inB n l h = true := (by unfold inB; have := of_decide_eq_false hq1; have := of_decide_eq_false hq2; rw [decide_eq_true (show l ≤ n by omega), decide_eq_true (show n ≤ h by omega)]; rfl); rw [hz]; rfl)
                  clear HI2
                  go_wp2
                  generalize hX : World.alloc wr _ = X
                  have BX : Below wr.heap.size wr X := by rw [← hX]; exact (Below.refl _ wr).alloc (Nat.le_refl _) _
                  have HX2 := Aside0.mk (HX.out.next BX)
                  have BW2 := Aside0.mk (below_step BW.out BX)
                  have hb : X.heap[wr.heap.size]? = some (.cells #[.pointer (some ⟨w.heap.size, o, none⟩), .int .i64 l, .int .i64 h] 43 (0, 0)) := by rw [← hX]; exact World.alloc_heap_new _ _
                  have f0 : X.cell? ⟨wr.heap.size, 0, none⟩ = some (.pointer (some ⟨w.heap.size, o, none⟩)) := by simp only [World.cell?, hb]; rfl
                  have f1 : X.cell? ⟨wr.heap.size, 1, none⟩ = some (.int .i64 l) := by simp only [World.cell?, hb]; rfl
                  have f2 : X.cell? ⟨wr.heap.size, 2, none⟩ = some (.int .i64 h) := by simp only [World.cell?, hb]; rfl
                  have fc : X.cell? ⟨w.heap.size, o, none⟩ = some (.int .i64 n) := hcell _ HX2.out
                  clear hX BX hb hc HX BW hix hcell
                  go_quiet (fail)
                  go_wp2
                  go_roundg g'
                  case measure => omega
                  case rel =>
                    exact ⟨i + 1, rfl, by omega, by omega, HF, ⟨HX2.out.next (pw_below_drewN (Below.refl _ X) _)⟩, ⟨pw_below_drewN BW2.out _⟩⟩
            · have hlt2 : ¬ ((i : Int) < 16) := by omega
              obtain rfl : i = 16 := by omega
              go_wp2
              go_ret
              exact ⟨by rw [← HI.out]; rfl, BW.out⟩
      · have e1b : a0_1.toList.isEmpty = false := by simpa using e1
        generalize hLK : decide (200 < (k.size : Int)) = lk
        by_cases e2 : k.toList = a0_1.toList
        · cases lk
          case true =>
            have hH : hostBad a0_1 k = true := by unfold hostBad; rw [e1b, hLK]; simp
            go_enter Try.func6, Try.ntmps6
            go_wp2_with (first | (go_at_call 16; refine (HK _).mono ?_; rintro e w1 ⟨rfl, hb1⟩; have hx1 : CBox w.heap.size a0_0 a0_1 a0_2 a0_3 a0_4 a0_5 a0_6 a0_7 a0_8 a0_9 a0_10 a0_11 a0_12 a0_13 a0_14 a0_15 a0_16 a0_17 w1 := CBox.next (World.alloc_heap_new _ _) hb1; have c0 := hx1.name; have c1 := hx1.host) | (go_at_call 17; refine (HT _).mono ?_; rintro e w2 ⟨rfl, hb2⟩; have hx2 := hx1.next hb2; have d1 := hx2.host; have d0 := hx2.name) | (go_at_call 18; refine (bounds_wp _ _).mono ?_; rintro e w3 ⟨rfl, hb3⟩; have hx3 := Aside0.mk (hx2.next hb3); have BW3 := Aside0.mk (below_step (below_step (below_step ((Below.refl _ w).alloc (Nat.le_refl _) _) hb1) hb2) hb3); clear hx1 hx2 hb1 hb2 hb3 c0 c1 d0 d1))
            go_ret
            exact ⟨by rw [← HRES.out, hN, hH]; rfl, below_step (below_step ((Below.refl _ w).alloc (Nat.le_refl _) _) hb1) hb2⟩
          case false =>
            by_cases e4 : a0_1.toList = [45]
            · have hH : hostBad a0_1 k = true := by unfold hostBad; rw [e1b, e2, e4]; simp
              have e4b : (a0_1.toList == [45]) = true := beq_iff_eq.mpr e4
              clear e4
              go_enter Try.func6, Try.ntmps6
              go_wp2_with (first | (go_at_call 16; refine (HK _).mono ?_; rintro e w1 ⟨rfl, hb1⟩; have hx1 : CBox w.heap.size a0_0 a0_1 a0_2 a0_3 a0_4 a0_5 a0_6 a0_7 a0_8 a0_9 a0_10 a0_11 a0_12 a0_13 a0_14 a0_15 a0_16 a0_17 w1 := CBox.next (World.alloc_heap_new _ _) hb1; have c0 := hx1.name; have c1 := hx1.host) | (go_at_call 17; refine (HT _).mono ?_; rintro e w2 ⟨rfl, hb2⟩; have hx2 := hx1.next hb2; have d1 := hx2.host; have d0 := hx2.name) | (go_at_call 18; refine (bounds_wp _ _).mono ?_; rintro e w3 ⟨rfl, hb3⟩; have hx3 := Aside0.mk (hx2.next hb3); have BW3 := Aside0.mk (below_step (below_step (below_step ((Below.refl _ w).alloc (Nat.le_refl _) _) hb1) hb2) hb3); clear hx1 hx2 hb1 hb2 hb3 c0 c1 d0 d1))
              go_ret
              exact ⟨by rw [← HRES.out, hN, hH]; rfl, below_step (below_step ((Below.refl _ w).alloc (Nat.le_refl _) _) hb1) hb2⟩
            · have e4b : (a0_1.toList == [45]) = false := beq_eq_false_iff_ne.mpr e4
              have hH : hostBad a0_1 k = false := by unfold hostBad; rw [e1b, hLK, e2, e4b]; simp
              have HR := Aside0.mk (show (if insB (rightN a0_2 a0_3 a0_4 a0_5 a0_6 a0_7 a0_8 a0_9 a0_10 a0_11 a0_12 a0_13 a0_14 a0_15 a0_16 a0_17) then (0 : Int) else 5) = r by rw [← HRES.out, hN, hH]; rfl)
              clear HRES hN hH
              go_enter Try.func6, Try.ntmps6
              go_wp2_with (first | (go_at_call 16; refine (HK _).mono ?_; rintro e w1 ⟨rfl, hb1⟩; have hx1 : CBox w.heap.size a0_0 a0_1 a0_2 a0_3 a0_4 a0_5 a0_6 a0_7 a0_8 a0_9 a0_10 a0_11 a0_12 a0_13 a0_14 a0_15 a0_16 a0_17 w1 := CBox.next (World.alloc_heap_new _ _) hb1; have c0 := hx1.name; have c1 := hx1.host) | (go_at_call 17; refine (HT _).mono ?_; rintro e w2 ⟨rfl, hb2⟩; have hx2 := hx1.next hb2; have d1 := hx2.host; have d0 := hx2.name) | (go_at_call 18; refine (bounds_wp _ _).mono ?_; rintro e w3 ⟨rfl, hb3⟩; have hx3 := Aside0.mk (hx2.next hb3); have BW3 := Aside0.mk (below_step (below_step (below_step ((Below.refl _ w).alloc (Nat.le_refl _) _) hb1) hb2) hb3); clear hx1 hx2 hb1 hb2 hb3 c0 c1 d0 d1))
              go_loopg [44] 17 (fun gg s44 wr => ∃ i : Nat, s44 = .int .i64 (i : Int) ∧ i ≤ 16 ∧ 16 - i < gg ∧ Aside0 ((if insB ((rightN a0_2 a0_3 a0_4 a0_5 a0_6 a0_7 a0_8 a0_9 a0_10 a0_11 a0_12 a0_13 a0_14 a0_15 a0_16 a0_17).drop i) then (0 : Int) else 5) = r) ∧ Aside0 (CBox w.heap.size a0_0 a0_1 a0_2 a0_3 a0_4 a0_5 a0_6 a0_7 a0_8 a0_9 a0_10 a0_11 a0_12 a0_13 a0_14 a0_15 a0_16 a0_17 wr) ∧ Aside0 (Below w.heap.size w wr))
              case atStart =>
                exact ⟨0, rfl, by omega, by omega, HR, hx3, BW3⟩
              case round =>
                obtain ⟨i, rfl, hi, hgz, HI, HX, BW⟩ := hrel
                cases gk with
                | zero => exact absurd hgz (by omega)
                | succ g' =>
                  by_cases hlt : i < 16
                  · have hlt2 : ((i : Int) < 16) := by omega
                    obtain ⟨o, n, l, h, hix, hcell, hget⟩ := bound_at w.heap.size a0_2 a0_3 a0_4 a0_5 a0_6 a0_7 a0_8 a0_9 a0_10 a0_11 a0_12 a0_13 a0_14 a0_15 a0_16 a0_17 a0_0 a0_1 i hlt
                    have hdrop := List.drop_eq_getElem_cons (l := rightN a0_2 a0_3 a0_4 a0_5 a0_6 a0_7 a0_8 a0_9 a0_10 a0_11 a0_12 a0_13 a0_14 a0_15 a0_16 a0_17) (i := i) (by exact hlt)
                    have hc := hcell _ HX.out
                    have hgl : (rightN a0_2 a0_3 a0_4 a0_5 a0_6 a0_7 a0_8 a0_9 a0_10 a0_11 a0_12 a0_13 a0_14 a0_15 a0_16 a0_17)[i]'hlt = (n, l, h) := by
                      have := List.getElem?_eq_getElem (l := rightN a0_2 a0_3 a0_4 a0_5 a0_6 a0_7 a0_8 a0_9 a0_10 a0_11 a0_12 a0_13 a0_14 a0_15 a0_16 a0_17) (i := i) hlt
                      rw [this] at hget
                      exact Option.some.inj hget
                    rw [hgl] at hdrop
                    have HI2 := Aside0.mk (show (if inB n l h && insB ((rightN a0_2 a0_3 a0_4 a0_5 a0_6 a0_7 a0_8 a0_9 a0_10 a0_11 a0_12 a0_13 a0_14 a0_15 a0_16 a0_17).drop (i + 1)) then (0 : Int) else 5) = r by have := HI.out; rw [hdrop] at this; exact this)
                    clear hdrop hget hgl HI
                    generalize hq1 : decide (n < l) = q1
                    generalize hq2 : decide (h < n) = q2
                    cases q1
                    case true =>
                      have HF := Aside0.mk (show (5 : Int) = r by rw [← HI2.out]; have hz : inB n l h = false := (by unfold inB; have := of_decide_eq_true hq1; rw [show decide (l ≤ n) = false from decide_eq_false (by omega)]; rfl); rw [hz]; rfl)
                      clear HI2
                      go_wp2
                      generalize hX : World.alloc wr _ = X
                      have BX : Below wr.heap.size wr X := by rw [← hX]; exact (Below.refl _ wr).alloc (Nat.le_refl _) _
                      have HX2 := Aside0.mk (HX.out.next BX)
                      have BW2 := Aside0.mk (below_step BW.out BX)
                      have hb : X.heap[wr.heap.size]? = some (.cells #[.pointer (some ⟨w.heap.size, o, none⟩), .int .i64 l, .int .i64 h] 43 (0, 0)) := by rw [← hX]; exact World.alloc_heap_new _ _
                      have f0 : X.cell? ⟨wr.heap.size, 0, none⟩ = some (.pointer (some ⟨w.heap.size, o, none⟩)) := by simp only [World.cell?, hb]; rfl
                      have f1 : X.cell? ⟨wr.heap.size, 1, none⟩ = some (.int .i64 l) := by simp only [World.cell?, hb]; rfl
                      have f2 : X.cell? ⟨wr.heap.size, 2, none⟩ = some (.int .i64 h) := by simp only [World.cell?, hb]; rfl
                      have fc : X.cell? ⟨w.heap.size, o, none⟩ = some (.int .i64 n) := hcell _ HX2.out
                      clear hX BX hb hc HX BW hix hcell
                      go_quiet (fail)
                      go_wp2
                      go_ret
                      exact ⟨by rw [← HF.out]; rfl, pw_below_drewN BW2.out _⟩
                    case false =>
                      cases q2
                      case true =>
                        have HF := Aside0.mk (show (5 : Int) = r by rw [← HI2.out]; have hz : inB n l h = false := (by unfold inB; have := of_decide_eq_true hq2; rw [show decide (n ≤ h) = false from decide_eq_false (by omega), Bool.and_false]); rw [hz]; rfl)
                        clear HI2
                        go_wp2
                        generalize hX : World.alloc wr _ = X
                        have BX : Below wr.heap.size wr X := by rw [← hX]; exact (Below.refl _ wr).alloc (Nat.le_refl _) _
                        have HX2 := Aside0.mk (HX.out.next BX)
                        have BW2 := Aside0.mk (below_step BW.out BX)
                        have hb : X.heap[wr.heap.size]? = some (.cells #[.pointer (some ⟨w.heap.size, o, none⟩), .int .i64 l, .int .i64 h] 43 (0, 0)) := by rw [← hX]; exact World.alloc_heap_new _ _
                        have f0 : X.cell? ⟨wr.heap.size, 0, none⟩ = some (.pointer (some ⟨w.heap.size, o, none⟩)) := by simp only [World.cell?, hb]; rfl
                        have f1 : X.cell? ⟨wr.heap.size, 1, none⟩ = some (.int .i64 l) := by simp only [World.cell?, hb]; rfl
                        have f2 : X.cell? ⟨wr.heap.size, 2, none⟩ = some (.int .i64 h) := by simp only [World.cell?, hb]; rfl
                        have fc : X.cell? ⟨w.heap.size, o, none⟩ = some (.int .i64 n) := hcell _ HX2.out
                        clear hX BX hb hc HX BW hix hcell
                        go_quiet (fail)
                        go_wp2
                        go_ret
                        exact ⟨by rw [← HF.out]; rfl, pw_below_drewN BW2.out _⟩
                      case false =>
                        have HF := Aside0.mk (show (if insB ((rightN a0_2 a0_3 a0_4 a0_5 a0_6 a0_7 a0_8 a0_9 a0_10 a0_11 a0_12 a0_13 a0_14 a0_15 a0_16 a0_17).drop (i + 1)) then (0 : Int) else 5) = r by rw [← HI2.out]; have hz : inB n l h = true := (by unfold inB; have := of_decide_eq_false hq1; have := of_decide_eq_false hq2; rw [decide_eq_true (show l ≤ n by omega), decide_eq_true (show n ≤ h by omega)]; rfl); rw [hz]; rfl)
                        clear HI2
                        go_wp2
                        generalize hX : World.alloc wr _ = X
                        have BX : Below wr.heap.size wr X := by rw [← hX]; exact (Below.refl _ wr).alloc (Nat.le_refl _) _
                        have HX2 := Aside0.mk (HX.out.next BX)
                        have BW2 := Aside0.mk (below_step BW.out BX)
                        have hb : X.heap[wr.heap.size]? = some (.cells #[.pointer (some ⟨w.heap.size, o, none⟩), .int .i64 l, .int .i64 h] 43 (0, 0)) := by rw [← hX]; exact World.alloc_heap_new _ _
                        have f0 : X.cell? ⟨wr.heap.size, 0, none⟩ = some (.pointer (some ⟨w.heap.size, o, none⟩)) := by simp only [World.cell?, hb]; rfl
                        have f1 : X.cell? ⟨wr.heap.size, 1, none⟩ = some (.int .i64 l) := by simp only [World.cell?, hb]; rfl
                        have f2 : X.cell? ⟨wr.heap.size, 2, none⟩ = some (.int .i64 h) := by simp only [World.cell?, hb]; rfl
                        have fc : X.cell? ⟨w.heap.size, o, none⟩ = some (.int .i64 n) := hcell _ HX2.out
                        clear hX BX hb hc HX BW hix hcell
                        go_quiet (fail)
                        go_wp2
                        go_roundg g'
                        case measure => omega
                        case rel =>
                          exact ⟨i + 1, rfl, by omega, by omega, HF, ⟨HX2.out.next (pw_below_drewN (Below.refl _ X) _)⟩, ⟨pw_below_drewN BW2.out _⟩⟩
                  · have hlt2 : ¬ ((i : Int) < 16) := by omega
                    obtain rfl : i = 16 := by omega
                    go_wp2
                    go_ret
                    exact ⟨by rw [← HI.out]; rfl, BW.out⟩
        · have e2b : (k.toList != a0_1.toList) = true := bne_iff_ne.mpr e2
          have hH : hostBad a0_1 k = true := by unfold hostBad; rw [e1b, e2b]; rfl
          go_enter Try.func6, Try.ntmps6
          go_wp2_with (first | (go_at_call 16; refine (HK _).mono ?_; rintro e w1 ⟨rfl, hb1⟩; have hx1 : CBox w.heap.size a0_0 a0_1 a0_2 a0_3 a0_4 a0_5 a0_6 a0_7 a0_8 a0_9 a0_10 a0_11 a0_12 a0_13 a0_14 a0_15 a0_16 a0_17 w1 := CBox.next (World.alloc_heap_new _ _) hb1; have c0 := hx1.name; have c1 := hx1.host) | (go_at_call 17; refine (HT _).mono ?_; rintro e w2 ⟨rfl, hb2⟩; have hx2 := hx1.next hb2; have d1 := hx2.host; have d0 := hx2.name) | (go_at_call 18; refine (bounds_wp _ _).mono ?_; rintro e w3 ⟨rfl, hb3⟩; have hx3 := Aside0.mk (hx2.next hb3); have BW3 := Aside0.mk (below_step (below_step (below_step ((Below.refl _ w).alloc (Nat.le_refl _) _) hb1) hb2) hb3); clear hx1 hx2 hb1 hb2 hb3 c0 c1 d0 d1))
          go_ret
          exact ⟨by rw [← HRES.out, hN, hH]; rfl, below_step (below_step ((Below.refl _ w).alloc (Nat.le_refl _) _) hb1) hb2⟩


end Go.Proofs.Ytdjmgmiaognncaa.X
namespace Go.Proofs.Ytdjmgmiaognncaa.X
open Go.RowKit Go.Proofs.YtdjmgmiaognncaaW.PrintWords Go.Proofs.YtdjmgmiaognncaaW.PrintLast Go.Proofs.YtdjmgmiaognncaaW.PrintMore
attribute [local go_sem] max2_int min2_int max_two min_two max_three min_three max_four min_four   -- for this text's walks alone
set_option linter.unusedVariables false
set_option linter.unusedSimpArgs false

/-! ### abutmentref02_Digits: function 52 -/
/-- The reference's digits. -/
def rdigL (b : Nat) : Nat → Nat → List UInt8 → List UInt8
  | 0, n, acc => digB n :: acc
  | f + 1, n, acc => if b ≤ n then rdigL b f (n / b) (digB (n % b) :: acc) else digB n :: acc
def rdigB (n b : Nat) : ByteArray := ⟨(rdigL b 64 n []).toArray⟩
def abutmentref02_Digits.f (a0 : Int) (a1 : Int) : Option (ByteArray) := if 0 ≤ a0 ∧ a0 ≤ 4611686018427387904 ∧ 2 ≤ a1 ∧ a1 ≤ 16 then some (rdigB a0.toNat a1.toNat) else none
theorem sign_cut (d : Nat) (hd : d < 16) : (⟨#[48, 49, 50, 51, 52, 53, 54, 55, 56, 57, 97, 98, 99, 100, 101, 102]⟩ : ByteArray).extract d (d + 1) = ⟨#[digB d]⟩ := by
  have h : ∀ k : Fin 16, (⟨#[48, 49, 50, 51, 52, 53, 54, 55, 56, 57, 97, 98, 99, 100, 101, 102]⟩ : ByteArray).extract k.val (k.val + 1) = ⟨#[digB k.val]⟩ := by decide +kernel
  exact h ⟨d, hd⟩
set_option maxHeartbeats 8000000 in
set_option maxRecDepth 100000 in
theorem abutmentref02_Digits.calls (a0 : Int) (a1 : Int) (r : ByteArray) (w : World) (h : abutmentref02_Digits.f a0 a1 = some r) :
    Calls Try.prog 52 #[.int .u64 a0, .int .u64 a1] w fun e w' => e = .returned (.string r) ∧ Below w.heap.size w w' := by
  by_cases hh : 0 ≤ a0 ∧ a0 ≤ 4611686018427387904 ∧ 2 ≤ a1 ∧ a1 ≤ 16
  · rw [abutmentref02_Digits.f, if_pos hh] at h
    have hres := Option.some.inj h
    clear h
    obtain ⟨h0, h1, h2, h3⟩ := hh
    obtain ⟨N, rfl⟩ := Int.eq_ofNat_of_zero_le h0
    obtain ⟨b, rfl⟩ := Int.eq_ofNat_of_zero_le (show 0 ≤ a1 by omega)
    rw [Int.toNat_natCast, Int.toNat_natCast] at hres
    have HRES := Aside0.mk hres
    have HN := Aside0.mk (show N < 2 ^ 64 by omega)
    clear hres
    have hb0 : ¬ ((b : Int) = 0) := by omega
    go_enter Try.func52, Try.ntmps52
    go_wp2
    go_loopg [0, 6] 64 (fun gg s0 s6 wr => ∃ (n : Nat) (acc : List UInt8), s0 = .int .u64 n ∧ s6 = .string ⟨acc.toArray⟩ ∧ Aside0 (n < 2 ^ gg) ∧ n ≤ 4611686018427387904 ∧ acc.length + gg ≤ 70 ∧ Aside0 ((⟨(rdigL b gg n acc).toArray⟩ : ByteArray) = r) ∧ Aside0 (Below w.heap.size w wr))
    case atStart => exact ⟨N, [], rfl, rfl, HN, by omega, by simp, HRES, ⟨Below.refl _ w⟩⟩
    case round =>
      obtain ⟨n, acc, rfl, rfl, HP, hn, hal, HL, BW⟩ := hrel
      by_cases hge : b ≤ n
      · have hge2 : ((b : Int) ≤ (n : Int)) := by omega
        cases gk with
        | zero => have := HP.out; simp at this; omega
        | succ g' =>
          have hleft := HL.out
          simp only [rdigL, if_pos hge] at hleft
          have HLEFT := Aside0.mk hleft
          have hmod : n % b < 16 := Nat.lt_of_lt_of_le (Nat.mod_lt _ (by omega)) (by omega)
          have HC := Aside0.mk (sign_cut (n % b) hmod)
          clear hleft HL
          have hd0 : (0 : Int) ≤ ((n % b : Nat) : Int) := by omega
          have hd1 : ((n % b : Nat) : Int) + 1 ≤ 16 := by omega
          have hd2 : ((n % b : Nat) : Int) ≤ ((n % b : Nat) : Int) + 1 := by omega
          have hb1 : ¬ b = 0 := by omega
          have hm0 : (0 : Int) ≤ (n : Int) % (b : Int) := hd0
          have hm1 : (n : Int) % (b : Int) ≤ 16 := by have : ((n % b : Nat) : Int) ≤ 16 := by omega
                                                      exact this
          have hm2 : (n : Int) % (b : Int) + 1 ≤ 16 := hd1
          have hq0 : (0 : Int) ≤ (n : Int) / (b : Int) := Int.ediv_nonneg (by omega) (by omega)
          have hq1 : (n : Int) / (b : Int) ≤ 4611686018427387904 := by have : ((n / b : Nat) : Int) ≤ 4611686018427387904 := by have := Nat.div_le_self n b; omega
                                                                       exact this
          have hm3 : (n : Int) % (b : Int) ≤ (n : Int) % (b : Int) + 1 := by omega
          have hsz : ¬ 9223372036854775807 < (1 : Nat) + acc.length := by omega
          have htm : Int.tmod (n : Int) (b : Int) = ((n % b : Nat) : Int) := rfl
          have htd : Int.tdiv (n : Int) (b : Int) = ((n / b : Nat) : Int) := rfl
          go_wp2
          go_quiet (fail)
          go_wp2
          go_roundg g'
          case measure => omega
          case rel =>
            refine ⟨n / b, digB (n % b) :: acc, by first | rfl | go_num, ?_, ⟨?_⟩, by have := Nat.div_le_self n b; omega, by simp; omega, HLEFT, ⟨pw_below_drewN BW.out _⟩⟩
            · refine congrArg Value.string ?_
              rw [HC.out]
              rfl
            · have := HP.out
              rw [Nat.pow_succ] at this
              exact Nat.div_lt_of_lt_mul (Nat.lt_of_lt_of_le this (by rw [Nat.mul_comm]; exact Nat.mul_le_mul_right _ (by omega)))
      · have hge2 : ¬ ((b : Int) ≤ (n : Int)) := by omega
        have hn16 : n < 16 := by omega
        have HC := Aside0.mk (sign_cut n hn16)
        have hd0 : (0 : Int) ≤ (n : Int) := by omega
        have hd1 : (n : Int) + 1 ≤ 16 := by omega
        have hd2 : (n : Int) ≤ (n : Int) + 1 := by omega
        go_wp2
        go_ret
        refine ⟨?_, BW.out⟩
        have e := HL.out
        have e2 : rdigL b gk n acc = digB n :: acc := by
          cases gk with
          | zero => rfl
          | succ g' => simp only [rdigL, if_neg hge]
        rw [e2] at e
        rw [← e]
        refine congrArg (fun x => Ending.returned (Value.string x)) ?_
        show (⟨_⟩ : ByteArray).extract n (n + 1) ++ _ = _
        rw [HC.out]
        rfl
  · rw [abutmentref02_Digits.f, if_neg hh] at h
    cases h


end Go.Proofs.Ytdjmgmiaognncaa.X
namespace Go.Proofs.Ytdjmgmiaognncaa.X
open Go.RowKit Go.Proofs.YtdjmgmiaognncaaW.PrintWords Go.Proofs.YtdjmgmiaognncaaW.PrintLast Go.Proofs.YtdjmgmiaognncaaW.PrintMore
attribute [local go_sem] max2_int min2_int max_two min_two max_three min_three max_four min_four   -- for this text's walks alone
set_option linter.unusedVariables false
set_option linter.unusedSimpArgs false

/-! ### abutmentref02_Text: function 26 -/
def abutmentref02_Text.f (a0 : Int) : Option (ByteArray) := if a0 < 0 then ((abutmentref02_Digits.f (IntKind.u64.wrap ((IntKind.u64.wrap (wrap64 (-(wrap64 (a0 + 1))))) + 1)) 10).bind fun t101 => (if 1 + t101.size ≤ 9223372036854775807 then (some ((⟨#[45]⟩ : ByteArray) ++ t101)) else (none))) else ((abutmentref02_Digits.f (IntKind.u64.wrap (a0)) 10).bind fun t102 => (some t102))
set_option maxHeartbeats 8000000 in
set_option maxRecDepth 100000 in
theorem abutmentref02_Text.calls (a0 : Int) (r : ByteArray) (w : World) (h : abutmentref02_Text.f a0 = some r) :
    Calls Try.prog 26 #[.int .i64 a0] w fun e w' => e = .returned (.string r) ∧ Below w.heap.size w w' := by
  have HB := Aside0.mk (Below.refl w.heap.size w)
  have H : (if a0 < 0 then ((abutmentref02_Digits.f (IntKind.u64.wrap ((IntKind.u64.wrap (wrap64 (-(wrap64 (a0 + 1))))) + 1)) 10).bind fun t101 => (if 1 + t101.size ≤ 9223372036854775807 then (some ((⟨#[45]⟩ : ByteArray) ++ t101)) else (none))) else ((abutmentref02_Digits.f (IntKind.u64.wrap (a0)) 10).bind fun t102 => (some t102))) = some r := h
  clear h
  by_cases c2 : a0 < 0
  · rw [if_pos c2] at H
    have c2b0 : decide (a0 < 0) = true := decide_eq_true c2
    clear c2
    replace H := Option.bind_eq_some_iff.mp H
    obtain ⟨t101, A30, H⟩ := H
    replace H : (if 1 + t101.size ≤ 9223372036854775807 then (some ((⟨#[45]⟩ : ByteArray) ++ t101)) else (none)) = some r := H
    have A3 := Aside0.mk A30
    clear A30
    by_cases c4 : 1 + t101.size ≤ 9223372036854775807
    · rw [if_pos c4] at H
      have c4b0 := eq_true c4
      have c4b1 : decide (1 + t101.size ≤ 9223372036854775807) = true := decide_eq_true c4
      try have c4b2 : (9223372036854775807 < 1 + t101.size) = False := eq_false (Nat.not_lt.2 c4)
      obtain rfl := Option.some.inj H
      go_enter Try.func26, Try.ntmps26
      go_wp2_with (first | ((with_reducible refine gate_callee (f := 52) rfl ?_); refine goesL_ (some 10) rfl rfl Try.func52 (by kernel_rfl) rfl #[.int .u64 (IntKind.u64.wrap ((IntKind.u64.wrap (wrap64 (-(wrap64 (a0 + 1))))) + 1)), .int .u64 10] rfl (by (try simp only [List.map_toArray, List.map_cons, List.map_nil]); first | done | rfl | (simp only [List.length_drop, List.length_take]; rfl)) ?_; (with_reducible refine (abutmentref02_Digits.calls (IntKind.u64.wrap ((IntKind.u64.wrap (wrap64 (-(wrap64 (a0 + 1))))) + 1)) 10 t101 _ A3.out).mono ?_); rintro e w5 ⟨rfl, hb⟩; refine ⟨_, rfl, ?_⟩; have n0_ := Aside0.mk (below_step (by repeat (first | (with_reducible first | exact HB.out | apply below_alloc | apply pw_below_drewN | apply below_drew1) | exact HB.out)) hb); clear HB; have HB := n0_; clear n0_; (try clear hb); (try clear hb2); (try clear hk); (try clear hi)))
      go_ret
      exact ⟨by first | rfl | (simp [errW_none, errW_some] <;> rfl) | (simp [*, errW_none, errW_some] <;> rfl), by repeat (first | (with_reducible first | exact HB.out | apply below_alloc | apply pw_below_drewN | apply below_drew1) | exact HB.out)⟩
    · rw [if_neg c4] at H
      exact absurd H (by simp)
  · rw [if_neg c2] at H
    have c2b0 : decide (a0 < 0) = false := decide_eq_false c2
    clear c2
    replace H := Option.bind_eq_some_iff.mp H
    obtain ⟨t102, A60, H⟩ := H
    replace H : (some t102) = some r := H
    have A6 := Aside0.mk A60
    clear A60
    obtain rfl := Option.some.inj H
    go_enter Try.func26, Try.ntmps26
    go_wp2_with (first | ((with_reducible refine gate_callee (f := 52) rfl ?_); refine goesL_ (some 14) rfl rfl Try.func52 (by kernel_rfl) rfl #[.int .u64 (IntKind.u64.wrap (a0)), .int .u64 10] rfl (by (try simp only [List.map_toArray, List.map_cons, List.map_nil]); first | done | rfl | (simp only [List.length_drop, List.length_take]; rfl)) ?_; (with_reducible refine (abutmentref02_Digits.calls (IntKind.u64.wrap (a0)) 10 t102 _ A6.out).mono ?_); rintro e w7 ⟨rfl, hb⟩; refine ⟨_, rfl, ?_⟩; have n0_ := Aside0.mk (below_step (by repeat (first | (with_reducible first | exact HB.out | apply below_alloc | apply pw_below_drewN | apply below_drew1) | exact HB.out)) hb); clear HB; have HB := n0_; clear n0_; (try clear hb); (try clear hb2); (try clear hk); (try clear hi)))
    go_ret
    exact ⟨by first | rfl | (simp [errW_none, errW_some] <;> rfl) | (simp [*, errW_none, errW_some] <;> rfl), by repeat (first | (with_reducible first | exact HB.out | apply below_alloc | apply pw_below_drewN | apply below_drew1) | exact HB.out)⟩

end Go.Proofs.Ytdjmgmiaognncaa.X
namespace Go.Proofs.Ytdjmgmiaognncaa.X
open Go.RowKit Go.Proofs.YtdjmgmiaognncaaW.PrintWords Go.Proofs.YtdjmgmiaognncaaW.PrintLast Go.Proofs.YtdjmgmiaognncaaW.PrintMore
attribute [local go_sem] max2_int min2_int max_two min_two max_three min_three max_four min_four   -- for this text's walks alone
set_option linter.unusedVariables false
set_option linter.unusedSimpArgs false

/-! ### pure text 45: digits -/
theorem text_fig (n : Int) (h0 : 0 ≤ n) (h1 : n ≤ 1073741824) : digits_Text.f n = some (figB n.toNat 10) := by
  unfold digits_Text.f
  rw [if_neg (by omega)]
  unfold digits_figures.f
  rw [if_pos (by omega)]
  rfl
theorem rdigL_len (b : Nat) : ∀ (f n : Nat) (acc : List UInt8), (rdigL b f n acc).length ≤ acc.length + f + 1
  | 0, n, acc => by simp [rdigL]
  | f + 1, n, acc => by
    simp only [rdigL]
    split
    · have := rdigL_len b f (n / b) (digB (n % b) :: acc)
      simp only [List.length_cons] at this
      omega
    · simp only [List.length_cons]; omega
theorem rdigB_size (n b : Nat) : (rdigB n b).size ≤ 65 := by
  have := rdigL_len b 64 n []
  unfold rdigB
  simp [ByteArray.size] at *
  omega
theorem text_rdig (n : Int) (h0 : 0 ≤ n) (h1 : n ≤ 1073741824) : abutmentref02_Text.f n = some (rdigB n.toNat 10) := by
  unfold abutmentref02_Text.f
  rw [if_neg (by omega), show IntKind.u64.wrap n = n from by simp [IntKind.wrap, IntKind.bits, IntKind.signed]; omega]
  unfold abutmentref02_Digits.f
  rw [if_pos (by omega)]
  rfl
theorem fig_rdigL (b : Nat) (hb : 2 ≤ b) : ∀ (f n : Nat) (acc : List UInt8), n < 2 ^ f → (n ≠ 0 ∨ (acc = [] ∧ f ≠ 0)) → figL b f n acc = rdigL b f n acc
  | 0, n, acc, hn, h => by
    simp at hn
    rcases h with h | h
    · exact absurd hn h
    · exact absurd rfl h.2
  | f + 1, n, acc, hn, h => by
    simp only [figL, rdigL]
    rw [if_pos (by rcases h with h | h; exact .inr h; exact .inl h.1)]
    by_cases hge : b ≤ n
    · rw [if_pos hge]
      have h1 : n / b < 2 ^ f := by
        rw [Nat.pow_succ] at hn
        exact Nat.div_lt_of_lt_mul (Nat.lt_of_lt_of_le hn (by rw [Nat.mul_comm]; exact Nat.mul_le_mul_right _ hb))
      have h2 : n / b ≠ 0 := by
        have := Nat.div_pos hge (by omega)
        omega
      exact fig_rdigL b hb f (n / b) _ h1 (.inl h2)
    · rw [if_neg hge, Nat.mod_eq_of_lt (by omega), Nat.div_eq_of_lt (by omega)]
      cases f with
      | zero => rfl
      | succ f => simp only [figL]; rw [if_neg (by simp)]
theorem fig_rdig (n b : Nat) (hb : 2 ≤ b) (hn : n < 2 ^ 64) : figB n b = rdigB n b := by
  unfold figB rdigB
  rw [fig_rdigL b hb 64 n [] hn (.inr ⟨rfl, by decide⟩)]


end Go.Proofs.Ytdjmgmiaognncaa.X
namespace Go.Proofs.Ytdjmgmiaognncaa.X
open Go.RowKit Go.Proofs.YtdjmgmiaognncaaW.PrintWords Go.Proofs.YtdjmgmiaognncaaW.PrintLast Go.Proofs.YtdjmgmiaognncaaW.PrintMore
attribute [local go_sem] max2_int min2_int max_two min_two max_three min_three max_four min_four   -- for this text's walks alone
set_option linter.unusedVariables false
set_option linter.unusedSimpArgs false

/-! ### config_Print: function 8 -/
/-- P13.3: a config's words. -/
def printL (s t : ByteArray) (ns : List Int) : List ByteArray := s :: (if t.toList = [] then ⟨#[45]⟩ else t) :: ns.map fun n => figB n.toNat 10
def printJ (s t : ByteArray) (ns : List Int) : List UInt8 := Lib.join ((printL s t ns).map (·.data.toList)) [32]
def config_Print.f (a0_0 : ByteArray) (a0_1 : ByteArray) (a0_2 : Int) (a0_3 : Int) (a0_4 : Int) (a0_5 : Int) (a0_6 : Int) (a0_7 : Int) (a0_8 : Int) (a0_9 : Int) (a0_10 : Int) (a0_11 : Int) (a0_12 : Int) (a0_13 : Int) (a0_14 : Int) (a0_15 : Int) (a0_16 : Int) (a0_17 : Int) : Option (ByteArray) := (config_Right.f a0_0 a0_1 a0_2 a0_3 a0_4 a0_5 a0_6 a0_7 a0_8 a0_9 a0_10 a0_11 a0_12 a0_13 a0_14 a0_15 a0_16 a0_17).bind fun e => if e = 0 then (if (printJ a0_0 a0_1 ((rightN a0_2 a0_3 a0_4 a0_5 a0_6 a0_7 a0_8 a0_9 a0_10 a0_11 a0_12 a0_13 a0_14 a0_15 a0_16 a0_17).map (·.1))).length ≤ 140737488351232 then some ⟨(printJ a0_0 a0_1 ((rightN a0_2 a0_3 a0_4 a0_5 a0_6 a0_7 a0_8 a0_9 a0_10 a0_11 a0_12 a0_13 a0_14 a0_15 a0_16 a0_17).map (·.1))).toArray⟩ else none) else some ⟨#[]⟩
theorem infoStr8 : (Try.prog.info? 9).map (fun i => (i.zero, i.size, i.bytes)) = some (some (.string ⟨#[]⟩), 1, 16) := by kernel_rfl
theorem print_next (s t : ByteArray) (R : List (Int × Int × Int)) (i : Nat) (n l h : Int) (hg : R[i]? = some (n, l, h)) : (((printL s t (R.map (·.1))).take (i + 2 + 1)).map Value.string) = (((printL s t (R.map (·.1))).take (i + 2)).map Value.string) ++ [.string (figB n.toNat 10)] := by
  have e : (printL s t (R.map (·.1)))[i + 2]? = some (figB n.toNat 10) := by
    unfold printL
    simp [hg]
  rw [List.take_add_one, e, List.map_append]
  rfl
theorem own_below8 {w W : World} {base e size n : Nat} {v : Value} {xs : List Value} (h : w.ownsRow base e size v n xs) (hb : Below w.heap.size w W) : W.ownsRow base e size v n xs := by
  refine own_move h fun k hk => hb.block k ?_
  obtain ⟨c, hc⟩ := own_typed h k hk
  exact (Array.getElem?_eq_some_iff.1 hc).1
theorem set_one (w : World) (x y : Value) (t : TypeId) (z : Value) : ((w.alloc (.cells #[x, y] t)).setCell ⟨w.heap.size, 1, none⟩ z).heap[w.heap.size]? = some (.cells #[x, z] t (0, 0)) := by
  have hh := World.alloc_heap_new w (.cells #[x, y] t)
  simp only [World.setCell, Array.getElem?_modify, hh]
  simp
theorem app_own (W : World) (base n m c : Nat) (v : Value) (xs ys : List ByteArray) (a : Addr) (ty : TypeId) (hown : W.ownsRow base 9 1 v n (xs.map Value.string)) (hys : ys.length = m) (hc : ∀ (j : Nat) y, ys[j]? = some y → W.cell? (a.add j) = some (.string y)) (hsz : n + m ≤ 1000) (hbase : base ≤ W.heap.size) :
    ∃ v' w', (Builtin.append_ #[50, 50] ty #[v, .slice (some a) m c]).run Try.prog W = .ok v' w' ∧ w'.ownsRow base 9 1 v' (n + m) ((xs ++ ys).map Value.string) ∧ Below base W w' := by
  obtain ⟨i0, hi, hz0, hz1, hz2⟩ := info_parts infoStr8
  obtain ⟨v', w', h1, h2, h3, _⟩ := run_append_own (P := Try.prog) W base 50 ty 9 i0 (.string ⟨#[]⟩) 1 16 Try.underlying50 hi hz0 hz1 hz2 rfl (by decide) v n _ hown a m c (ys.map Value.string) (by simp [hys]) (fun j u hj => by
    rw [List.getElem?_map] at hj
    cases hy : ys[j]? with
    | none => rw [hy] at hj; cases hj
    | some y => rw [hy] at hj; simp at hj; rw [← hj]; exact hc j y hy) (fun u hu => by
    obtain ⟨y, _, rfl⟩ := List.mem_map.1 hu
    rfl) (by unfold maxLen; omega) (by omega) hbase
  exact ⟨v', w', h1, by rw [List.map_append]; exact h2, (Below.refl base W).grown h3 hbase (fun k hk => own_base hown k hk)⟩
theorem own_drew_alloc {w : World} {base e size n : Nat} {v : Value} {xs : List Value} (h : w.ownsRow base e size v n xs) (q : Nat) (o : Obj) : ((w.drewN q).alloc o).ownsRow base e size v n xs :=
  (show (w.drewN q).ownsRow base e size v n xs from h).alloc o
theorem cell_one_str (w : World) (s : ByteArray) (t : TypeId) (q : Nat) : ∀ (j : Nat) y, [s][j]? = some y → ((w.drewN q).alloc (.cells #[.string s] t)).cell? ((⟨w.heap.size, 0, none⟩ : Addr).add j) = some (.string y) := by
  intro j y hj
  cases j with
  | zero =>
    simp at hj
    subst hj
    exact cell_one_new (w.drewN q) (.string s) t 0 _ rfl
  | succ j => simp at hj
/-- An append onto a row of one's own, at a step of a region that draws. -/
theorem step_app_own {w : World} {ops : Array Oper} {o : Oper} {a : Act} {K : Act → World → Prop} {Q : Exit → Act → World → Prop} {E : Prop} (hgd : o.guard = none) (s x : Operand)
    (ho : o.op = .call { callee := .builtin .append, args := #[s, x], argTypes := #[50, 50] }) (base n m c : Nat) (v : Value) (xs ys : List ByteArray) (ad : Addr) (hs : a.eval s = v) (hx : a.eval x = .slice (some ad) m c)
    (hown : w.ownsRow base 9 1 v n (xs.map Value.string)) (hys : ys.length = m) (hc : ∀ (j : Nat) y, ys[j]? = some y → w.cell? (ad.add j) = some (.string y)) (hsz : n + m ≤ 1000) (hbase : base ≤ w.heap.size)
    (h : ∀ v' w', w'.ownsRow base 9 1 v' (n + m) ((xs ++ ys).map Value.string) → Below base w w' → K (a.put o.dst v') w') :
    if Region.wanted o (yielded ops a.tmps) = true then Oper.wp Try.prog o a w K Q else E := by
  have hw : Region.wanted o (yielded ops a.tmps) = true := by simp [Region.wanted, hgd]
  rw [if_pos hw]
  obtain ⟨v', w', hr, h1, h2⟩ := app_own w base n m c v xs ys ad o.type hown hys hc hsz hbase
  unfold Oper.wp execOp
  simp only [ho, resolve, invoke, builtin, Sem.run_bind, Sem.run_pure, Result.andThen_ok, List.map_toArray, List.map_cons, List.map_nil, hs, hx, hr]
  exact h v' w' h1 h2
theorem ins_at : ∀ (L : List (Int × Int × Int)) (i : Nat) n l h, insB L = true → L[i]? = some (n, l, h) → l ≤ n ∧ n ≤ h
  | [], i, n, l, h, _, hg => by simp at hg
  | x :: L, 0, n, l, h, hb, hg => by
    simp at hg
    subst hg
    have hb' : (inB n l h && insB L) = true := hb
    rw [Bool.and_eq_true] at hb'
    have := hb'.1
    unfold inB at this
    rw [Bool.and_eq_true] at this
    exact ⟨of_decide_eq_true this.1, of_decide_eq_true this.2⟩
  | x :: L, i + 1, n, l, h, hb, hg => by
    obtain ⟨a, b, c⟩ := x
    have hb' : (inB a b c && insB L) = true := hb
    rw [Bool.and_eq_true] at hb'
    exact ins_at L i n l h hb'.2 (by simpa using hg)
theorem rightN_range (n0 n1 n2 n3 n4 n5 n6 n7 n8 n9 n10 n11 n12 n13 n14 n15 : Int) : ∀ x ∈ rightN n0 n1 n2 n3 n4 n5 n6 n7 n8 n9 n10 n11 n12 n13 n14 n15, 0 ≤ x.2.1 ∧ x.2.2 ≤ 1073741824 := by
  unfold rightN
  simp
theorem CBox.load {g : Nat} {s t : ByteArray} {n0 n1 n2 n3 n4 n5 n6 n7 n8 n9 n10 n11 n12 n13 n14 n15 : Int} {W : World} (h : CBox g s t n0 n1 n2 n3 n4 n5 n6 n7 n8 n9 n10 n11 n12 n13 n14 n15 W) : True := trivial
set_option maxHeartbeats 16000000 in
set_option maxRecDepth 100000 in
theorem config_Print.calls (a0_0 : ByteArray) (a0_1 : ByteArray) (a0_2 : Int) (a0_3 : Int) (a0_4 : Int) (a0_5 : Int) (a0_6 : Int) (a0_7 : Int) (a0_8 : Int) (a0_9 : Int) (a0_10 : Int) (a0_11 : Int) (a0_12 : Int) (a0_13 : Int) (a0_14 : Int) (a0_15 : Int) (a0_16 : Int) (a0_17 : Int) (r : ByteArray) (w : World) (h : config_Print.f a0_0 a0_1 a0_2 a0_3 a0_4 a0_5 a0_6 a0_7 a0_8 a0_9 a0_10 a0_11 a0_12 a0_13 a0_14 a0_15 a0_16 a0_17 = some r) :
    Calls Try.prog 8 #[.agg #[.string a0_0, .string a0_1, .int .i64 a0_2, .int .i64 a0_3, .int .i64 a0_4, .int .i64 a0_5, .int .i64 a0_6, .int .i64 a0_7, .int .i64 a0_8, .int .i64 a0_9, .int .i64 a0_10, .int .i64 a0_11, .int .i64 a0_12, .int .i64 a0_13, .int .i64 a0_14, .int .i64 a0_15, .int .i64 a0_16, .int .i64 a0_17]] w fun e w' => e = .returned (.string r) ∧ Below w.heap.size w w' := by
  replace h := Option.bind_eq_some_iff.mp h
  obtain ⟨e0, he0, h⟩ := h
  have HRT := fun W => config_Right.calls a0_0 a0_1 a0_2 a0_3 a0_4 a0_5 a0_6 a0_7 a0_8 a0_9 a0_10 a0_11 a0_12 a0_13 a0_14 a0_15 a0_16 a0_17 e0 W he0
  by_cases he : e0 = 0
  · rw [if_pos he] at h
    subst he
    by_cases hj : (printJ a0_0 a0_1 ((rightN a0_2 a0_3 a0_4 a0_5 a0_6 a0_7 a0_8 a0_9 a0_10 a0_11 a0_12 a0_13 a0_14 a0_15 a0_16 a0_17).map (·.1))).length ≤ 140737488351232
    · rw [if_pos hj] at h
      have HRES := Aside0.mk (Option.some.inj h)
      clear h
      obtain ⟨i0, hi, hz0, hz1, hz2⟩ := info_parts infoStr8
      have HINS : Aside0 (insB (rightN a0_2 a0_3 a0_4 a0_5 a0_6 a0_7 a0_8 a0_9 a0_10 a0_11 a0_12 a0_13 a0_14 a0_15 a0_16 a0_17) = true) := ⟨by
        unfold config_Right.f at he0
        replace he0 := Option.bind_eq_some_iff.mp he0
        obtain ⟨p, _, he0⟩ := he0
        have he0 := Option.some.inj he0
        by_cases h1 : nameBad a0_0 = true
        · rw [if_pos h1] at he0; omega
        · rw [if_neg h1] at he0
          by_cases h2 : hostBad a0_1 p.1 = true
          · rw [if_pos h2] at he0; omega
          · rw [if_neg h2] at he0
            by_cases h3 : insB (rightN a0_2 a0_3 a0_4 a0_5 a0_6 a0_7 a0_8 a0_9 a0_10 a0_11 a0_12 a0_13 a0_14 a0_15 a0_16 a0_17) = true
            · exact h3
            · rw [if_neg h3] at he0; omega⟩
      clear he0
      by_cases e1 : a0_1.toList = []
      · have e1b : (a0_1.toList == []) = true := beq_iff_eq.mpr e1
        go_enter Try.func8, Try.ntmps8
        go_wp2_with (first
          | (go_at_call 6; refine (HRT _).mono ?_; rintro e w1 ⟨rfl, hb1⟩; have hx1 : CBox w.heap.size a0_0 a0_1 a0_2 a0_3 a0_4 a0_5 a0_6 a0_7 a0_8 a0_9 a0_10 a0_11 a0_12 a0_13 a0_14 a0_15 a0_16 a0_17 w1 := CBox.next (World.alloc_heap_new _ _) hb1; have c0 := hx1.name; have c1 := hx1.host; have hlt1 := World.block_lt_of_cell? w1 _ c1; have c2 : (w1.alloc (.cells #[.string a0_0, .string a0_1] 9)).cell? ⟨w.heap.size, 1, none⟩ = some (.string a0_1) := (World.cell?_alloc_lt _ _ _ hlt1).trans c1)
          | (go_at_call 18
             generalize hW2 : World.alloc w1 _ = W2
             have hr2 : W2.heap[w1.heap.size]? = some (.cells #[.string a0_0, .string ⟨#[45]⟩] 9 (0, 0)) := by rw [← hW2]; exact World.alloc_heap_new _ _
             have B2 : Below w1.heap.size w1 W2 := by rw [← hW2]; exact (Below.refl _ w1).alloc (Nat.le_refl _) _
             clear hW2
             have HX2 := hx1.next B2
             have BW1 := below_step ((Below.refl _ w).alloc (Nat.le_refl _) _) hb1
             have HOW2 : W2.ownsRow (w.heap.size + 1) 9 1 (.slice (some ⟨w1.heap.size, 0, none⟩) 2 2) 2 ([a0_0, ⟨#[45]⟩].map Value.string) := ⟨rfl, .inr ⟨w1.heap.size, 2, _, rfl, hlt1, hr2, Nat.le_refl _, by decide, rfl, rfl⟩⟩
             refine (bounds_wp _ _).mono ?_
             rintro e w3 ⟨rfl, hb3⟩
             have HX3 := Aside0.mk (HX2.next hb3)
             have HOW3 := Aside0.mk (own_below8 HOW2 hb3)
             have BW3 := Aside0.mk (below_step (below_step BW1 B2) hb3)
             clear hr2 B2 HX2 BW1 HOW2 hb3 hx1 c0 c1 c2 hb1))
        go_loopg [3, 20] 17 (fun gg s3 s20 wr => ∃ i : Nat, s20 = .int .i64 (i : Int) ∧ i ≤ 16 ∧ 16 - i < gg ∧ Aside0 (wr.ownsRow (w.heap.size + 1) 9 1 s3 (i + 2) (((printL a0_0 a0_1 ((rightN a0_2 a0_3 a0_4 a0_5 a0_6 a0_7 a0_8 a0_9 a0_10 a0_11 a0_12 a0_13 a0_14 a0_15 a0_16 a0_17).map (·.1))).take (i + 2)).map Value.string) ) ∧ Aside0 (CBox w.heap.size a0_0 a0_1 a0_2 a0_3 a0_4 a0_5 a0_6 a0_7 a0_8 a0_9 a0_10 a0_11 a0_12 a0_13 a0_14 a0_15 a0_16 a0_17 wr) ∧ Aside0 (Below w.heap.size w wr))
        case atStart =>
          refine ⟨0, rfl, by omega, by omega, ⟨?_⟩, HX3, BW3⟩
          have e3 : (printL a0_0 a0_1 ((rightN a0_2 a0_3 a0_4 a0_5 a0_6 a0_7 a0_8 a0_9 a0_10 a0_11 a0_12 a0_13 a0_14 a0_15 a0_16 a0_17).map (·.1))).take (0 + 2) = [a0_0, ⟨#[45]⟩] := by unfold printL; first | rw [if_pos e1]; rfl | rw [if_neg e1]; rfl
          rw [e3]
          exact HOW3.out
        case round =>
          obtain ⟨i, rfl, hi9, hgz, HOW, HX, BW⟩ := hrel
          cases gk with
          | zero => exact absurd hgz (by omega)
          | succ g' =>
            by_cases hlt : i < 16
            · have hlt2 : ((i : Int) < 16) := by omega
              obtain ⟨o, n, l, h, hix, hcell, hget⟩ := bound_at w.heap.size a0_2 a0_3 a0_4 a0_5 a0_6 a0_7 a0_8 a0_9 a0_10 a0_11 a0_12 a0_13 a0_14 a0_15 a0_16 a0_17 a0_0 a0_1 i hlt
              have hrange := rightN_range a0_2 a0_3 a0_4 a0_5 a0_6 a0_7 a0_8 a0_9 a0_10 a0_11 a0_12 a0_13 a0_14 a0_15 a0_16 a0_17 _ (List.mem_of_getElem? hget)
              have hin := ins_at _ i n l h HINS.out hget
              have hT := fun W => digits_Text.calls n (figB n.toNat 10) W (text_fig n (by have := hrange.1; simp at this; omega) (by have := hrange.2; simp at this; omega))
              have hc := hcell _ HX.out
              have hca : (wr.alloc (.cells #[.pointer (some ⟨w.heap.size, o, none⟩), .int .i64 l, .int .i64 h] 43)).cell? ⟨w.heap.size, o, none⟩ = some (.int .i64 n) := (World.cell?_alloc_lt _ _ _ (World.block_lt_of_cell? wr _ hc)).trans hc
              have hwz := BW.out.size
              have HWZ := Aside0.mk (show w.heap.size < wr.heap.size from (Array.getElem?_eq_some_iff.1 HX.out).1)
              clear hwz
              have BA : Below wr.heap.size wr (wr.alloc (.cells #[.pointer (some ⟨w.heap.size, o, none⟩), .int .i64 l, .int .i64 h] 43)) := (Below.refl _ wr).alloc (Nat.le_refl _) _
              have HBA := Aside0.mk BA
              clear BA
              go_wp2_with (first
                | (go_at_call 24; refine (hT _).mono ?_; rintro e w' ⟨rfl, hb4⟩; have HB4 := Aside0.mk (below_step HBA.out hb4); clear hb4)
                | (at_builtin; refine wpList_append_own _ rfl _ _ 50 rfl (w.heap.size + 1) 9 i0 (.string ⟨#[]⟩) 1 16 Try.underlying50 hi hz0 hz1 hz2 rfl (by decide) _ _ _ rfl ((own_below8 HOW.out HB4.out).alloc _) ⟨w'.heap.size, 0, none⟩ 1 1 [.string (figB n.toNat 10)] rfl rfl (cell_one_new _ _ _) (by simp [Value.oneCell']) (by unfold maxLen; omega) (by omega) (by have := HWZ.out; have := HB4.out.size; simp; omega) ?_; intro v' w3 hown' hgrow _))
              go_roundg g'
              case measure => omega
              case rel =>
                have BX : Below (w.heap.size + 1) wr w3 := by
                  have h5 : Below (w.heap.size + 1) wr w' := HB4.out.mono HWZ.out
                  have h6 := HWZ.out
                  have h7 := HB4.out.size
                  exact (h5.alloc (by omega) _).grown hgrow (by simp; omega) (fun k hk => own_base HOW.out k hk)
                refine ⟨i + 1, by go_num, by omega, by omega, ⟨?_⟩, ⟨(BX.block w.heap.size (Nat.lt_succ_self _)).trans HX.out⟩, ⟨BW.out.trans (BX.mono (Nat.le_succ _))⟩⟩
                rw [show i + 1 + 2 = i + 2 + 1 from by omega, print_next a0_0 a0_1 _ i n l h hget]
                exact hown'
            · have hlt2 : ¬ ((i : Int) < 16) := by omega
              obtain rfl : i = 16 := by omega
              generalize hL : (printL a0_0 a0_1 ((rightN a0_2 a0_3 a0_4 a0_5 a0_6 a0_7 a0_8 a0_9 a0_10 a0_11 a0_12 a0_13 a0_14 a0_15 a0_16 a0_17).map (·.1))).take (16 + 2) = L at HOW
              have hLL : L = printL a0_0 a0_1 ((rightN a0_2 a0_3 a0_4 a0_5 a0_6 a0_7 a0_8 a0_9 a0_10 a0_11 a0_12 a0_13 a0_14 a0_15 a0_16 a0_17).map (·.1)) := by rw [← hL]; rfl
              have hll : L.length = 18 := by have := HOW.out.1; simpa using this
              rcases HOW.out.2 with ⟨_, h0⟩ | ⟨g, cap, cur, rfl, hg, hheap, hle, hmax, _, _⟩
              · exact absurd h0 (by omega)
              have hJ := Try.strings_Join g 0 cap L ⟨#[32]⟩ wr (fun j x hj => by have q := HOW.out.cells (g := g) rfl j (.string x) (by rw [List.getElem?_map, hj]; rfl); rw [Addr.add_lit] at q; exact q) (Array.getElem?_eq_some_iff.1 hheap).1 (by omega) (by omega) (by rw [hLL]; exact Nat.le_trans hj (by omega))
              rw [hll] at hJ
              have HJ := Aside0.mk hJ
              have HLL := Aside0.mk hLL
              clear hJ hL hLL hll hheap hg hle hmax
              go_wp2_with (go_at_call 25; refine HJ.out.mono ?_; rintro e w' ⟨rfl, hb⟩)
              go_ret
              exact ⟨by rw [← HRES.out, HLL.out]; rfl, below_step BW.out hb⟩
      · have e1b : (a0_1.toList == []) = false := beq_eq_false_iff_ne.mpr e1
        go_enter Try.func8, Try.ntmps8
        go_wp2_with (first
          | (go_at_call 6; refine (HRT _).mono ?_; rintro e w1 ⟨rfl, hb1⟩; have hx1 : CBox w.heap.size a0_0 a0_1 a0_2 a0_3 a0_4 a0_5 a0_6 a0_7 a0_8 a0_9 a0_10 a0_11 a0_12 a0_13 a0_14 a0_15 a0_16 a0_17 w1 := CBox.next (World.alloc_heap_new _ _) hb1; have c0 := hx1.name; have c1 := hx1.host; have hlt1 := World.block_lt_of_cell? w1 _ c1; have c2 : (w1.alloc (.cells #[.string a0_0, .string a0_1] 9)).cell? ⟨w.heap.size, 1, none⟩ = some (.string a0_1) := (World.cell?_alloc_lt _ _ _ hlt1).trans c1)
          | (go_at_call 18
             generalize hW2 : World.alloc w1 _ = W2
             have hr2 : W2.heap[w1.heap.size]? = some (.cells #[.string a0_0, .string a0_1] 9 (0, 0)) := by rw [← hW2]; exact World.alloc_heap_new _ _
             have B2 : Below w1.heap.size w1 W2 := by rw [← hW2]; exact (Below.refl _ w1).alloc (Nat.le_refl _) _
             clear hW2
             have HX2 := hx1.next B2
             have BW1 := below_step ((Below.refl _ w).alloc (Nat.le_refl _) _) hb1
             have HOW2 : W2.ownsRow (w.heap.size + 1) 9 1 (.slice (some ⟨w1.heap.size, 0, none⟩) 2 2) 2 ([a0_0, a0_1].map Value.string) := ⟨rfl, .inr ⟨w1.heap.size, 2, _, rfl, hlt1, hr2, Nat.le_refl _, by decide, rfl, rfl⟩⟩
             refine (bounds_wp _ _).mono ?_
             rintro e w3 ⟨rfl, hb3⟩
             have HX3 := Aside0.mk (HX2.next hb3)
             have HOW3 := Aside0.mk (own_below8 HOW2 hb3)
             have BW3 := Aside0.mk (below_step (below_step BW1 B2) hb3)
             clear hr2 B2 HX2 BW1 HOW2 hb3 hx1 c0 c1 c2 hb1))
        go_loopg [3, 20] 17 (fun gg s3 s20 wr => ∃ i : Nat, s20 = .int .i64 (i : Int) ∧ i ≤ 16 ∧ 16 - i < gg ∧ Aside0 (wr.ownsRow (w.heap.size + 1) 9 1 s3 (i + 2) (((printL a0_0 a0_1 ((rightN a0_2 a0_3 a0_4 a0_5 a0_6 a0_7 a0_8 a0_9 a0_10 a0_11 a0_12 a0_13 a0_14 a0_15 a0_16 a0_17).map (·.1))).take (i + 2)).map Value.string) ) ∧ Aside0 (CBox w.heap.size a0_0 a0_1 a0_2 a0_3 a0_4 a0_5 a0_6 a0_7 a0_8 a0_9 a0_10 a0_11 a0_12 a0_13 a0_14 a0_15 a0_16 a0_17 wr) ∧ Aside0 (Below w.heap.size w wr))
        case atStart =>
          refine ⟨0, rfl, by omega, by omega, ⟨?_⟩, HX3, BW3⟩
          have e3 : (printL a0_0 a0_1 ((rightN a0_2 a0_3 a0_4 a0_5 a0_6 a0_7 a0_8 a0_9 a0_10 a0_11 a0_12 a0_13 a0_14 a0_15 a0_16 a0_17).map (·.1))).take (0 + 2) = [a0_0, a0_1] := by unfold printL; first | rw [if_pos e1]; rfl | rw [if_neg e1]; rfl
          rw [e3]
          exact HOW3.out
        case round =>
          obtain ⟨i, rfl, hi9, hgz, HOW, HX, BW⟩ := hrel
          cases gk with
          | zero => exact absurd hgz (by omega)
          | succ g' =>
            by_cases hlt : i < 16
            · have hlt2 : ((i : Int) < 16) := by omega
              obtain ⟨o, n, l, h, hix, hcell, hget⟩ := bound_at w.heap.size a0_2 a0_3 a0_4 a0_5 a0_6 a0_7 a0_8 a0_9 a0_10 a0_11 a0_12 a0_13 a0_14 a0_15 a0_16 a0_17 a0_0 a0_1 i hlt
              have hrange := rightN_range a0_2 a0_3 a0_4 a0_5 a0_6 a0_7 a0_8 a0_9 a0_10 a0_11 a0_12 a0_13 a0_14 a0_15 a0_16 a0_17 _ (List.mem_of_getElem? hget)
              have hin := ins_at _ i n l h HINS.out hget
              have hT := fun W => digits_Text.calls n (figB n.toNat 10) W (text_fig n (by have := hrange.1; simp at this; omega) (by have := hrange.2; simp at this; omega))
              have hc := hcell _ HX.out
              have hca : (wr.alloc (.cells #[.pointer (some ⟨w.heap.size, o, none⟩), .int .i64 l, .int .i64 h] 43)).cell? ⟨w.heap.size, o, none⟩ = some (.int .i64 n) := (World.cell?_alloc_lt _ _ _ (World.block_lt_of_cell? wr _ hc)).trans hc
              have hwz := BW.out.size
              have HWZ := Aside0.mk (show w.heap.size < wr.heap.size from (Array.getElem?_eq_some_iff.1 HX.out).1)
              clear hwz
              have BA : Below wr.heap.size wr (wr.alloc (.cells #[.pointer (some ⟨w.heap.size, o, none⟩), .int .i64 l, .int .i64 h] 43)) := (Below.refl _ wr).alloc (Nat.le_refl _) _
              have HBA := Aside0.mk BA
              clear BA
              go_wp2_with (first
                | (go_at_call 24; refine (hT _).mono ?_; rintro e w' ⟨rfl, hb4⟩; have HB4 := Aside0.mk (below_step HBA.out hb4); clear hb4)
                | (at_builtin; refine wpList_append_own _ rfl _ _ 50 rfl (w.heap.size + 1) 9 i0 (.string ⟨#[]⟩) 1 16 Try.underlying50 hi hz0 hz1 hz2 rfl (by decide) _ _ _ rfl ((own_below8 HOW.out HB4.out).alloc _) ⟨w'.heap.size, 0, none⟩ 1 1 [.string (figB n.toNat 10)] rfl rfl (cell_one_new _ _ _) (by simp [Value.oneCell']) (by unfold maxLen; omega) (by omega) (by have := HWZ.out; have := HB4.out.size; simp; omega) ?_; intro v' w3 hown' hgrow _))
              go_roundg g'
              case measure => omega
              case rel =>
                have BX : Below (w.heap.size + 1) wr w3 := by
                  have h5 : Below (w.heap.size + 1) wr w' := HB4.out.mono HWZ.out
                  have h6 := HWZ.out
                  have h7 := HB4.out.size
                  exact (h5.alloc (by omega) _).grown hgrow (by simp; omega) (fun k hk => own_base HOW.out k hk)
                refine ⟨i + 1, by go_num, by omega, by omega, ⟨?_⟩, ⟨(BX.block w.heap.size (Nat.lt_succ_self _)).trans HX.out⟩, ⟨BW.out.trans (BX.mono (Nat.le_succ _))⟩⟩
                rw [show i + 1 + 2 = i + 2 + 1 from by omega, print_next a0_0 a0_1 _ i n l h hget]
                exact hown'
            · have hlt2 : ¬ ((i : Int) < 16) := by omega
              obtain rfl : i = 16 := by omega
              generalize hL : (printL a0_0 a0_1 ((rightN a0_2 a0_3 a0_4 a0_5 a0_6 a0_7 a0_8 a0_9 a0_10 a0_11 a0_12 a0_13 a0_14 a0_15 a0_16 a0_17).map (·.1))).take (16 + 2) = L at HOW
              have hLL : L = printL a0_0 a0_1 ((rightN a0_2 a0_3 a0_4 a0_5 a0_6 a0_7 a0_8 a0_9 a0_10 a0_11 a0_12 a0_13 a0_14 a0_15 a0_16 a0_17).map (·.1)) := by rw [← hL]; rfl
              have hll : L.length = 18 := by have := HOW.out.1; simpa using this
              rcases HOW.out.2 with ⟨_, h0⟩ | ⟨g, cap, cur, rfl, hg, hheap, hle, hmax, _, _⟩
              · exact absurd h0 (by omega)
              have hJ := Try.strings_Join g 0 cap L ⟨#[32]⟩ wr (fun j x hj => by have q := HOW.out.cells (g := g) rfl j (.string x) (by rw [List.getElem?_map, hj]; rfl); rw [Addr.add_lit] at q; exact q) (Array.getElem?_eq_some_iff.1 hheap).1 (by omega) (by omega) (by rw [hLL]; exact Nat.le_trans hj (by omega))
              rw [hll] at hJ
              have HJ := Aside0.mk hJ
              have HLL := Aside0.mk hLL
              clear hJ hL hLL hll hheap hg hle hmax
              go_wp2_with (go_at_call 25; refine HJ.out.mono ?_; rintro e w' ⟨rfl, hb⟩)
              go_ret
              exact ⟨by rw [← HRES.out, HLL.out]; rfl, below_step BW.out hb⟩
    · rw [if_neg hj] at h
      cases h
  · rw [if_neg he] at h
    obtain rfl := Option.some.inj h
    have heb : (e0 != 0) = true := bne_iff_ne.mpr he
    go_enter Try.func8, Try.ntmps8
    go_wp2_with (first | (go_at_call 6; refine (HRT _).mono ?_; rintro e w1 ⟨rfl, hb1⟩))
    go_ret
    exact ⟨rfl, below_step ((Below.refl _ w).alloc (Nat.le_refl _) _) hb1⟩


end Go.Proofs.Ytdjmgmiaognncaa.X
namespace Go.Proofs.Ytdjmgmiaognncaa.X
open Go.RowKit Go.Proofs.YtdjmgmiaognncaaW.PrintWords Go.Proofs.YtdjmgmiaognncaaW.PrintLast Go.Proofs.YtdjmgmiaognncaaW.PrintMore
attribute [local go_sem] max2_int min2_int max_two min_two max_three min_three max_four min_four   -- for this text's walks alone
set_option linter.unusedVariables false
set_option linter.unusedSimpArgs false

/-! ### config_Usual: function 15 -/
def config_Usual.f  : Option (ByteArray × ByteArray × Int × Int × Int × Int × Int × Int × Int × Int × Int × Int × Int × Int × Int × Int × Int × Int) := some ((⟨#[97, 98, 117, 116, 109, 101, 110, 116]⟩ : ByteArray), (⟨#[]⟩ : ByteArray), 1, 0, 1, 1, 1024, 4096, 10, 0, 8, 8, 0, 8192, 100, 256, 65536, 0)
set_option maxHeartbeats 8000000 in
set_option maxRecDepth 100000 in
theorem config_Usual.calls  (r1 : ByteArray) (r2 : ByteArray) (r3 : Int) (r4 : Int) (r5 : Int) (r6 : Int) (r7 : Int) (r8 : Int) (r9 : Int) (r10 : Int) (r11 : Int) (r12 : Int) (r13 : Int) (r14 : Int) (r15 : Int) (r16 : Int) (r17 : Int) (r18 : Int) (w : World) (h : config_Usual.f  = some (r1, r2, r3, r4, r5, r6, r7, r8, r9, r10, r11, r12, r13, r14, r15, r16, r17, r18)) :
    Calls Try.prog 15 #[] w fun e w' => e = .returned (.agg #[.string r1, .string r2, .int .i64 r3, .int .i64 r4, .int .i64 r5, .int .i64 r6, .int .i64 r7, .int .i64 r8, .int .i64 r9, .int .i64 r10, .int .i64 r11, .int .i64 r12, .int .i64 r13, .int .i64 r14, .int .i64 r15, .int .i64 r16, .int .i64 r17, .int .i64 r18]) ∧ Below w.heap.size w w' := by
  have hu25 := Try.underlying25
  have hu23 := Try.underlying23
  have HB := Aside0.mk (Below.refl w.heap.size w)
  have H : (some ((⟨#[97, 98, 117, 116, 109, 101, 110, 116]⟩ : ByteArray), (⟨#[]⟩ : ByteArray), 1, 0, 1, 1, 1024, 4096, 10, 0, 8, 8, 0, 8192, 100, 256, 65536, 0)) = some (r1, r2, r3, r4, r5, r6, r7, r8, r9, r10, r11, r12, r13, r14, r15, r16, r17, r18) := h
  clear h
  simp only [Option.some.injEq, Prod.mk.injEq] at H
  obtain ⟨rfl, rfl, rfl, rfl, rfl, rfl, rfl, rfl, rfl, rfl, rfl, rfl, rfl, rfl, rfl, rfl, rfl, rfl⟩ := H
  go_enter Try.func15, Try.ntmps15
  go_wp2_with (first | ((with_reducible refine gate_dst (N := 0) rfl ?_); refine box_event ?hg (N := 0) ?hd (cs := #[.string (⟨#[]⟩ : ByteArray), .string (⟨#[]⟩ : ByteArray), .int .i64 0, .int .i64 0, .int .i64 0, .int .i64 0, .int .i64 0, .int .i64 0, .int .i64 0, .int .i64 0, .int .i64 0, .int .i64 0, .int .i64 0, .int .i64 0, .int .i64 0, .int .i64 0, .int .i64 0, .int .i64 0]) (t := 25) ?hr ?_; (case hd => rfl); (case hg => rfl); (case hr => first | (go_simp; done) | (go_simp; rfl)); intro gb101 hg w1 hbox hb; have n0_ := Aside0.mk (below_step (by repeat (first | (with_reducible first | exact HB.out | apply below_alloc | apply pw_below_drewN | apply below_drew1) | exact HB.out)) hb); have n1_ := Aside0.mk (hbox); have n2_ := Aside0.mk ((by rw [hg]; exact (below_size (by repeat (first | (with_reducible first | exact HB.out | apply below_alloc | apply pw_below_drewN | apply below_drew1) | exact HB.out))) : w.heap.size ≤ gb101)); have n3_ := Aside0.mk ((by rw [hg]; exact (below_size (by repeat (first | (with_reducible first | exact HB.out | apply below_alloc | apply pw_below_drewN | apply below_drew1) | exact HB.out))) : w.heap.size ≤ gb101)); clear HB; have HB := n0_; have BK101 := n1_; have GW101 := n2_; have GE101 := n3_; clear n0_ n1_ n2_ n3_; clear hb hbox hg; have hcz2_0 : w1.cell? ⟨gb101, 0, none⟩ = some (.string (⟨#[]⟩ : ByteArray)) := (blk_cell BK101.out 0).trans rfl; have hcz2_1 : w1.cell? ⟨gb101, 1, none⟩ = some (.string (⟨#[]⟩ : ByteArray)) := (blk_cell BK101.out 1).trans rfl; have hcz2_2 : w1.cell? ⟨gb101, 2, none⟩ = some (.int .i64 0) := (blk_cell BK101.out 2).trans rfl; have hcz2_3 : w1.cell? ⟨gb101, 3, none⟩ = some (.int .i64 0) := (blk_cell BK101.out 3).trans rfl; have hcz2_4 : w1.cell? ⟨gb101, 4, none⟩ = some (.int .i64 0) := (blk_cell BK101.out 4).trans rfl; have hcz2_5 : w1.cell? ⟨gb101, 5, none⟩ = some (.int .i64 0) := (blk_cell BK101.out 5).trans rfl; have hcz2_6 : w1.cell? ⟨gb101, 6, none⟩ = some (.int .i64 0) := (blk_cell BK101.out 6).trans rfl; have hcz2_7 : w1.cell? ⟨gb101, 7, none⟩ = some (.int .i64 0) := (blk_cell BK101.out 7).trans rfl; have hcz2_8 : w1.cell? ⟨gb101, 8, none⟩ = some (.int .i64 0) := (blk_cell BK101.out 8).trans rfl; have hcz2_9 : w1.cell? ⟨gb101, 9, none⟩ = some (.int .i64 0) := (blk_cell BK101.out 9).trans rfl; have hcz2_10 : w1.cell? ⟨gb101, 10, none⟩ = some (.int .i64 0) := (blk_cell BK101.out 10).trans rfl; have hcz2_11 : w1.cell? ⟨gb101, 11, none⟩ = some (.int .i64 0) := (blk_cell BK101.out 11).trans rfl; have hcz2_12 : w1.cell? ⟨gb101, 12, none⟩ = some (.int .i64 0) := (blk_cell BK101.out 12).trans rfl; have hcz2_13 : w1.cell? ⟨gb101, 13, none⟩ = some (.int .i64 0) := (blk_cell BK101.out 13).trans rfl; have hcz2_14 : w1.cell? ⟨gb101, 14, none⟩ = some (.int .i64 0) := (blk_cell BK101.out 14).trans rfl; have hcz2_15 : w1.cell? ⟨gb101, 15, none⟩ = some (.int .i64 0) := (blk_cell BK101.out 15).trans rfl; have hcz2_16 : w1.cell? ⟨gb101, 16, none⟩ = some (.int .i64 0) := (blk_cell BK101.out 16).trans rfl; have hcz2_17 : w1.cell? ⟨gb101, 17, none⟩ = some (.int .i64 0) := (blk_cell BK101.out 17).trans rfl; have hfz2_0 := blk_frozen BK101.out 0; have hfz2_1 := blk_frozen BK101.out 1; have hfz2_2 := blk_frozen BK101.out 2; have hfz2_3 := blk_frozen BK101.out 3; have hfz2_4 := blk_frozen BK101.out 4; have hfz2_5 := blk_frozen BK101.out 5; have hfz2_6 := blk_frozen BK101.out 6; have hfz2_7 := blk_frozen BK101.out 7; have hfz2_8 := blk_frozen BK101.out 8; have hfz2_9 := blk_frozen BK101.out 9; have hfz2_10 := blk_frozen BK101.out 10; have hfz2_11 := blk_frozen BK101.out 11; have hfz2_12 := blk_frozen BK101.out 12; have hfz2_13 := blk_frozen BK101.out 13; have hfz2_14 := blk_frozen BK101.out 14; have hfz2_15 := blk_frozen BK101.out 15; have hfz2_16 := blk_frozen BK101.out 16; have hfz2_17 := blk_frozen BK101.out 17))
  refine bodyPost_ret (results_cell_row rfl _ _ gb101 25 #[.string (⟨#[97, 98, 117, 116, 109, 101, 110, 116]⟩ : ByteArray), .string (⟨#[]⟩ : ByteArray), .int .i64 1, .int .i64 0, .int .i64 1, .int .i64 1, .int .i64 1024, .int .i64 4096, .int .i64 10, .int .i64 0, .int .i64 8, .int .i64 8, .int .i64 0, .int .i64 8192, .int .i64 100, .int .i64 256, .int .i64 65536, .int .i64 0] (0, 0) _ rfl (by (with_reducible repeat (first | refine blk_drewN ?_ _ | refine blk_drew ?_ | refine blk_alloc ?_ _)); refine blk_put (cs := #[.string (⟨#[97, 98, 117, 116, 109, 101, 110, 116]⟩ : ByteArray), .string (⟨#[]⟩ : ByteArray), .int .i64 1, .int .i64 0, .int .i64 1, .int .i64 1, .int .i64 1024, .int .i64 4096, .int .i64 10, .int .i64 0, .int .i64 8, .int .i64 8, .int .i64 0, .int .i64 8192, .int .i64 100, .int .i64 256, .int .i64 65536, .int .i64 0]) ?_ 17 _ rfl; (with_reducible repeat (first | refine blk_drewN ?_ _ | refine blk_drew ?_ | refine blk_alloc ?_ _)); refine blk_put (cs := #[.string (⟨#[97, 98, 117, 116, 109, 101, 110, 116]⟩ : ByteArray), .string (⟨#[]⟩ : ByteArray), .int .i64 1, .int .i64 0, .int .i64 1, .int .i64 1, .int .i64 1024, .int .i64 4096, .int .i64 10, .int .i64 0, .int .i64 8, .int .i64 8, .int .i64 0, .int .i64 8192, .int .i64 100, .int .i64 256, .int .i64 0, .int .i64 0]) ?_ 16 _ rfl; (with_reducible repeat (first | refine blk_drewN ?_ _ | refine blk_drew ?_ | refine blk_alloc ?_ _)); refine blk_put (cs := #[.string (⟨#[97, 98, 117, 116, 109, 101, 110, 116]⟩ : ByteArray), .string (⟨#[]⟩ : ByteArray), .int .i64 1, .int .i64 0, .int .i64 1, .int .i64 1, .int .i64 1024, .int .i64 4096, .int .i64 10, .int .i64 0, .int .i64 8, .int .i64 8, .int .i64 0, .int .i64 8192, .int .i64 100, .int .i64 0, .int .i64 0, .int .i64 0]) ?_ 15 _ rfl; (with_reducible repeat (first | refine blk_drewN ?_ _ | refine blk_drew ?_ | refine blk_alloc ?_ _)); refine blk_put (cs := #[.string (⟨#[97, 98, 117, 116, 109, 101, 110, 116]⟩ : ByteArray), .string (⟨#[]⟩ : ByteArray), .int .i64 1, .int .i64 0, .int .i64 1, .int .i64 1, .int .i64 1024, .int .i64 4096, .int .i64 10, .int .i64 0, .int .i64 8, .int .i64 8, .int .i64 0, .int .i64 8192, .int .i64 0, .int .i64 0, .int .i64 0, .int .i64 0]) ?_ 14 _ rfl; (with_reducible repeat (first | refine blk_drewN ?_ _ | refine blk_drew ?_ | refine blk_alloc ?_ _)); refine blk_put (cs := #[.string (⟨#[97, 98, 117, 116, 109, 101, 110, 116]⟩ : ByteArray), .string (⟨#[]⟩ : ByteArray), .int .i64 1, .int .i64 0, .int .i64 1, .int .i64 1, .int .i64 1024, .int .i64 4096, .int .i64 10, .int .i64 0, .int .i64 8, .int .i64 8, .int .i64 0, .int .i64 0, .int .i64 0, .int .i64 0, .int .i64 0, .int .i64 0]) ?_ 13 _ rfl; (with_reducible repeat (first | refine blk_drewN ?_ _ | refine blk_drew ?_ | refine blk_alloc ?_ _)); refine blk_put (cs := #[.string (⟨#[97, 98, 117, 116, 109, 101, 110, 116]⟩ : ByteArray), .string (⟨#[]⟩ : ByteArray), .int .i64 1, .int .i64 0, .int .i64 1, .int .i64 1, .int .i64 1024, .int .i64 4096, .int .i64 10, .int .i64 0, .int .i64 8, .int .i64 8, .int .i64 0, .int .i64 0, .int .i64 0, .int .i64 0, .int .i64 0, .int .i64 0]) ?_ 12 _ rfl; (with_reducible repeat (first | refine blk_drewN ?_ _ | refine blk_drew ?_ | refine blk_alloc ?_ _)); refine blk_put (cs := #[.string (⟨#[97, 98, 117, 116, 109, 101, 110, 116]⟩ : ByteArray), .string (⟨#[]⟩ : ByteArray), .int .i64 1, .int .i64 0, .int .i64 1, .int .i64 1, .int .i64 1024, .int .i64 4096, .int .i64 10, .int .i64 0, .int .i64 8, .int .i64 0, .int .i64 0, .int .i64 0, .int .i64 0, .int .i64 0, .int .i64 0, .int .i64 0]) ?_ 11 _ rfl; (with_reducible repeat (first | refine blk_drewN ?_ _ | refine blk_drew ?_ | refine blk_alloc ?_ _)); refine blk_put (cs := #[.string (⟨#[97, 98, 117, 116, 109, 101, 110, 116]⟩ : ByteArray), .string (⟨#[]⟩ : ByteArray), .int .i64 1, .int .i64 0, .int .i64 1, .int .i64 1, .int .i64 1024, .int .i64 4096, .int .i64 10, .int .i64 0, .int .i64 0, .int .i64 0, .int .i64 0, .int .i64 0, .int .i64 0, .int .i64 0, .int .i64 0, .int .i64 0]) ?_ 10 _ rfl; (with_reducible repeat (first | refine blk_drewN ?_ _ | refine blk_drew ?_ | refine blk_alloc ?_ _)); refine blk_put (cs := #[.string (⟨#[97, 98, 117, 116, 109, 101, 110, 116]⟩ : ByteArray), .string (⟨#[]⟩ : ByteArray), .int .i64 1, .int .i64 0, .int .i64 1, .int .i64 1, .int .i64 1024, .int .i64 4096, .int .i64 10, .int .i64 0, .int .i64 0, .int .i64 0, .int .i64 0, .int .i64 0, .int .i64 0, .int .i64 0, .int .i64 0, .int .i64 0]) ?_ 9 _ rfl; (with_reducible repeat (first | refine blk_drewN ?_ _ | refine blk_drew ?_ | refine blk_alloc ?_ _)); refine blk_put (cs := #[.string (⟨#[97, 98, 117, 116, 109, 101, 110, 116]⟩ : ByteArray), .string (⟨#[]⟩ : ByteArray), .int .i64 1, .int .i64 0, .int .i64 1, .int .i64 1, .int .i64 1024, .int .i64 4096, .int .i64 0, .int .i64 0, .int .i64 0, .int .i64 0, .int .i64 0, .int .i64 0, .int .i64 0, .int .i64 0, .int .i64 0, .int .i64 0]) ?_ 8 _ rfl; (with_reducible repeat (first | refine blk_drewN ?_ _ | refine blk_drew ?_ | refine blk_alloc ?_ _)); refine blk_put (cs := #[.string (⟨#[97, 98, 117, 116, 109, 101, 110, 116]⟩ : ByteArray), .string (⟨#[]⟩ : ByteArray), .int .i64 1, .int .i64 0, .int .i64 1, .int .i64 1, .int .i64 1024, .int .i64 0, .int .i64 0, .int .i64 0, .int .i64 0, .int .i64 0, .int .i64 0, .int .i64 0, .int .i64 0, .int .i64 0, .int .i64 0, .int .i64 0]) ?_ 7 _ rfl; (with_reducible repeat (first | refine blk_drewN ?_ _ | refine blk_drew ?_ | refine blk_alloc ?_ _)); refine blk_put (cs := #[.string (⟨#[97, 98, 117, 116, 109, 101, 110, 116]⟩ : ByteArray), .string (⟨#[]⟩ : ByteArray), .int .i64 1, .int .i64 0, .int .i64 1, .int .i64 1, .int .i64 0, .int .i64 0, .int .i64 0, .int .i64 0, .int .i64 0, .int .i64 0, .int .i64 0, .int .i64 0, .int .i64 0, .int .i64 0, .int .i64 0, .int .i64 0]) ?_ 6 _ rfl; (with_reducible repeat (first | refine blk_drewN ?_ _ | refine blk_drew ?_ | refine blk_alloc ?_ _)); refine blk_put (cs := #[.string (⟨#[97, 98, 117, 116, 109, 101, 110, 116]⟩ : ByteArray), .string (⟨#[]⟩ : ByteArray), .int .i64 1, .int .i64 0, .int .i64 1, .int .i64 0, .int .i64 0, .int .i64 0, .int .i64 0, .int .i64 0, .int .i64 0, .int .i64 0, .int .i64 0, .int .i64 0, .int .i64 0, .int .i64 0, .int .i64 0, .int .i64 0]) ?_ 5 _ rfl; (with_reducible repeat (first | refine blk_drewN ?_ _ | refine blk_drew ?_ | refine blk_alloc ?_ _)); refine blk_put (cs := #[.string (⟨#[97, 98, 117, 116, 109, 101, 110, 116]⟩ : ByteArray), .string (⟨#[]⟩ : ByteArray), .int .i64 1, .int .i64 0, .int .i64 0, .int .i64 0, .int .i64 0, .int .i64 0, .int .i64 0, .int .i64 0, .int .i64 0, .int .i64 0, .int .i64 0, .int .i64 0, .int .i64 0, .int .i64 0, .int .i64 0, .int .i64 0]) ?_ 4 _ rfl; (with_reducible repeat (first | refine blk_drewN ?_ _ | refine blk_drew ?_ | refine blk_alloc ?_ _)); refine blk_put (cs := #[.string (⟨#[97, 98, 117, 116, 109, 101, 110, 116]⟩ : ByteArray), .string (⟨#[]⟩ : ByteArray), .int .i64 1, .int .i64 0, .int .i64 0, .int .i64 0, .int .i64 0, .int .i64 0, .int .i64 0, .int .i64 0, .int .i64 0, .int .i64 0, .int .i64 0, .int .i64 0, .int .i64 0, .int .i64 0, .int .i64 0, .int .i64 0]) ?_ 3 _ rfl; (with_reducible repeat (first | refine blk_drewN ?_ _ | refine blk_drew ?_ | refine blk_alloc ?_ _)); refine blk_put (cs := #[.string (⟨#[97, 98, 117, 116, 109, 101, 110, 116]⟩ : ByteArray), .string (⟨#[]⟩ : ByteArray), .int .i64 0, .int .i64 0, .int .i64 0, .int .i64 0, .int .i64 0, .int .i64 0, .int .i64 0, .int .i64 0, .int .i64 0, .int .i64 0, .int .i64 0, .int .i64 0, .int .i64 0, .int .i64 0, .int .i64 0, .int .i64 0]) ?_ 2 _ rfl; (with_reducible repeat (first | refine blk_drewN ?_ _ | refine blk_drew ?_ | refine blk_alloc ?_ _)); refine blk_put (cs := #[.string (⟨#[97, 98, 117, 116, 109, 101, 110, 116]⟩ : ByteArray), .string (⟨#[]⟩ : ByteArray), .int .i64 0, .int .i64 0, .int .i64 0, .int .i64 0, .int .i64 0, .int .i64 0, .int .i64 0, .int .i64 0, .int .i64 0, .int .i64 0, .int .i64 0, .int .i64 0, .int .i64 0, .int .i64 0, .int .i64 0, .int .i64 0]) ?_ 1 _ rfl; (with_reducible repeat (first | refine blk_drewN ?_ _ | refine blk_drew ?_ | refine blk_alloc ?_ _)); refine blk_put (cs := #[.string (⟨#[]⟩ : ByteArray), .string (⟨#[]⟩ : ByteArray), .int .i64 0, .int .i64 0, .int .i64 0, .int .i64 0, .int .i64 0, .int .i64 0, .int .i64 0, .int .i64 0, .int .i64 0, .int .i64 0, .int .i64 0, .int .i64 0, .int .i64 0, .int .i64 0, .int .i64 0, .int .i64 0]) ?_ 0 _ rfl; (with_reducible repeat (first | refine blk_drewN ?_ _ | refine blk_drew ?_ | refine blk_alloc ?_ _)); exact BK101.out) Try.underlying25 rfl (by kernel_rfl)) rfl ?_
  exact ⟨by first | rfl | (simp [errW_none, errW_some] <;> rfl) | (simp [*, errW_none, errW_some] <;> rfl), by repeat (first | (with_reducible first | exact HB.out | apply below_alloc | apply pw_below_drewN | apply below_drew1 | refine below_set ?_ GE101.out) | exact HB.out)⟩

end Go.Proofs.Ytdjmgmiaognncaa.X
namespace Go.Proofs.Ytdjmgmiaognncaa.X
open Go.RowKit Go.Proofs.YtdjmgmiaognncaaW.PrintWords Go.Proofs.YtdjmgmiaognncaaW.PrintLast Go.Proofs.YtdjmgmiaognncaaW.PrintMore
attribute [local go_sem] max2_int min2_int max_two min_two max_three min_three max_four min_four   -- for this text's walks alone
set_option linter.unusedVariables false
set_option linter.unusedSimpArgs false

/-! ### abutmentlaw13_lives: function 5 -/
def abutmentlaw13_lives.f  : Option (Bool) := (config_Usual.f).bind fun bt101 => ((config_Print.f bt101.1 bt101.2.1 bt101.2.2.1 bt101.2.2.2.1 bt101.2.2.2.2.1 bt101.2.2.2.2.2.1 bt101.2.2.2.2.2.2.1 bt101.2.2.2.2.2.2.2.1 bt101.2.2.2.2.2.2.2.2.1 bt101.2.2.2.2.2.2.2.2.2.1 bt101.2.2.2.2.2.2.2.2.2.2.1 bt101.2.2.2.2.2.2.2.2.2.2.2.1 bt101.2.2.2.2.2.2.2.2.2.2.2.2.1 bt101.2.2.2.2.2.2.2.2.2.2.2.2.2.1 bt101.2.2.2.2.2.2.2.2.2.2.2.2.2.2.1 bt101.2.2.2.2.2.2.2.2.2.2.2.2.2.2.2.1 bt101.2.2.2.2.2.2.2.2.2.2.2.2.2.2.2.2.1 bt101.2.2.2.2.2.2.2.2.2.2.2.2.2.2.2.2.2).bind fun t119 => (some (t119.toList == ([97, 98, 117, 116, 109, 101, 110, 116, 32, 45, 32, 49, 32, 48, 32, 49, 32, 49, 32, 49, 48, 50, 52, 32, 52, 48, 57, 54, 32, 49, 48, 32, 48, 32, 56, 32, 56, 32, 48, 32, 56, 49, 57, 50, 32, 49, 48, 48, 32, 50, 53, 54, 32, 54, 53, 53, 51, 54, 32, 48] : List UInt8))))
set_option maxHeartbeats 8000000 in
set_option maxRecDepth 100000 in
theorem abutmentlaw13_lives.calls  (r : Bool) (w : World) (h : abutmentlaw13_lives.f  = some r) :
    Calls Try.prog 5 #[] w fun e w' => e = .returned (.bool r) ∧ Below w.heap.size w w' := by
  have HB := Aside0.mk (Below.refl w.heap.size w)
  have H : ((config_Usual.f).bind fun bt101 => ((config_Print.f bt101.1 bt101.2.1 bt101.2.2.1 bt101.2.2.2.1 bt101.2.2.2.2.1 bt101.2.2.2.2.2.1 bt101.2.2.2.2.2.2.1 bt101.2.2.2.2.2.2.2.1 bt101.2.2.2.2.2.2.2.2.1 bt101.2.2.2.2.2.2.2.2.2.1 bt101.2.2.2.2.2.2.2.2.2.2.1 bt101.2.2.2.2.2.2.2.2.2.2.2.1 bt101.2.2.2.2.2.2.2.2.2.2.2.2.1 bt101.2.2.2.2.2.2.2.2.2.2.2.2.2.1 bt101.2.2.2.2.2.2.2.2.2.2.2.2.2.2.1 bt101.2.2.2.2.2.2.2.2.2.2.2.2.2.2.2.1 bt101.2.2.2.2.2.2.2.2.2.2.2.2.2.2.2.2.1 bt101.2.2.2.2.2.2.2.2.2.2.2.2.2.2.2.2.2).bind fun t119 => (some (t119.toList == ([97, 98, 117, 116, 109, 101, 110, 116, 32, 45, 32, 49, 32, 48, 32, 49, 32, 49, 32, 49, 48, 50, 52, 32, 52, 48, 57, 54, 32, 49, 48, 32, 48, 32, 56, 32, 56, 32, 48, 32, 56, 49, 57, 50, 32, 49, 48, 48, 32, 50, 53, 54, 32, 54, 53, 53, 51, 54, 32, 48] : List UInt8))))) = some r := h
  clear h
  replace H := Option.bind_eq_some_iff.mp H
  obtain ⟨⟨t101, t102, t103, t104, t105, t106, t107, t108, t109, t110, t111, t112, t113, t114, t115, t116, t117, t118⟩, A10, H⟩ := H
  replace H : ((config_Print.f t101 t102 t103 t104 t105 t106 t107 t108 t109 t110 t111 t112 t113 t114 t115 t116 t117 t118).bind fun t119 => (some (t119.toList == ([97, 98, 117, 116, 109, 101, 110, 116, 32, 45, 32, 49, 32, 48, 32, 49, 32, 49, 32, 49, 48, 50, 52, 32, 52, 48, 57, 54, 32, 49, 48, 32, 48, 32, 56, 32, 56, 32, 48, 32, 56, 49, 57, 50, 32, 49, 48, 48, 32, 50, 53, 54, 32, 54, 53, 53, 51, 54, 32, 48] : List UInt8)))) = some r := H
  have A1 := Aside0.mk A10
  clear A10
  replace H := Option.bind_eq_some_iff.mp H
  obtain ⟨t119, A20, H⟩ := H
  replace H : (some (t119.toList == ([97, 98, 117, 116, 109, 101, 110, 116, 32, 45, 32, 49, 32, 48, 32, 49, 32, 49, 32, 49, 48, 50, 52, 32, 52, 48, 57, 54, 32, 49, 48, 32, 48, 32, 56, 32, 56, 32, 48, 32, 56, 49, 57, 50, 32, 49, 48, 48, 32, 50, 53, 54, 32, 54, 53, 53, 51, 54, 32, 48] : List UInt8))) = some r := H
  have A2 := Aside0.mk A20
  clear A20
  obtain rfl := Option.some.inj H
  go_enter Try.func5, Try.ntmps5
  go_wp2_with (first | ((with_reducible refine gate_callee (f := 15) rfl ?_); refine goesL_ (some 1) rfl rfl Try.func15 (by kernel_rfl) rfl #[] rfl (by (try simp only [List.map_toArray, List.map_cons, List.map_nil]); first | done | rfl | (simp only [List.length_drop, List.length_take]; rfl)) ?_; (with_reducible refine (config_Usual.calls  t101 t102 t103 t104 t105 t106 t107 t108 t109 t110 t111 t112 t113 t114 t115 t116 t117 t118 _ A1.out).mono ?_); rintro e w3 ⟨rfl, hb⟩; refine ⟨_, rfl, ?_⟩; have n0_ := Aside0.mk (below_step (by repeat (first | (with_reducible first | exact HB.out | apply below_alloc | apply pw_below_drewN | apply below_drew1) | exact HB.out)) hb); clear HB; have HB := n0_; clear n0_; (try clear hb); (try clear hb2); (try clear hk); (try clear hi)) | ((with_reducible refine gate_callee (f := 8) rfl ?_); refine goesL_ (some 2) rfl rfl Try.func8 (by kernel_rfl) rfl #[.agg #[.string t101, .string t102, .int .i64 t103, .int .i64 t104, .int .i64 t105, .int .i64 t106, .int .i64 t107, .int .i64 t108, .int .i64 t109, .int .i64 t110, .int .i64 t111, .int .i64 t112, .int .i64 t113, .int .i64 t114, .int .i64 t115, .int .i64 t116, .int .i64 t117, .int .i64 t118]] rfl (by (try simp only [List.map_toArray, List.map_cons, List.map_nil]); first | done | rfl | (simp only [List.length_drop, List.length_take]; rfl)) ?_; (with_reducible refine (config_Print.calls t101 t102 t103 t104 t105 t106 t107 t108 t109 t110 t111 t112 t113 t114 t115 t116 t117 t118 t119 _ A2.out).mono ?_); rintro e w4 ⟨rfl, hb⟩; refine ⟨_, rfl, ?_⟩; have n0_ := Aside0.mk (below_step (by repeat (first | (with_reducible first | exact HB.out | apply below_alloc | apply pw_below_drewN | apply below_drew1) | exact HB.out)) hb); clear HB; have HB := n0_; clear n0_; (try clear hb); (try clear hb2); (try clear hk); (try clear hi)))
  go_ret
  exact ⟨by first | rfl | (simp [errW_none, errW_some] <;> rfl) | (simp [*, errW_none, errW_some] <;> rfl), by repeat (first | (with_reducible first | exact HB.out | apply below_alloc | apply pw_below_drewN | apply below_drew1) | exact HB.out)⟩

end Go.Proofs.Ytdjmgmiaognncaa.X
namespace Go.Proofs.Ytdjmgmiaognncaa.X
open Go.RowKit Go.Proofs.YtdjmgmiaognncaaW.PrintWords Go.Proofs.YtdjmgmiaognncaaW.PrintLast Go.Proofs.YtdjmgmiaognncaaW.PrintMore
attribute [local go_sem] max2_int min2_int max_two min_two max_three min_three max_four min_four   -- for this text's walks alone
set_option linter.unusedVariables false
set_option linter.unusedSimpArgs false

/-! ### abutmentref01_Tchar: function 46 -/
def rMarks : ByteArray := ⟨#[33, 35, 36, 37, 38, 39, 42, 43, 45, 46, 94, 95, 96, 124, 126]⟩
def rMarksL : List Int := [33, 35, 36, 37, 38, 39, 42, 43, 45, 46, 94, 95, 96, 124, 126]
def tcharI (a : Int) : Bool := (decide (48 ≤ a) && decide (a ≤ 57)) || (decide (65 ≤ a) && decide (a ≤ 90)) || (decide (97 ≤ a) && decide (a ≤ 122)) || rMarksL.contains a
theorem rMarks_at (pos : Nat) (h : pos < 15) : ∀ h2 : pos < rMarks.size, ((rMarks[pos]'h2).toNat : Int) = rMarksL.getD pos 0 := by
  have h3 : ∀ p : Fin 15, ((rMarks.data.getD p.val 0).toNat : Int) = rMarksL.getD p.val 0 := by decide
  have h4 := h3 ⟨pos, h⟩
  intro h2
  rw [← h4]
  have : rMarks.data.getD pos 0 = rMarks[pos]'h2 := by
    simp only [Array.getD_eq_getD_getElem?]
    rw [Array.getElem?_eq_getElem (by exact h2)]
    rfl
  simp only [this]
theorem rMarksL_drop (pos : Nat) (h : pos < 15) : rMarksL.drop pos = rMarksL.getD pos 0 :: rMarksL.drop (pos + 1) := by
  have h2 : ∀ p : Fin 15, rMarksL.drop p.val = rMarksL.getD p.val 0 :: rMarksL.drop (p.val + 1) := by decide
  exact h2 ⟨pos, h⟩
def abutmentref01_Tchar.f (a0 : Int) : Option (Bool) := some (tcharI a0)
set_option maxHeartbeats 2000000 in
set_option maxRecDepth 1000000 in
theorem abutmentref01_Tchar.calls (a0 : Int) (r : Bool) (w : World) (h : abutmentref01_Tchar.f a0 = some r) :
    Calls Try.prog 46 #[.int .u8 a0] w fun e w' => e = .returned (.bool r) ∧ Drawn0 w w' := by
  obtain rfl := Option.some.inj h
  clear h
  by_cases ha : (97 ≤ a0 ∧ a0 ≤ 122) ∨ (65 ≤ a0 ∧ a0 ≤ 90) ∨ (48 ≤ a0 ∧ a0 ≤ 57)
  · have hR : tcharI a0 = true := by
      unfold tcharI
      rcases ha with h | h | h <;> simp [h.1, h.2]
    have HR := Aside0.mk hR
    clear hR
    rcases ha with ⟨h1, h2⟩ | ⟨h1, h2⟩ | ⟨h1, h2⟩
    all_goals
      go_enter Try.func46, Try.ntmps46
      go_wp2
      go_ret
      exact ⟨by rw [HR.out]; rfl, Drawn0.refl _⟩
  · have hR : tcharI a0 = (rMarksL.drop 0).contains a0 := by
      unfold tcharI
      have e1 : (decide (97 ≤ a0) && decide (a0 ≤ 122)) = false := by
        rw [Bool.eq_false_iff]; simp; omega
      have e2 : (decide (65 ≤ a0) && decide (a0 ≤ 90)) = false := by
        rw [Bool.eq_false_iff]; simp; omega
      have e3 : (decide (48 ≤ a0) && decide (a0 ≤ 57)) = false := by
        rw [Bool.eq_false_iff]; simp; omega
      rw [e1, e2, e3]; rfl
    have HR := Aside0.mk hR
    clear hR
    have hc : a0 < 48 ∨ (57 < a0 ∧ a0 < 65) ∨ (90 < a0 ∧ a0 < 97) ∨ 122 < a0 := by omega
    clear ha
    rcases hc with h1 | ⟨h1, h2⟩ | ⟨h1, h2⟩ | h1
    all_goals
      go_enter Try.func46, Try.ntmps46
      go_wp2
      rw [show (⟨#[33, 35, 36, 37, 38, 39, 42, 43, 45, 46, 94, 95, 96, 124, 126]⟩ : ByteArray) = rMarks from rfl]
      go_loop [4] (fun i => ∃ pos : Nat, pos ≤ 15 ∧ i = .int .i64 pos ∧ Aside0 ((rMarksL.drop pos).contains a0 = tcharI a0)) (fun i => 15 - (intOf i).toNat)
      case atStart => exact ⟨0, by omega, rfl, ⟨HR.out.symm⟩⟩
      case round =>
        obtain ⟨pos, hp, rfl, HL⟩ := hrel
        by_cases hlt : pos < 15
        · have hlt2 : (pos : Int) < 15 := by omega
          have hx := rMarks_at pos hlt
          have HL' : Aside0 ((rMarksL.getD pos 0 :: rMarksL.drop (pos + 1)).contains a0 = tcharI a0) := ⟨by rw [← rMarksL_drop pos hlt]; exact HL.out⟩
          clear HL
          obtain ⟨R, hRe⟩ : ∃ R, rMarksL.getD pos 0 = R := ⟨_, rfl⟩
          rw [hRe] at hx HL'
          clear hRe
          by_cases he : R = a0
          · have hb : (R == a0) = true := beq_iff_eq.2 he
            have HF : Aside0 (tcharI a0 = true) := ⟨by rw [← HL'.out, he]; simp⟩
            clear he HL'
            go_wp2
            go_ret
            exact ⟨by rw [HF.out]; rfl, Drawn0.refl _⟩
          · have hb : (R == a0) = false := beq_eq_false_iff_ne.2 he
            have HF : Aside0 ((rMarksL.drop (pos + 1)).contains a0 = tcharI a0) := ⟨by
              rw [← HL'.out, List.contains_cons]
              have : (a0 == R) = false := beq_eq_false_iff_ne.2 (fun h => he h.symm)
              rw [this, Bool.false_or]⟩
            clear he HL'
            go_wp2
            go_round
            case rel => exact ⟨pos + 1, by omega, by go_num, HF⟩
            case measure => simp [intOf]; omega
        · obtain rfl : pos = 15 := by omega
          have HF : Aside0 (tcharI a0 = false) := ⟨by rw [← HL.out]; rfl⟩
          clear HL
          go_wp2
          go_ret
          exact ⟨by rw [HF.out]; rfl, Drawn0.refl _⟩


end Go.Proofs.Ytdjmgmiaognncaa.X
namespace Go.Proofs.Ytdjmgmiaognncaa.X
open Go.RowKit Go.Proofs.YtdjmgmiaognncaaW.PrintWords Go.Proofs.YtdjmgmiaognncaaW.PrintLast Go.Proofs.YtdjmgmiaognncaaW.PrintMore
attribute [local go_sem] max2_int min2_int max_two min_two max_three min_three max_four min_four   -- for this text's walks alone
set_option linter.unusedVariables false
set_option linter.unusedSimpArgs false

/-! ### abutmentref01_Token: function 19 -/
def abutmentref01_Token.l0 : Nat → ByteArray → Int → Option (Bool)
  | 0, _, _ => none
  | k + 1, x0, x3 => if x3 < (x0.size : Int) then (if 0 ≤ x3 then ((abutmentref01_Tchar.f (bt x0 x3)).bind fun t101 => (if t101 = true then (abutmentref01_Token.l0 k x0 (wrap64 (x3 + 1))) else (some false))) else (none)) else (some (decide ((x0.size : Int) > 0)))
def abutmentref01_Token.f (k : Nat) (a0 : ByteArray) : Option (Bool) := abutmentref01_Token.l0 k a0 0
theorem abutmentref01_Token.mono_l : ∀ k, (∀ y0 y1, LeO (abutmentref01_Token.l0 k y0 y1) (abutmentref01_Token.l0 (k + 1) y0 y1))
  | 0 => fun _ _ r h => by simp [abutmentref01_Token.l0] at h
  | k + 1 => by
    have ih0 := abutmentref01_Token.mono_l k
    · intro y0 y1
      unfold abutmentref01_Token.l0
      repeat' first
      | (with_reducible exact ih0 _ _)
      | (with_reducible exact LeO.refl _)
      | (with_reducible exact LeO.none _)
      | (with_reducible refine LeO.ite ?_ ?_)
      | (with_reducible refine LeO.bind ?_ (fun _ => ?_))
      | exact ih0 _ _
      | exact LeO.none _
      | refine LeO.ite ?_ ?_
      | refine LeO.bind ?_ (fun _ => ?_)
theorem abutmentref01_Token.mono : ∀ a0 k, LeO (abutmentref01_Token.f k a0) (abutmentref01_Token.f (k + 1) a0) := by
  intro a0 k
  have ih0 := abutmentref01_Token.mono_l k
  unfold abutmentref01_Token.f
  repeat' first
      | (with_reducible exact ih0 _ _)
      | (with_reducible exact LeO.refl _)
      | (with_reducible exact LeO.none _)
      | (with_reducible refine LeO.ite ?_ ?_)
      | (with_reducible refine LeO.bind ?_ (fun _ => ?_))
      | exact ih0 _ _
      | exact LeO.none _
      | refine LeO.ite ?_ ?_
      | refine LeO.bind ?_ (fun _ => ?_)
set_option maxHeartbeats 8000000 in
set_option maxRecDepth 100000 in
theorem abutmentref01_Token.calls (k : Nat) (a0 : ByteArray) (r : Bool) (w : World) (h : abutmentref01_Token.f k a0 = some r) :
    Calls Try.prog 19 #[.string a0] w fun e w' => e = .returned (.bool r) ∧ Drawn0 w w' := by
  have H : (abutmentref01_Token.l0 k a0 0) = some r := h
  clear h
  have H' := Aside0.mk H
  clear H
  go_enter Try.func19, Try.ntmps19
  go_wp2
  go_loopg [3] k (fun kq v3 w' => ∃ (x3_1 : Int), v3 = .int .i64 x3_1 ∧ Aside0 (abutmentref01_Token.l0 kq a0 x3_1 = some r) ∧ Aside0 (kq ≤ k) ∧ Drawn0 w w')
  case atStart => exact ⟨(0), (by first | rfl | (simp; done) | (simp [*]; done)), H', ⟨Nat.le_refl _⟩, by repeat (first | exact Drawn0.refl _ | apply Drawn0.step)⟩
  case round =>
    clear H'
    try clear c1
    obtain ⟨x3_1, rfl, HA, HK1, ⟨m1, rfl⟩⟩ := hrel
    cases gk with
    | zero => exact absurd HA.out (by simp [abutmentref01_Token.l0])
    | succ k1 =>
      have H := HA.out
      clear HA
      simp only [abutmentref01_Token.l0] at H
      by_cases c2 : x3_1 < (a0.size : Int)
      · rw [if_pos c2] at H
        have c2b0 : decide (x3_1 < (a0.size : Int)) = true := decide_eq_true c2
        clear c2
        by_cases c3 : 0 ≤ x3_1
        · rw [if_pos c3] at H
          have c3b0 : decide (0 ≤ x3_1) = true := decide_eq_true c3
          clear c3
          replace H := Option.bind_eq_some_iff.mp H
          obtain ⟨t101, A50, H⟩ := H
          replace H : (if t101 = true then (abutmentref01_Token.l0 k1 a0 (wrap64 (x3_1 + 1))) else (some false)) = some r := H
          have A5 := Aside0.mk A50
          clear A50
          by_cases c6 : t101 = true
          · subst c6
            have H1 : (abutmentref01_Token.l0 k1 a0 (wrap64 (x3_1 + 1))) = some r := by rw [if_pos rfl] at H; exact H
            clear H
            have H := H1
            clear H1
            have H' := Aside0.mk H
            clear H
            have p4 : 0 ≤ (x3_1 : Int) := of_decide_eq_true (by first | (with_reducible assumption) | assumption)
            have q4 : x3_1 < (a0.size : Int) := of_decide_eq_true (by first | (with_reducible assumption) | assumption)
            have hx4 := bt_at a0 x3_1
            replace p4 := eq_true p4
            replace q4 := eq_true q4
            go_wp2_with (first | ((with_reducible refine gate_callee (f := 46) rfl ?_); refine goesL_ (some 13) rfl rfl Try.func46 (by kernel_rfl) rfl #[.int .u8 (bt a0 x3_1)] rfl (by (try simp only [List.map_toArray, List.map_cons, List.map_nil]); first | done | rfl | (simp only [List.length_drop, List.length_take]; rfl)) ?_; (with_reducible refine (abutmentref01_Tchar.calls (bt a0 x3_1) true _ A5.out).mono ?_); rintro e w' ⟨rfl, ⟨nd, rfl⟩⟩; refine ⟨_, rfl, ?_⟩))
            go_roundg k1
            case measure => have := HK1.out; omega
            case rel => exact ⟨(wrap64 (x3_1 + 1)), (by first | rfl | (simp; done) | (simp [*]; done)), H', ⟨by have := HK1.out; omega⟩, by repeat (first | exact Drawn0.refl _ | apply Drawn0.step)⟩
          · replace c6 := Bool.eq_false_iff.mpr c6
            subst c6
            have H1 : (some false) = some r := by rw [if_neg (show ¬ (false = true) by decide)] at H; exact H
            clear H
            have H := H1
            clear H1
            obtain rfl := Option.some.inj H
            have p4 : 0 ≤ (x3_1 : Int) := of_decide_eq_true (by first | (with_reducible assumption) | assumption)
            have q4 : x3_1 < (a0.size : Int) := of_decide_eq_true (by first | (with_reducible assumption) | assumption)
            have hx4 := bt_at a0 x3_1
            replace p4 := eq_true p4
            replace q4 := eq_true q4
            go_wp2_with (first | ((with_reducible refine gate_callee (f := 46) rfl ?_); refine goesL_ (some 13) rfl rfl Try.func46 (by kernel_rfl) rfl #[.int .u8 (bt a0 x3_1)] rfl (by (try simp only [List.map_toArray, List.map_cons, List.map_nil]); first | done | rfl | (simp only [List.length_drop, List.length_take]; rfl)) ?_; (with_reducible refine (abutmentref01_Tchar.calls (bt a0 x3_1) false _ A5.out).mono ?_); rintro e w' ⟨rfl, ⟨nd, rfl⟩⟩; refine ⟨_, rfl, ?_⟩))
            go_ret
            exact ⟨by first | rfl | (simp; done) | (simp [*]; done), by repeat (first | exact Drawn0.refl _ | apply Drawn0.step)⟩
        · rw [if_neg c3] at H
          exact absurd H (by simp)
      · rw [if_neg c2] at H
        have c2b0 : decide (x3_1 < (a0.size : Int)) = false := decide_eq_false c2
        clear c2
        obtain rfl := Option.some.inj H
        go_wp2
        go_ret
        exact ⟨by first | rfl | (simp; done) | (simp [*]; done), by repeat (first | exact Drawn0.refl _ | apply Drawn0.step)⟩

end Go.Proofs.Ytdjmgmiaognncaa.X
namespace Go.Proofs.Ytdjmgmiaognncaa.X
open Go.RowKit Go.Proofs.YtdjmgmiaognncaaW.PrintWords Go.Proofs.YtdjmgmiaognncaaW.PrintLast Go.Proofs.YtdjmgmiaognncaaW.PrintMore
attribute [local go_sem] max2_int min2_int max_two min_two max_three min_three max_four min_four   -- for this text's walks alone
set_option linter.unusedVariables false
set_option linter.unusedSimpArgs false

/-! ### abutmentref02_Value: function 87 -/
mutual
def abutmentref02_Value.j0 : Nat → Int → Bool → Option (Int)
  | 0, _, _ => none
  | k + 1, x0, x8 => if x8 = true then (some (wrap64 ((wrap64 (x0)) - 48))) else (if x0 ≥ 65 then (abutmentref02_Value.j1 k x0 (decide (x0 ≤ 70))) else (abutmentref02_Value.j1 k x0 false))
def abutmentref02_Value.j1 : Nat → Int → Bool → Option (Int)
  | 0, _, _ => none
  | k + 1, x0, x17 => if x17 = true then (some (wrap64 ((wrap64 (x0)) - 55))) else (if x0 ≥ 97 then (if x0 ≤ 102 then (some (wrap64 ((wrap64 (x0)) - 87))) else (some 99)) else (some 99))
end
def abutmentref02_Value.f (k : Nat) (a0 : Int) : Option (Int) := if a0 ≥ 48 then (abutmentref02_Value.j0 k a0 (decide (a0 ≤ 57))) else (abutmentref02_Value.j0 k a0 false)
theorem abutmentref02_Value.mono_l : ∀ k, (∀ y0 y1, LeO (abutmentref02_Value.j0 k y0 y1) (abutmentref02_Value.j0 (k + 1) y0 y1)) ∧ (∀ y0 y1, LeO (abutmentref02_Value.j1 k y0 y1) (abutmentref02_Value.j1 (k + 1) y0 y1))
  | 0 => ⟨fun _ _ r h => by simp [abutmentref02_Value.j0] at h, fun _ _ r h => by simp [abutmentref02_Value.j1] at h⟩
  | k + 1 => by
    obtain ⟨ih0, ih1⟩ := abutmentref02_Value.mono_l k
    refine ⟨?_, ?_⟩
    · intro y0 y1
      unfold abutmentref02_Value.j0
      repeat' first
      | (with_reducible exact ih0 _ _)
      | (with_reducible exact ih1 _ _)
      | (with_reducible exact LeO.refl _)
      | (with_reducible exact LeO.none _)
      | (with_reducible refine LeO.ite ?_ ?_)
      | (with_reducible refine LeO.bind ?_ (fun _ => ?_))
      | exact ih0 _ _
      | exact ih1 _ _
      | exact LeO.none _
      | refine LeO.ite ?_ ?_
      | refine LeO.bind ?_ (fun _ => ?_)
    · intro y0 y1
      unfold abutmentref02_Value.j1
      repeat' first
      | (with_reducible exact ih0 _ _)
      | (with_reducible exact ih1 _ _)
      | (with_reducible exact LeO.refl _)
      | (with_reducible exact LeO.none _)
      | (with_reducible refine LeO.ite ?_ ?_)
      | (with_reducible refine LeO.bind ?_ (fun _ => ?_))
      | exact ih0 _ _
      | exact ih1 _ _
      | exact LeO.none _
      | refine LeO.ite ?_ ?_
      | refine LeO.bind ?_ (fun _ => ?_)
theorem abutmentref02_Value.mono : ∀ a0 k, LeO (abutmentref02_Value.f k a0) (abutmentref02_Value.f (k + 1) a0) := by
  intro a0 k
  obtain ⟨ih0, ih1⟩ := abutmentref02_Value.mono_l k
  unfold abutmentref02_Value.f
  repeat' first
      | (with_reducible exact ih0 _ _)
      | (with_reducible exact ih1 _ _)
      | (with_reducible exact LeO.refl _)
      | (with_reducible exact LeO.none _)
      | (with_reducible refine LeO.ite ?_ ?_)
      | (with_reducible refine LeO.bind ?_ (fun _ => ?_))
      | exact ih0 _ _
      | exact ih1 _ _
      | exact LeO.none _
      | refine LeO.ite ?_ ?_
      | refine LeO.bind ?_ (fun _ => ?_)
set_option maxHeartbeats 8000000 in
set_option maxRecDepth 100000 in
theorem abutmentref02_Value.calls (k : Nat) (a0 : Int) (r : Int) (w : World) (h : abutmentref02_Value.f k a0 = some r) :
    Calls Try.prog 87 #[.int .u8 a0] w fun e w' => e = .returned (.int .i64 r) ∧ Drawn0 w w' := by
  have H : (if a0 ≥ 48 then (abutmentref02_Value.j0 k a0 (decide (a0 ≤ 57))) else (abutmentref02_Value.j0 k a0 false)) = some r := h
  clear h
  have HC2 := Aside0.mk H
  clear H
  go_enter Try.func87, Try.ntmps87
  go_upto_region 1 with (fail)
  go_cut [8] (fun v8 wc => ∃ (kq : Nat) (x8_1 : Bool), v8 = .bool x8_1 ∧ Aside0 (abutmentref02_Value.j0 kq a0 x8_1 = some r) ∧ Aside0 (kq ≤ k) ∧ Drawn0 w wc)
  case first =>
    have H := HC2.out
    clear HC2
    by_cases c3 : a0 ≥ 48
    · rw [if_pos c3] at H
      have c3b0 : decide (48 ≤ a0) = true := decide_eq_true c3
      clear c3
      (first | rw [c3b0] | (simp only [i64_w, i32_w]; rw [c3b0]) | skip)
      have H' := Aside0.mk H
      clear H
      go_wp2
      go_meet
      case rel => exact ⟨_, (decide (a0 ≤ 57)), (by first | rfl | (simp; done) | (simp [*]; done)), H', ⟨by first | omega | exact Nat.le_refl _⟩, by repeat (first | exact Drawn0.refl _ | apply Drawn0.step)⟩
    · rw [if_neg c3] at H
      have c3b0 : decide (48 ≤ a0) = false := decide_eq_false c3
      clear c3
      (first | rw [c3b0] | (simp only [i64_w, i32_w]; rw [c3b0]) | skip)
      have H' := Aside0.mk H
      clear H
      go_wp2
      go_meet
      case rel => exact ⟨_, (false), (by first | rfl | (simp; done) | (simp [*]; done)), H', ⟨by first | omega | exact Nat.le_refl _⟩, by repeat (first | exact Drawn0.refl _ | apply Drawn0.step)⟩
  case rest =>
    clear HC2
    try clear p2
    try clear c3
    try clear c3b0
    obtain ⟨kq, x8_1, rfl, HA, HJ1, ⟨mc1, rfl⟩⟩ := hcut
    cases kq with
    | zero => exact absurd HA.out (by simp [abutmentref02_Value.j0])
    | succ kj1 =>
      have H := HA.out
      clear HA
      simp only [abutmentref02_Value.j0] at H
      by_cases c4 : x8_1 = true
      · subst c4
        have H1 : (some (wrap64 ((wrap64 (a0)) - 48))) = some r := by rw [if_pos rfl] at H; exact H
        clear H
        have H := H1
        clear H1
        obtain rfl := Option.some.inj H
        go_wp2
        go_ret
        exact ⟨by first | rfl | (simp; done) | (simp [*]; done), by repeat (first | exact Drawn0.refl _ | apply Drawn0.step)⟩
      · replace c4 := Bool.eq_false_iff.mpr c4
        subst c4
        have H1 : (if a0 ≥ 65 then (abutmentref02_Value.j1 kj1 a0 (decide (a0 ≤ 70))) else (abutmentref02_Value.j1 kj1 a0 false)) = some r := by rw [if_neg (show ¬ (false = true) by decide)] at H; exact H
        clear H
        have H := H1
        clear H1
        have HC5 := Aside0.mk H
        clear H
        go_upto_region 3 with (fail)
        go_cut [17] (fun v17 wc => ∃ (kq : Nat) (x17_4 : Bool), v17 = .bool x17_4 ∧ Aside0 (abutmentref02_Value.j1 kq a0 x17_4 = some r) ∧ Aside0 (kq ≤ kj1) ∧ Drawn0 w wc)
        case first =>
          have H := HC5.out
          clear HC5
          by_cases c6 : a0 ≥ 65
          · rw [if_pos c6] at H
            have c6b0 : decide (65 ≤ a0) = true := decide_eq_true c6
            clear c6
            (first | rw [c6b0] | (simp only [i64_w, i32_w]; rw [c6b0]) | skip)
            have H' := Aside0.mk H
            clear H
            go_wp2
            go_meet
            case rel => exact ⟨_, (decide (a0 ≤ 70)), (by first | rfl | (simp; done) | (simp [*]; done)), H', ⟨by have := HJ1.out; first | omega | exact Nat.le_refl _⟩, by repeat (first | exact Drawn0.refl _ | apply Drawn0.step)⟩
          · rw [if_neg c6] at H
            have c6b0 : decide (65 ≤ a0) = false := decide_eq_false c6
            clear c6
            (first | rw [c6b0] | (simp only [i64_w, i32_w]; rw [c6b0]) | skip)
            have H' := Aside0.mk H
            clear H
            go_wp2
            go_meet
            case rel => exact ⟨_, (false), (by first | rfl | (simp; done) | (simp [*]; done)), H', ⟨by have := HJ1.out; first | omega | exact Nat.le_refl _⟩, by repeat (first | exact Drawn0.refl _ | apply Drawn0.step)⟩
        case rest =>
          clear HC5
          try clear c1
          try clear p2
          try clear c3
          try clear c3b0
          try clear c4
          try clear c6
          try clear c6b0
          try clear p6
          try clear p2
          obtain ⟨kq, x17_4, rfl, HA, HJ4, ⟨mc4, rfl⟩⟩ := hcut
          cases kq with
          | zero => exact absurd HA.out (by simp [abutmentref02_Value.j1])
          | succ kj4 =>
            have H := HA.out
            clear HA
            simp only [abutmentref02_Value.j1] at H
            by_cases c7 : x17_4 = true
            · subst c7
              have H1 : (some (wrap64 ((wrap64 (a0)) - 55))) = some r := by rw [if_pos rfl] at H; exact H
              clear H
              have H := H1
              clear H1
              obtain rfl := Option.some.inj H
              go_wp2
              go_ret
              exact ⟨by first | rfl | (simp; done) | (simp [*]; done), by repeat (first | exact Drawn0.refl _ | apply Drawn0.step)⟩
            · replace c7 := Bool.eq_false_iff.mpr c7
              subst c7
              have H1 : (if a0 ≥ 97 then (if a0 ≤ 102 then (some (wrap64 ((wrap64 (a0)) - 87))) else (some 99)) else (some 99)) = some r := by rw [if_neg (show ¬ (false = true) by decide)] at H; exact H
              clear H
              have H := H1
              clear H1
              by_cases c8 : a0 ≥ 97
              · rw [if_pos c8] at H
                have c8b0 : decide (97 ≤ a0) = true := decide_eq_true c8
                clear c8
                by_cases c9 : a0 ≤ 102
                · rw [if_pos c9] at H
                  have c9b0 : decide (a0 ≤ 102) = true := decide_eq_true c9
                  clear c9
                  obtain rfl := Option.some.inj H
                  go_wp2
                  go_ret
                  exact ⟨by first | rfl | (simp; done) | (simp [*]; done), by repeat (first | exact Drawn0.refl _ | apply Drawn0.step)⟩
                · rw [if_neg c9] at H
                  have c9b0 : decide (a0 ≤ 102) = false := decide_eq_false c9
                  clear c9
                  obtain rfl := Option.some.inj H
                  go_wp2
                  go_ret
                  exact ⟨by first | rfl | (simp; done) | (simp [*]; done), by repeat (first | exact Drawn0.refl _ | apply Drawn0.step)⟩
              · rw [if_neg c8] at H
                have c8b0 : decide (97 ≤ a0) = false := decide_eq_false c8
                clear c8
                obtain rfl := Option.some.inj H
                go_wp2
                go_ret
                exact ⟨by first | rfl | (simp; done) | (simp [*]; done), by repeat (first | exact Drawn0.refl _ | apply Drawn0.step)⟩

end Go.Proofs.Ytdjmgmiaognncaa.X
namespace Go.Proofs.Ytdjmgmiaognncaa.X
open Go.RowKit Go.Proofs.YtdjmgmiaognncaaW.PrintWords Go.Proofs.YtdjmgmiaognncaaW.PrintLast Go.Proofs.YtdjmgmiaognncaaW.PrintMore
attribute [local go_sem] max2_int min2_int max_two min_two max_three min_three max_four min_four   -- for this text's walks alone
set_option linter.unusedVariables false
set_option linter.unusedSimpArgs false

/-! ### abutmentref11_hex: function 86 -/
def abutmentref11_hex.f (k : Nat) (a0 : Int) : Option (Bool) := (abutmentref02_Value.f k a0).bind fun t101 => (some (decide (t101 < 16)))
theorem abutmentref11_hex.mono : ∀ a0 k, LeO (abutmentref11_hex.f k a0) (abutmentref11_hex.f (k + 1) a0) := by
  intro a0 k
  unfold abutmentref11_hex.f
  repeat' first
      | (with_reducible exact abutmentref02_Value.mono _ _)
      | (with_reducible exact LeO.refl _)
      | (with_reducible exact LeO.none _)
      | (with_reducible refine LeO.ite ?_ ?_)
      | (with_reducible refine LeO.bind ?_ (fun _ => ?_))
      | exact abutmentref02_Value.mono _ _
      | exact LeO.none _
      | refine LeO.ite ?_ ?_
      | refine LeO.bind ?_ (fun _ => ?_)
set_option maxHeartbeats 8000000 in
set_option maxRecDepth 100000 in
theorem abutmentref11_hex.calls (k : Nat) (a0 : Int) (r : Bool) (w : World) (h : abutmentref11_hex.f k a0 = some r) :
    Calls Try.prog 86 #[.int .u8 a0] w fun e w' => e = .returned (.bool r) ∧ Drawn0 w w' := by
  have H : ((abutmentref02_Value.f k a0).bind fun t101 => (some (decide (t101 < 16)))) = some r := h
  clear h
  replace H := Option.bind_eq_some_iff.mp H
  obtain ⟨t101, A20, H⟩ := H
  replace H : (some (decide (t101 < 16))) = some r := H
  have A2 := Aside0.mk A20
  clear A20
  obtain rfl := Option.some.inj H
  go_enter Try.func86, Try.ntmps86
  go_wp2_with (first | ((with_reducible refine gate_callee (f := 87) rfl ?_); refine goesL_ (some 4) rfl rfl Try.func87 (by kernel_rfl) rfl #[.int .u8 a0] rfl (by (try simp only [List.map_toArray, List.map_cons, List.map_nil]); first | done | rfl | (simp only [List.length_drop, List.length_take]; rfl)) ?_; (with_reducible refine (abutmentref02_Value.calls k a0 t101 _ A2.out).mono ?_); rintro e w' ⟨rfl, ⟨nd, rfl⟩⟩; refine ⟨_, rfl, ?_⟩))
  go_ret
  exact ⟨by first | rfl | (simp; done) | (simp [*]; done), by repeat (first | exact Drawn0.refl _ | apply Drawn0.step)⟩

end Go.Proofs.Ytdjmgmiaognncaa.X
namespace Go.Proofs.Ytdjmgmiaognncaa.X
open Go.RowKit Go.Proofs.YtdjmgmiaognncaaW.PrintWords Go.Proofs.YtdjmgmiaognncaaW.PrintLast Go.Proofs.YtdjmgmiaognncaaW.PrintMore
attribute [local go_sem] max2_int min2_int max_two min_two max_three min_three max_four min_four   -- for this text's walks alone
set_option linter.unusedVariables false
set_option linter.unusedSimpArgs false

/-! ### abutmentref11_Name: function 64 -/
mutual
def abutmentref11_Name.j0 : Nat → ByteArray → Int → Bool → Option (Int)
  | 0, _, _, _ => none
  | k + 1, x0, x3, x15 => if x15 = true then (abutmentref11_Name.l0 k x0 1) else (abutmentref11_Name.l1 k x0 x3)
def abutmentref11_Name.l0 : Nat → ByteArray → Int → Option (Int)
  | 0, _, _ => none
  | k + 1, x0, x3 => if x3 < (x0.size : Int) then (if 0 ≤ x3 then ((abutmentref11_hex.f k (bt x0 x3)).bind fun t101 => (if t101 = true then (abutmentref11_Name.l0 k x0 (wrap64 (x3 + 1))) else (if (bt x0 x3) = 58 then (abutmentref11_Name.l0 k x0 (wrap64 (x3 + 1))) else (if (bt x0 x3) = 46 then (abutmentref11_Name.l0 k x0 (wrap64 (x3 + 1))) else (if x3 = 1 then (some 0) else (if x3 = (x0.size : Int) then (some 0) else (if (bt x0 x3) = 93 then (some (wrap64 (x3 + 1))) else (some 0)))))))) else (none)) else (if x3 = 1 then (some 0) else (if x3 = (x0.size : Int) then (some 0) else (if 0 ≤ x3 then (none) else (none))))
def abutmentref11_Name.l1 : Nat → ByteArray → Int → Option (Int)
  | 0, _, _ => none
  | k + 1, x0, x3 => if x3 < (x0.size : Int) then (if 0 ≤ x3 then (if (bt x0 x3) = 37 then (if (wrap64 (x3 + 2)) ≥ (x0.size : Int) then (some 0) else (if 0 ≤ (wrap64 (x3 + 1)) then (if (wrap64 (x3 + 1)) < (x0.size : Int) then ((abutmentref11_hex.f k (bt x0 (wrap64 (x3 + 1)))).bind fun t102 => (if t102 = true then (if 0 ≤ (wrap64 (x3 + 2)) then (if (wrap64 (x3 + 2)) < (x0.size : Int) then ((abutmentref11_hex.f k (bt x0 (wrap64 (x3 + 2)))).bind fun t103 => (if t103 = true then (abutmentref11_Name.l1 k x0 (wrap64 (x3 + 3))) else (some 0))) else (none)) else (none)) else (some 0))) else (none)) else (none))) else (if (bt x0 x3) ≥ 48 then (if (bt x0 x3) ≤ 57 then (abutmentref11_Name.j3 k x0 x3 (bt x0 x3) true) else (if (bt x0 x3) ≥ 65 then (if (bt x0 x3) ≤ 90 then (abutmentref11_Name.j3 k x0 x3 (bt x0 x3) true) else (if (bt x0 x3) ≥ 97 then (abutmentref11_Name.j3 k x0 x3 (bt x0 x3) (decide ((bt x0 x3) ≤ 122))) else (abutmentref11_Name.j3 k x0 x3 (bt x0 x3) false))) else (if (bt x0 x3) ≥ 97 then (abutmentref11_Name.j3 k x0 x3 (bt x0 x3) (decide ((bt x0 x3) ≤ 122))) else (abutmentref11_Name.j3 k x0 x3 (bt x0 x3) false)))) else (if (bt x0 x3) ≥ 65 then (if (bt x0 x3) ≤ 90 then (abutmentref11_Name.j3 k x0 x3 (bt x0 x3) true) else (if (bt x0 x3) ≥ 97 then (abutmentref11_Name.j3 k x0 x3 (bt x0 x3) (decide ((bt x0 x3) ≤ 122))) else (abutmentref11_Name.j3 k x0 x3 (bt x0 x3) false))) else (if (bt x0 x3) ≥ 97 then (abutmentref11_Name.j3 k x0 x3 (bt x0 x3) (decide ((bt x0 x3) ≤ 122))) else (abutmentref11_Name.j3 k x0 x3 (bt x0 x3) false))))) else (none)) else (some x3)
def abutmentref11_Name.j3 : Nat → ByteArray → Int → Int → Bool → Option (Int)
  | 0, _, _, _, _ => none
  | k + 1, x0, x3, x4, x5 => abutmentref11_Name.l2 k x0 x3 x4 x5 (⟨#[45, 46, 95, 126, 33, 36, 38, 39, 40, 41, 42, 43, 44, 59, 61]⟩ : ByteArray) 0
def abutmentref11_Name.l2 : Nat → ByteArray → Int → Int → Bool → ByteArray → Int → Option (Int)
  | 0, _, _, _, _, _, _ => none
  | k + 1, x0, x3, x4, x5, x6, x7 => if x7 < (x6.size : Int) then (if x5 = true then (abutmentref11_Name.l2 k x0 x3 x4 true x6 (wrap64 (x7 + 1))) else (if 0 ≤ x7 then (abutmentref11_Name.l2 k x0 x3 x4 ((bt x6 x7) == x4) x6 (wrap64 (x7 + 1))) else (none))) else (if x5 = true then (abutmentref11_Name.l1 k x0 (wrap64 (x3 + 1))) else (some x3))
end
def abutmentref11_Name.f (k : Nat) (a0 : ByteArray) : Option (Int) := if (a0.size : Int) > 0 then (if 0 < (a0.size : Int) then (abutmentref11_Name.j0 k a0 0 ((bt a0 0) == 91)) else (none)) else (abutmentref11_Name.j0 k a0 0 false)
theorem abutmentref11_Name.mono_l : ∀ k, (∀ y0 y1 y2, LeO (abutmentref11_Name.j0 k y0 y1 y2) (abutmentref11_Name.j0 (k + 1) y0 y1 y2)) ∧ (∀ y0 y1, LeO (abutmentref11_Name.l0 k y0 y1) (abutmentref11_Name.l0 (k + 1) y0 y1)) ∧ (∀ y0 y1, LeO (abutmentref11_Name.l1 k y0 y1) (abutmentref11_Name.l1 (k + 1) y0 y1)) ∧ (∀ y0 y1 y2 y3, LeO (abutmentref11_Name.j3 k y0 y1 y2 y3) (abutmentref11_Name.j3 (k + 1) y0 y1 y2 y3)) ∧ (∀ y0 y1 y2 y3 y4 y5, LeO (abutmentref11_Name.l2 k y0 y1 y2 y3 y4 y5) (abutmentref11_Name.l2 (k + 1) y0 y1 y2 y3 y4 y5))
  | 0 => ⟨fun _ _ _ r h => by simp [abutmentref11_Name.j0] at h, fun _ _ r h => by simp [abutmentref11_Name.l0] at h, fun _ _ r h => by simp [abutmentref11_Name.l1] at h, fun _ _ _ _ r h => by simp [abutmentref11_Name.j3] at h, fun _ _ _ _ _ _ r h => by simp [abutmentref11_Name.l2] at h⟩
  | k + 1 => by
    obtain ⟨ih0, ih1, ih2, ih3, ih4⟩ := abutmentref11_Name.mono_l k
    refine ⟨?_, ?_, ?_, ?_, ?_⟩
    · intro y0 y1 y2
      unfold abutmentref11_Name.j0
      repeat' first
      | (with_reducible exact ih0 _ _ _)
      | (with_reducible exact ih1 _ _)
      | (with_reducible exact ih2 _ _)
      | (with_reducible exact ih3 _ _ _ _)
      | (with_reducible exact ih4 _ _ _ _ _ _)
      | (with_reducible exact abutmentref11_hex.mono _ _)
      | (with_reducible exact LeO.refl _)
      | (with_reducible exact LeO.none _)
      | (with_reducible refine LeO.ite ?_ ?_)
      | (with_reducible refine LeO.bind ?_ (fun _ => ?_))
      | exact ih0 _ _ _
      | exact ih1 _ _
      | exact ih2 _ _
      | exact ih3 _ _ _ _
      | exact ih4 _ _ _ _ _ _
      | exact abutmentref11_hex.mono _ _
      | exact LeO.none _
      | refine LeO.ite ?_ ?_
      | refine LeO.bind ?_ (fun _ => ?_)
    · intro y0 y1
      unfold abutmentref11_Name.l0
      repeat' first
      | (with_reducible exact ih0 _ _ _)
      | (with_reducible exact ih1 _ _)
      | (with_reducible exact ih2 _ _)
      | (with_reducible exact ih3 _ _ _ _)
      | (with_reducible exact ih4 _ _ _ _ _ _)
      | (with_reducible exact abutmentref11_hex.mono _ _)
      | (with_reducible exact LeO.refl _)
      | (with_reducible exact LeO.none _)
      | (with_reducible refine LeO.ite ?_ ?_)
      | (with_reducible refine LeO.bind ?_ (fun _ => ?_))
      | exact ih0 _ _ _
      | exact ih1 _ _
      | exact ih2 _ _
      | exact ih3 _ _ _ _
      | exact ih4 _ _ _ _ _ _
      | exact abutmentref11_hex.mono _ _
      | exact LeO.none _
      | refine LeO.ite ?_ ?_
      | refine LeO.bind ?_ (fun _ => ?_)
    · intro y0 y1
      unfold abutmentref11_Name.l1
      repeat' first
      | (with_reducible exact ih0 _ _ _)
      | (with_reducible exact ih1 _ _)
      | (with_reducible exact ih2 _ _)
      | (with_reducible exact ih3 _ _ _ _)
      | (with_reducible exact ih4 _ _ _ _ _ _)
      | (with_reducible exact abutmentref11_hex.mono _ _)
      | (with_reducible exact LeO.refl _)
      | (with_reducible exact LeO.none _)
      | (with_reducible refine LeO.ite ?_ ?_)
      | (with_reducible refine LeO.bind ?_ (fun _ => ?_))
      | exact ih0 _ _ _
      | exact ih1 _ _
      | exact ih2 _ _
      | exact ih3 _ _ _ _
      | exact ih4 _ _ _ _ _ _
      | exact abutmentref11_hex.mono _ _
      | exact LeO.none _
      | refine LeO.ite ?_ ?_
      | refine LeO.bind ?_ (fun _ => ?_)
    · intro y0 y1 y2 y3
      unfold abutmentref11_Name.j3
      repeat' first
      | (with_reducible exact ih0 _ _ _)
      | (with_reducible exact ih1 _ _)
      | (with_reducible exact ih2 _ _)
      | (with_reducible exact ih3 _ _ _ _)
      | (with_reducible exact ih4 _ _ _ _ _ _)
      | (with_reducible exact abutmentref11_hex.mono _ _)
      | (with_reducible exact LeO.refl _)
      | (with_reducible exact LeO.none _)
      | (with_reducible refine LeO.ite ?_ ?_)
      | (with_reducible refine LeO.bind ?_ (fun _ => ?_))
      | exact ih0 _ _ _
      | exact ih1 _ _
      | exact ih2 _ _
      | exact ih3 _ _ _ _
      | exact ih4 _ _ _ _ _ _
      | exact abutmentref11_hex.mono _ _
      | exact LeO.none _
      | refine LeO.ite ?_ ?_
      | refine LeO.bind ?_ (fun _ => ?_)
    · intro y0 y1 y2 y3 y4 y5
      unfold abutmentref11_Name.l2
      repeat' first
      | (with_reducible exact ih0 _ _ _)
      | (with_reducible exact ih1 _ _)
      | (with_reducible exact ih2 _ _)
      | (with_reducible exact ih3 _ _ _ _)
      | (with_reducible exact ih4 _ _ _ _ _ _)
      | (with_reducible exact abutmentref11_hex.mono _ _)
      | (with_reducible exact LeO.refl _)
      | (with_reducible exact LeO.none _)
      | (with_reducible refine LeO.ite ?_ ?_)
      | (with_reducible refine LeO.bind ?_ (fun _ => ?_))
      | exact ih0 _ _ _
      | exact ih1 _ _
      | exact ih2 _ _
      | exact ih3 _ _ _ _
      | exact ih4 _ _ _ _ _ _
      | exact abutmentref11_hex.mono _ _
      | exact LeO.none _
      | refine LeO.ite ?_ ?_
      | refine LeO.bind ?_ (fun _ => ?_)
theorem abutmentref11_Name.mono : ∀ a0 k, LeO (abutmentref11_Name.f k a0) (abutmentref11_Name.f (k + 1) a0) := by
  intro a0 k
  obtain ⟨ih0, ih1, ih2, ih3, ih4⟩ := abutmentref11_Name.mono_l k
  unfold abutmentref11_Name.f
  repeat' first
      | (with_reducible exact ih0 _ _ _)
      | (with_reducible exact ih1 _ _)
      | (with_reducible exact ih2 _ _)
      | (with_reducible exact ih3 _ _ _ _)
      | (with_reducible exact ih4 _ _ _ _ _ _)
      | (with_reducible exact abutmentref11_hex.mono _ _)
      | (with_reducible exact LeO.refl _)
      | (with_reducible exact LeO.none _)
      | (with_reducible refine LeO.ite ?_ ?_)
      | (with_reducible refine LeO.bind ?_ (fun _ => ?_))
      | exact ih0 _ _ _
      | exact ih1 _ _
      | exact ih2 _ _
      | exact ih3 _ _ _ _
      | exact ih4 _ _ _ _ _ _
      | exact abutmentref11_hex.mono _ _
      | exact LeO.none _
      | refine LeO.ite ?_ ?_
      | refine LeO.bind ?_ (fun _ => ?_)
set_option maxHeartbeats 8000000 in
set_option maxRecDepth 100000 in
theorem abutmentref11_Name.calls (k : Nat) (a0 : ByteArray) (r : Int) (w : World) (h : abutmentref11_Name.f k a0 = some r) :
    Calls Try.prog 64 #[.string a0] w fun e w' => e = .returned (.int .i64 r) ∧ Drawn0 w w' := by
  have H : (if (a0.size : Int) > 0 then (if 0 < (a0.size : Int) then (abutmentref11_Name.j0 k a0 0 ((bt a0 0) == 91)) else (none)) else (abutmentref11_Name.j0 k a0 0 false)) = some r := h
  clear h
  have HC2 := Aside0.mk H
  clear H
  go_enter Try.func64, Try.ntmps64
  go_upto_region 2 with (fail)
  go_cut [15] (fun v15 wc => ∃ (kq : Nat) (x15_1 : Bool), v15 = .bool x15_1 ∧ Aside0 (abutmentref11_Name.j0 kq a0 0 x15_1 = some r) ∧ Aside0 (kq ≤ k) ∧ Drawn0 w wc)
  case first =>
    have H := HC2.out
    clear HC2
    by_cases c3 : (a0.size : Int) > 0
    · rw [if_pos c3] at H
      have c3b0 : decide (0 < (a0.size : Int)) = true := decide_eq_true c3
      have c3b1 : decide (0 < a0.size) = true := decide_eq_true (by omega)
      clear c3
      (first | rw [c3b0] | (simp only [i64_w, i32_w]; rw [c3b0]) | skip)
      by_cases c4 : 0 < (a0.size : Int)
      · rw [if_pos c4] at H
        have c4b0 : decide (0 < (a0.size : Int)) = true := decide_eq_true c4
        have c4b1 : decide (0 < a0.size) = true := decide_eq_true (by omega)
        clear c4
        have H' := Aside0.mk H
        clear H
        have p5 : 0 ≤ (0 : Int) := (by omega)
        have q5 : 0 < a0.size := (by have : (0 : Int) < (a0.size : Int) := of_decide_eq_true (by first | (with_reducible assumption) | assumption); omega)
        have hx5 : ∀ h : 0 < a0.size, ((a0[0]'h).toNat : Int) = bt a0 0 := bt_at a0 0
        clear p5
        have qi5 : (0 < (a0.size : Int)) = True := eq_true (of_decide_eq_true (by first | (with_reducible assumption) | assumption))
        replace q5 := eq_true q5
        go_wp2
        go_meet
        case rel => exact ⟨_, (((bt a0 0) == 91)), (by first | rfl | (simp; done) | (simp [*]; done)), H', ⟨by first | omega | exact Nat.le_refl _⟩, by repeat (first | exact Drawn0.refl _ | apply Drawn0.step)⟩
      · rw [if_neg c4] at H
        exact absurd H (by simp)
    · rw [if_neg c3] at H
      have c3b0 : decide (0 < (a0.size : Int)) = false := decide_eq_false c3
      have c3b1 : decide (0 < a0.size) = false := decide_eq_false (by omega)
      clear c3
      (first | rw [c3b0] | (simp only [i64_w, i32_w]; rw [c3b0]) | skip)
      have H' := Aside0.mk H
      clear H
      go_wp2
      go_meet
      case rel => exact ⟨_, (false), (by first | rfl | (simp; done) | (simp [*]; done)), H', ⟨by first | omega | exact Nat.le_refl _⟩, by repeat (first | exact Drawn0.refl _ | apply Drawn0.step)⟩
  case rest =>
    clear HC2
    try clear p2
    try clear c3
    try clear c3b0
    try clear c3b1
    try clear c4
    try clear c4b0
    try clear c4b1
    try clear p5
    try clear q5
    try clear hx5
    try clear qi5
    try clear p5
    try clear q5
    obtain ⟨kq, x15_1, rfl, HA, HJ1, ⟨mc1, rfl⟩⟩ := hcut
    cases kq with
    | zero => exact absurd HA.out (by simp [abutmentref11_Name.j0])
    | succ kj1 =>
      have H := HA.out
      clear HA
      simp only [abutmentref11_Name.j0] at H
      by_cases c6 : x15_1 = true
      · subst c6
        have H1 : (abutmentref11_Name.l0 kj1 a0 1) = some r := by rw [if_pos rfl] at H; exact H
        clear H
        have H := H1
        clear H1
        have H' := Aside0.mk H
        clear H
        go_wp2
        go_loopg [3] kj1 (fun kq v3 w' => ∃ (x3_2 : Int), v3 = .int .i64 x3_2 ∧ Aside0 (abutmentref11_Name.l0 kq a0 x3_2 = some r) ∧ Aside0 (kq ≤ kj1) ∧ Drawn0 w w')
        case atStart => exact ⟨(1), (by first | rfl | (simp; done) | (simp [*]; done)), H', ⟨Nat.le_refl _⟩, by repeat (first | exact Drawn0.refl _ | apply Drawn0.step)⟩
        case round =>
          clear H'
          try clear c1
          try clear p2
          try clear c3
          try clear c3b0
          try clear c3b1
          try clear c4
          try clear c4b0
          try clear c4b1
          try clear p5
          try clear q5
          try clear hx5
          try clear qi5
          try clear c6
          try clear p2
          try clear p5
          try clear q5
          obtain ⟨x3_2, rfl, HA, HK2, ⟨m2, rfl⟩⟩ := hrel
          cases gk with
          | zero => exact absurd HA.out (by simp [abutmentref11_Name.l0])
          | succ k2 =>
            have H := HA.out
            clear HA
            simp only [abutmentref11_Name.l0] at H
            by_cases c7 : x3_2 < (a0.size : Int)
            · rw [if_pos c7] at H
              have c7b0 : decide (x3_2 < (a0.size : Int)) = true := decide_eq_true c7
              clear c7
              by_cases c8 : 0 ≤ x3_2
              · rw [if_pos c8] at H
                have c8b0 : decide (0 ≤ x3_2) = true := decide_eq_true c8
                clear c8
                replace H := Option.bind_eq_some_iff.mp H
                obtain ⟨t101, A100, H⟩ := H
                replace H : (if t101 = true then (abutmentref11_Name.l0 k2 a0 (wrap64 (x3_2 + 1))) else (if (bt a0 x3_2) = 58 then (abutmentref11_Name.l0 k2 a0 (wrap64 (x3_2 + 1))) else (if (bt a0 x3_2) = 46 then (abutmentref11_Name.l0 k2 a0 (wrap64 (x3_2 + 1))) else (if x3_2 = 1 then (some 0) else (if x3_2 = (a0.size : Int) then (some 0) else (if (bt a0 x3_2) = 93 then (some (wrap64 (x3_2 + 1))) else (some 0))))))) = some r := H
                have A10 := Aside0.mk A100
                clear A100
                by_cases c11 : t101 = true
                · subst c11
                  have H1 : (abutmentref11_Name.l0 k2 a0 (wrap64 (x3_2 + 1))) = some r := by rw [if_pos rfl] at H; exact H
                  clear H
                  have H := H1
                  clear H1
                  have H' := Aside0.mk H
                  clear H
                  have p9 : 0 ≤ (x3_2 : Int) := of_decide_eq_true (by first | (with_reducible assumption) | assumption)
                  have q9 : x3_2 < (a0.size : Int) := of_decide_eq_true (by first | (with_reducible assumption) | assumption)
                  have hx9 := bt_at a0 x3_2
                  replace p9 := eq_true p9
                  replace q9 := eq_true q9
                  go_wp2_with (first | (go_at_call 86; (with_reducible refine (abutmentref11_hex.calls k2 (bt a0 x3_2) true _ A10.out).mono ?_); rintro e w' ⟨rfl, ⟨nd, rfl⟩⟩))
                  go_roundg k2
                  case measure => have := HJ1.out; have := HK2.out; omega
                  case rel => exact ⟨(wrap64 (x3_2 + 1)), (by first | rfl | (simp; done) | (simp [*]; done)), H', ⟨by have := HJ1.out; have := HK2.out; omega⟩, by repeat (first | exact Drawn0.refl _ | apply Drawn0.step)⟩
                · replace c11 := Bool.eq_false_iff.mpr c11
                  subst c11
                  have H1 : (if (bt a0 x3_2) = 58 then (abutmentref11_Name.l0 k2 a0 (wrap64 (x3_2 + 1))) else (if (bt a0 x3_2) = 46 then (abutmentref11_Name.l0 k2 a0 (wrap64 (x3_2 + 1))) else (if x3_2 = 1 then (some 0) else (if x3_2 = (a0.size : Int) then (some 0) else (if (bt a0 x3_2) = 93 then (some (wrap64 (x3_2 + 1))) else (some 0)))))) = some r := by rw [if_neg (show ¬ (false = true) by decide)] at H; exact H
                  clear H
                  have H := H1
                  clear H1
                  by_cases c13 : (bt a0 x3_2) = 58
                  · rw [if_pos c13] at H
                    have c13b0 : ((bt a0 x3_2) == 58) = true := beq_iff_eq.mpr c13
                    have c13b1 : ((bt a0 x3_2) != 58) = false := bne_eq_false_iff_eq.mpr c13
                    clear c13
                    have H' := Aside0.mk H
                    clear H
                    have p9 : 0 ≤ (x3_2 : Int) := of_decide_eq_true (by first | (with_reducible assumption) | assumption)
                    have q9 : x3_2 < (a0.size : Int) := of_decide_eq_true (by first | (with_reducible assumption) | assumption)
                    have hx9 := bt_at a0 x3_2
                    replace p9 := eq_true p9
                    replace q9 := eq_true q9
                    go_wp2_with (first | (go_at_call 86; (with_reducible refine (abutmentref11_hex.calls k2 (bt a0 x3_2) false _ A10.out).mono ?_); rintro e w' ⟨rfl, ⟨nd, rfl⟩⟩; have p12 : 0 ≤ (x3_2 : Int) := of_decide_eq_true (by first | (with_reducible assumption) | assumption); have q12 : x3_2 < (a0.size : Int) := of_decide_eq_true (by first | (with_reducible assumption) | assumption); have hx12 := bt_at a0 x3_2; replace p12 := eq_true p12; replace q12 := eq_true q12))
                    go_roundg k2
                    case measure => have := HJ1.out; have := HK2.out; omega
                    case rel => exact ⟨(wrap64 (x3_2 + 1)), (by first | rfl | (simp; done) | (simp [*]; done)), H', ⟨by have := HJ1.out; have := HK2.out; omega⟩, by repeat (first | exact Drawn0.refl _ | apply Drawn0.step)⟩
                  · rw [if_neg c13] at H
                    have c13b0 : ((bt a0 x3_2) == 58) = false := beq_eq_false_iff_ne.mpr c13
                    have c13b1 : ((bt a0 x3_2) != 58) = true := bne_iff_ne.mpr c13
                    by_cases c15 : (bt a0 x3_2) = 46
                    · rw [if_pos c15] at H
                      have c15b0 : ((bt a0 x3_2) == 46) = true := beq_iff_eq.mpr c15
                      have c15b1 : ((bt a0 x3_2) != 46) = false := bne_eq_false_iff_eq.mpr c15
                      clear c15
                      have H' := Aside0.mk H
                      clear H
                      have p9 : 0 ≤ (x3_2 : Int) := of_decide_eq_true (by first | (with_reducible assumption) | assumption)
                      have q9 : x3_2 < (a0.size : Int) := of_decide_eq_true (by first | (with_reducible assumption) | assumption)
                      have hx9 := bt_at a0 x3_2
                      replace p9 := eq_true p9
                      replace q9 := eq_true q9
                      go_wp2_with (first | (go_at_call 86; (with_reducible refine (abutmentref11_hex.calls k2 (bt a0 x3_2) false _ A10.out).mono ?_); rintro e w' ⟨rfl, ⟨nd, rfl⟩⟩; have p12 : 0 ≤ (x3_2 : Int) := of_decide_eq_true (by first | (with_reducible assumption) | assumption); have q12 : x3_2 < (a0.size : Int) := of_decide_eq_true (by first | (with_reducible assumption) | assumption); have hx12 := bt_at a0 x3_2; replace p12 := eq_true p12; replace q12 := eq_true q12; have p14 : 0 ≤ (x3_2 : Int) := of_decide_eq_true (by first | (with_reducible assumption) | assumption); have q14 : x3_2 < (a0.size : Int) := of_decide_eq_true (by first | (with_reducible assumption) | assumption); have hx14 := bt_at a0 x3_2; replace p14 := eq_true p14; replace q14 := eq_true q14))
                      go_roundg k2
                      case measure => have := HJ1.out; have := HK2.out; omega
                      case rel => exact ⟨(wrap64 (x3_2 + 1)), (by first | rfl | (simp; done) | (simp [*]; done)), H', ⟨by have := HJ1.out; have := HK2.out; omega⟩, by repeat (first | exact Drawn0.refl _ | apply Drawn0.step)⟩
                    · rw [if_neg c15] at H
                      have c15b0 : ((bt a0 x3_2) == 46) = false := beq_eq_false_iff_ne.mpr c15
                      have c15b1 : ((bt a0 x3_2) != 46) = true := bne_iff_ne.mpr c15
                      by_cases c16 : x3_2 = 1
                      · rw [if_pos c16] at H
                        have c16b0 : (x3_2 == 1) = true := beq_iff_eq.mpr c16
                        have c16b1 : (x3_2 != 1) = false := bne_eq_false_iff_eq.mpr c16
                        clear c16
                        obtain rfl := Option.some.inj H
                        have p9 : 0 ≤ (x3_2 : Int) := of_decide_eq_true (by first | (with_reducible assumption) | assumption)
                        have q9 : x3_2 < (a0.size : Int) := of_decide_eq_true (by first | (with_reducible assumption) | assumption)
                        have hx9 := bt_at a0 x3_2
                        replace p9 := eq_true p9
                        replace q9 := eq_true q9
                        go_wp2_with (first | (go_at_call 86; (with_reducible refine (abutmentref11_hex.calls k2 (bt a0 x3_2) false _ A10.out).mono ?_); rintro e w' ⟨rfl, ⟨nd, rfl⟩⟩; have p12 : 0 ≤ (x3_2 : Int) := of_decide_eq_true (by first | (with_reducible assumption) | assumption); have q12 : x3_2 < (a0.size : Int) := of_decide_eq_true (by first | (with_reducible assumption) | assumption); have hx12 := bt_at a0 x3_2; replace p12 := eq_true p12; replace q12 := eq_true q12; have p14 : 0 ≤ (x3_2 : Int) := of_decide_eq_true (by first | (with_reducible assumption) | assumption); have q14 : x3_2 < (a0.size : Int) := of_decide_eq_true (by first | (with_reducible assumption) | assumption); have hx14 := bt_at a0 x3_2; replace p14 := eq_true p14; replace q14 := eq_true q14))
                        go_ret
                        exact ⟨by first | rfl | (simp; done) | (simp [*]; done), by repeat (first | exact Drawn0.refl _ | apply Drawn0.step)⟩
                      · rw [if_neg c16] at H
                        have c16b0 : (x3_2 == 1) = false := beq_eq_false_iff_ne.mpr c16
                        have c16b1 : (x3_2 != 1) = true := bne_iff_ne.mpr c16
                        by_cases c17 : x3_2 = (a0.size : Int)
                        · rw [if_pos c17] at H
                          have c17b0 : (x3_2 == (a0.size : Int)) = true := beq_iff_eq.mpr c17
                          have c17b1 : (x3_2 != (a0.size : Int)) = false := bne_eq_false_iff_eq.mpr c17
                          clear c17
                          obtain rfl := Option.some.inj H
                          have p9 : 0 ≤ (x3_2 : Int) := of_decide_eq_true (by first | (with_reducible assumption) | assumption)
                          have q9 : x3_2 < (a0.size : Int) := of_decide_eq_true (by first | (with_reducible assumption) | assumption)
                          have hx9 := bt_at a0 x3_2
                          replace p9 := eq_true p9
                          replace q9 := eq_true q9
                          go_wp2_with (first | (go_at_call 86; (with_reducible refine (abutmentref11_hex.calls k2 (bt a0 x3_2) false _ A10.out).mono ?_); rintro e w' ⟨rfl, ⟨nd, rfl⟩⟩; have p12 : 0 ≤ (x3_2 : Int) := of_decide_eq_true (by first | (with_reducible assumption) | assumption); have q12 : x3_2 < (a0.size : Int) := of_decide_eq_true (by first | (with_reducible assumption) | assumption); have hx12 := bt_at a0 x3_2; replace p12 := eq_true p12; replace q12 := eq_true q12; have p14 : 0 ≤ (x3_2 : Int) := of_decide_eq_true (by first | (with_reducible assumption) | assumption); have q14 : x3_2 < (a0.size : Int) := of_decide_eq_true (by first | (with_reducible assumption) | assumption); have hx14 := bt_at a0 x3_2; replace p14 := eq_true p14; replace q14 := eq_true q14))
                          go_ret
                          exact ⟨by first | rfl | (simp; done) | (simp [*]; done), by repeat (first | exact Drawn0.refl _ | apply Drawn0.step)⟩
                        · rw [if_neg c17] at H
                          have c17b0 : (x3_2 == (a0.size : Int)) = false := beq_eq_false_iff_ne.mpr c17
                          have c17b1 : (x3_2 != (a0.size : Int)) = true := bne_iff_ne.mpr c17
                          by_cases c19 : (bt a0 x3_2) = 93
                          · rw [if_pos c19] at H
                            have c19b0 : ((bt a0 x3_2) == 93) = true := beq_iff_eq.mpr c19
                            have c19b1 : ((bt a0 x3_2) != 93) = false := bne_eq_false_iff_eq.mpr c19
                            clear c19
                            obtain rfl := Option.some.inj H
                            have p9 : 0 ≤ (x3_2 : Int) := of_decide_eq_true (by first | (with_reducible assumption) | assumption)
                            have q9 : x3_2 < (a0.size : Int) := of_decide_eq_true (by first | (with_reducible assumption) | assumption)
                            have hx9 := bt_at a0 x3_2
                            replace p9 := eq_true p9
                            replace q9 := eq_true q9
                            go_wp2_with (first | (go_at_call 86; (with_reducible refine (abutmentref11_hex.calls k2 (bt a0 x3_2) false _ A10.out).mono ?_); rintro e w' ⟨rfl, ⟨nd, rfl⟩⟩; have p12 : 0 ≤ (x3_2 : Int) := of_decide_eq_true (by first | (with_reducible assumption) | assumption); have q12 : x3_2 < (a0.size : Int) := of_decide_eq_true (by first | (with_reducible assumption) | assumption); have hx12 := bt_at a0 x3_2; replace p12 := eq_true p12; replace q12 := eq_true q12; have p14 : 0 ≤ (x3_2 : Int) := of_decide_eq_true (by first | (with_reducible assumption) | assumption); have q14 : x3_2 < (a0.size : Int) := of_decide_eq_true (by first | (with_reducible assumption) | assumption); have hx14 := bt_at a0 x3_2; replace p14 := eq_true p14; replace q14 := eq_true q14; have p18 : 0 ≤ (x3_2 : Int) := of_decide_eq_true (by first | (with_reducible assumption) | assumption); have q18 : x3_2 < (a0.size : Int) := of_decide_eq_true (by first | (with_reducible assumption) | assumption); have hx18 := bt_at a0 x3_2; replace p18 := eq_true p18; replace q18 := eq_true q18))
                            go_ret
                            exact ⟨by first | rfl | (simp; done) | (simp [*]; done), by repeat (first | exact Drawn0.refl _ | apply Drawn0.step)⟩
                          · rw [if_neg c19] at H
                            have c19b0 : ((bt a0 x3_2) == 93) = false := beq_eq_false_iff_ne.mpr c19
                            have c19b1 : ((bt a0 x3_2) != 93) = true := bne_iff_ne.mpr c19
                            obtain rfl := Option.some.inj H
                            have p9 : 0 ≤ (x3_2 : Int) := of_decide_eq_true (by first | (with_reducible assumption) | assumption)
                            have q9 : x3_2 < (a0.size : Int) := of_decide_eq_true (by first | (with_reducible assumption) | assumption)
                            have hx9 := bt_at a0 x3_2
                            replace p9 := eq_true p9
                            replace q9 := eq_true q9
                            go_wp2_with (first | (go_at_call 86; (with_reducible refine (abutmentref11_hex.calls k2 (bt a0 x3_2) false _ A10.out).mono ?_); rintro e w' ⟨rfl, ⟨nd, rfl⟩⟩; have p12 : 0 ≤ (x3_2 : Int) := of_decide_eq_true (by first | (with_reducible assumption) | assumption); have q12 : x3_2 < (a0.size : Int) := of_decide_eq_true (by first | (with_reducible assumption) | assumption); have hx12 := bt_at a0 x3_2; replace p12 := eq_true p12; replace q12 := eq_true q12; have p14 : 0 ≤ (x3_2 : Int) := of_decide_eq_true (by first | (with_reducible assumption) | assumption); have q14 : x3_2 < (a0.size : Int) := of_decide_eq_true (by first | (with_reducible assumption) | assumption); have hx14 := bt_at a0 x3_2; replace p14 := eq_true p14; replace q14 := eq_true q14; have p18 : 0 ≤ (x3_2 : Int) := of_decide_eq_true (by first | (with_reducible assumption) | assumption); have q18 : x3_2 < (a0.size : Int) := of_decide_eq_true (by first | (with_reducible assumption) | assumption); have hx18 := bt_at a0 x3_2; replace p18 := eq_true p18; replace q18 := eq_true q18))
                            go_ret
                            exact ⟨by first | rfl | (simp; done) | (simp [*]; done), by repeat (first | exact Drawn0.refl _ | apply Drawn0.step)⟩
              · rw [if_neg c8] at H
                exact absurd H (by simp)
            · rw [if_neg c7] at H
              have c7b0 : decide (x3_2 < (a0.size : Int)) = false := decide_eq_false c7
              clear c7
              by_cases c20 : x3_2 = 1
              · rw [if_pos c20] at H
                have c20b0 : (x3_2 == 1) = true := beq_iff_eq.mpr c20
                have c20b1 : (x3_2 != 1) = false := bne_eq_false_iff_eq.mpr c20
                clear c20
                obtain rfl := Option.some.inj H
                go_wp2
                go_ret
                exact ⟨by first | rfl | (simp; done) | (simp [*]; done), by repeat (first | exact Drawn0.refl _ | apply Drawn0.step)⟩
              · rw [if_neg c20] at H
                have c20b0 : (x3_2 == 1) = false := beq_eq_false_iff_ne.mpr c20
                have c20b1 : (x3_2 != 1) = true := bne_iff_ne.mpr c20
                by_cases c21 : x3_2 = (a0.size : Int)
                · rw [if_pos c21] at H
                  have c21b0 : (x3_2 == (a0.size : Int)) = true := beq_iff_eq.mpr c21
                  have c21b1 : (x3_2 != (a0.size : Int)) = false := bne_eq_false_iff_eq.mpr c21
                  clear c21
                  obtain rfl := Option.some.inj H
                  go_wp2
                  go_ret
                  exact ⟨by first | rfl | (simp; done) | (simp [*]; done), by repeat (first | exact Drawn0.refl _ | apply Drawn0.step)⟩
                · rw [if_neg c21] at H
                  have c21b0 : (x3_2 == (a0.size : Int)) = false := beq_eq_false_iff_ne.mpr c21
                  have c21b1 : (x3_2 != (a0.size : Int)) = true := bne_iff_ne.mpr c21
                  by_cases c22 : 0 ≤ x3_2
                  · rw [if_pos c22] at H
                    exact absurd H (by simp)
                  · rw [if_neg c22] at H
                    exact absurd H (by simp)
      · replace c6 := Bool.eq_false_iff.mpr c6
        subst c6
        have H1 : (abutmentref11_Name.l1 kj1 a0 0) = some r := by rw [if_neg (show ¬ (false = true) by decide)] at H; exact H
        clear H
        have H := H1
        clear H1
        have H' := Aside0.mk H
        clear H
        go_wp2
        go_loopg [3] kj1 (fun kq v3 w' => ∃ (x3_2 : Int), v3 = .int .i64 x3_2 ∧ Aside0 (abutmentref11_Name.l1 kq a0 x3_2 = some r) ∧ Aside0 (kq ≤ kj1) ∧ Drawn0 w w')
        case atStart => exact ⟨(0), (by first | rfl | (simp; done) | (simp [*]; done)), H', ⟨Nat.le_refl _⟩, by repeat (first | exact Drawn0.refl _ | apply Drawn0.step)⟩
        case round =>
          clear H'
          try clear c1
          try clear p1
          try clear q1
          try clear hx1
          try clear c2
          try clear p2
          try clear c3
          try clear c3b0
          try clear c3b1
          try clear c4
          try clear c4b0
          try clear c4b1
          try clear p5
          try clear q5
          try clear hx5
          try clear qi5
          try clear c6
          try clear p6
          try clear c7
          try clear c7b0
          try clear c8
          try clear c8b0
          try clear p9
          try clear q9
          try clear hx9
          try clear c11
          try clear p12
          try clear q12
          try clear hx12
          try clear c13
          try clear c13b0
          try clear c13b1
          try clear p14
          try clear q14
          try clear hx14
          try clear c15
          try clear c15b0
          try clear c15b1
          try clear c16
          try clear c16b0
          try clear c16b1
          try clear c17
          try clear c17b0
          try clear c17b1
          try clear p18
          try clear q18
          try clear hx18
          try clear c19
          try clear c19b0
          try clear c19b1
          try clear c20
          try clear c20b0
          try clear c20b1
          try clear c21
          try clear c21b0
          try clear c21b1
          try clear c22
          try clear p12
          try clear p14
          try clear p18
          try clear p2
          try clear p5
          try clear p9
          try clear q12
          try clear q14
          try clear q18
          try clear q5
          try clear q9
          obtain ⟨x3_2, rfl, HA, HK2, ⟨m2, rfl⟩⟩ := hrel
          cases gk with
          | zero => exact absurd HA.out (by simp [abutmentref11_Name.l1])
          | succ k2 =>
            have H := HA.out
            clear HA
            simp only [abutmentref11_Name.l1] at H
            by_cases c23 : x3_2 < (a0.size : Int)
            · rw [if_pos c23] at H
              have c23b0 : decide (x3_2 < (a0.size : Int)) = true := decide_eq_true c23
              clear c23
              by_cases c24 : 0 ≤ x3_2
              · rw [if_pos c24] at H
                have c24b0 : decide (0 ≤ x3_2) = true := decide_eq_true c24
                clear c24
                by_cases c26 : (bt a0 x3_2) = 37
                · rw [if_pos c26] at H
                  have c26b0 : ((bt a0 x3_2) == 37) = true := beq_iff_eq.mpr c26
                  have c26b1 : ((bt a0 x3_2) != 37) = false := bne_eq_false_iff_eq.mpr c26
                  clear c26
                  by_cases c27 : (wrap64 (x3_2 + 2)) ≥ (a0.size : Int)
                  · rw [if_pos c27] at H
                    have c27b0 : decide ((a0.size : Int) ≤ (wrap64 (x3_2 + 2))) = true := decide_eq_true c27
                    clear c27
                    obtain rfl := Option.some.inj H
                    have p25 : 0 ≤ (x3_2 : Int) := of_decide_eq_true (by first | (with_reducible assumption) | assumption)
                    have q25 : x3_2 < (a0.size : Int) := of_decide_eq_true (by first | (with_reducible assumption) | assumption)
                    have hx25 := bt_at a0 x3_2
                    replace p25 := eq_true p25
                    replace q25 := eq_true q25
                    go_wp2
                    go_ret
                    exact ⟨by first | rfl | (simp; done) | (simp [*]; done), by repeat (first | exact Drawn0.refl _ | apply Drawn0.step)⟩
                  · rw [if_neg c27] at H
                    have c27b0 : decide ((a0.size : Int) ≤ (wrap64 (x3_2 + 2))) = false := decide_eq_false c27
                    clear c27
                    obtain ⟨ji28, hji28⟩ : ∃ j_ : Int, (wrap64 (x3_2 + 1)) = j_ := ⟨_, rfl⟩
                    replace H : (if 0 ≤ (ji28) then (if (ji28) < (a0.size : Int) then ((abutmentref11_hex.f k2 (bt a0 (ji28))).bind fun t102 => (if t102 = true then (if 0 ≤ (wrap64 (x3_2 + 2)) then (if (wrap64 (x3_2 + 2)) < (a0.size : Int) then ((abutmentref11_hex.f k2 (bt a0 (wrap64 (x3_2 + 2)))).bind fun t103 => (if t103 = true then (abutmentref11_Name.l1 k2 a0 (wrap64 (x3_2 + 3))) else (some 0))) else (none)) else (none)) else (some 0))) else (none)) else (none)) = some r := by first | (rw [hji28] at H; exact H) | (simp only [hji28] at H ⊢; exact H)
                    have hji28w : (IntKind.i64.wrap (x3_2 + 1)) = ji28 := (i64_w _).trans hji28
                    by_cases c29 : 0 ≤ (ji28)
                    · rw [if_pos c29] at H
                      have c29b0 : decide (0 ≤ (ji28)) = true := decide_eq_true c29
                      clear c29
                      by_cases c30 : (ji28) < (a0.size : Int)
                      · rw [if_pos c30] at H
                        have c30b0 : decide ((ji28) < (a0.size : Int)) = true := decide_eq_true c30
                        clear c30
                        replace H := Option.bind_eq_some_iff.mp H
                        obtain ⟨t102, A320, H⟩ := H
                        replace H : (if t102 = true then (if 0 ≤ (wrap64 (x3_2 + 2)) then (if (wrap64 (x3_2 + 2)) < (a0.size : Int) then ((abutmentref11_hex.f k2 (bt a0 (wrap64 (x3_2 + 2)))).bind fun t103 => (if t103 = true then (abutmentref11_Name.l1 k2 a0 (wrap64 (x3_2 + 3))) else (some 0))) else (none)) else (none)) else (some 0)) = some r := H
                        have A32 := Aside0.mk A320
                        clear A320
                        by_cases c33 : t102 = true
                        · subst c33
                          have H1 : (if 0 ≤ (wrap64 (x3_2 + 2)) then (if (wrap64 (x3_2 + 2)) < (a0.size : Int) then ((abutmentref11_hex.f k2 (bt a0 (wrap64 (x3_2 + 2)))).bind fun t103 => (if t103 = true then (abutmentref11_Name.l1 k2 a0 (wrap64 (x3_2 + 3))) else (some 0))) else (none)) else (none)) = some r := by rw [if_pos rfl] at H; exact H
                          clear H
                          have H := H1
                          clear H1
                          obtain ⟨ji34, hji34⟩ : ∃ j_ : Int, (wrap64 (x3_2 + 2)) = j_ := ⟨_, rfl⟩
                          replace H : (if 0 ≤ (ji34) then (if (ji34) < (a0.size : Int) then ((abutmentref11_hex.f k2 (bt a0 (ji34))).bind fun t103 => (if t103 = true then (abutmentref11_Name.l1 k2 a0 (wrap64 (x3_2 + 3))) else (some 0))) else (none)) else (none)) = some r := by first | (rw [hji34] at H; exact H) | (simp only [hji34] at H ⊢; exact H)
                          (try rw [hji34] at c27b0)
                          (try rw [hji34] at A32)
                          have hji34w : (IntKind.i64.wrap (x3_2 + 2)) = ji34 := (i64_w _).trans hji34
                          by_cases c35 : 0 ≤ (ji34)
                          · rw [if_pos c35] at H
                            have c35b0 : decide (0 ≤ (ji34)) = true := decide_eq_true c35
                            clear c35
                            by_cases c36 : (ji34) < (a0.size : Int)
                            · rw [if_pos c36] at H
                              have c36b0 : decide ((ji34) < (a0.size : Int)) = true := decide_eq_true c36
                              clear c36
                              replace H := Option.bind_eq_some_iff.mp H
                              obtain ⟨t103, A380, H⟩ := H
                              replace H : (if t103 = true then (abutmentref11_Name.l1 k2 a0 (wrap64 (x3_2 + 3))) else (some 0)) = some r := H
                              have A38 := Aside0.mk A380
                              clear A380
                              by_cases c39 : t103 = true
                              · subst c39
                                have H1 : (abutmentref11_Name.l1 k2 a0 (wrap64 (x3_2 + 3))) = some r := by rw [if_pos rfl] at H; exact H
                                clear H
                                have H := H1
                                clear H1
                                have H' := Aside0.mk H
                                clear H
                                have p25 : 0 ≤ (x3_2 : Int) := of_decide_eq_true (by first | (with_reducible assumption) | assumption)
                                have q25 : x3_2 < (a0.size : Int) := of_decide_eq_true (by first | (with_reducible assumption) | assumption)
                                have hx25 := bt_at a0 x3_2
                                replace p25 := eq_true p25
                                replace q25 := eq_true q25
                                have p31 : 0 ≤ ((ji28) : Int) := of_decide_eq_true (by first | (with_reducible assumption) | assumption)
                                have q31 : (ji28) < (a0.size : Int) := of_decide_eq_true (by first | (with_reducible assumption) | assumption)
                                have hx31 := bt_at a0 (ji28)
                                replace p31 := eq_true p31
                                replace q31 := eq_true q31
                                go_wp2_with (first | (go_at_call 86; (with_reducible refine (abutmentref11_hex.calls k2 (bt a0 (ji28)) true _ A32.out).mono ?_); rintro e w' ⟨rfl, ⟨nd, rfl⟩⟩; have p37 : 0 ≤ ((ji34) : Int) := of_decide_eq_true (by first | (with_reducible assumption) | assumption); have q37 : (ji34) < (a0.size : Int) := of_decide_eq_true (by first | (with_reducible assumption) | assumption); have hx37 := bt_at a0 (ji34); replace p37 := eq_true p37; replace q37 := eq_true q37) | (go_at_call 86; (with_reducible refine (abutmentref11_hex.calls k2 (bt a0 (ji34)) true _ A38.out).mono ?_); rintro e w' ⟨rfl, ⟨nd, rfl⟩⟩))
                                go_roundg k2
                                case measure => have := HJ1.out; have := HK2.out; omega
                                case rel => exact ⟨(wrap64 (x3_2 + 3)), (by first | rfl | (simp; done) | (simp [*]; done)), H', ⟨by have := HJ1.out; have := HK2.out; omega⟩, by repeat (first | exact Drawn0.refl _ | apply Drawn0.step)⟩
                              · replace c39 := Bool.eq_false_iff.mpr c39
                                subst c39
                                have H1 : (some 0) = some r := by rw [if_neg (show ¬ (false = true) by decide)] at H; exact H
                                clear H
                                have H := H1
                                clear H1
                                obtain rfl := Option.some.inj H
                                have p25 : 0 ≤ (x3_2 : Int) := of_decide_eq_true (by first | (with_reducible assumption) | assumption)
                                have q25 : x3_2 < (a0.size : Int) := of_decide_eq_true (by first | (with_reducible assumption) | assumption)
                                have hx25 := bt_at a0 x3_2
                                replace p25 := eq_true p25
                                replace q25 := eq_true q25
                                have p31 : 0 ≤ ((ji28) : Int) := of_decide_eq_true (by first | (with_reducible assumption) | assumption)
                                have q31 : (ji28) < (a0.size : Int) := of_decide_eq_true (by first | (with_reducible assumption) | assumption)
                                have hx31 := bt_at a0 (ji28)
                                replace p31 := eq_true p31
                                replace q31 := eq_true q31
                                go_wp2_with (first | (go_at_call 86; (with_reducible refine (abutmentref11_hex.calls k2 (bt a0 (ji28)) true _ A32.out).mono ?_); rintro e w' ⟨rfl, ⟨nd, rfl⟩⟩; have p37 : 0 ≤ ((ji34) : Int) := of_decide_eq_true (by first | (with_reducible assumption) | assumption); have q37 : (ji34) < (a0.size : Int) := of_decide_eq_true (by first | (with_reducible assumption) | assumption); have hx37 := bt_at a0 (ji34); replace p37 := eq_true p37; replace q37 := eq_true q37) | (go_at_call 86; (with_reducible refine (abutmentref11_hex.calls k2 (bt a0 (ji34)) false _ A38.out).mono ?_); rintro e w' ⟨rfl, ⟨nd, rfl⟩⟩))
                                go_ret
                                exact ⟨by first | rfl | (simp; done) | (simp only [← hji28, ← hji34] <;> (first | rfl | simp)) | (simp [*]; done), by repeat (first | exact Drawn0.refl _ | apply Drawn0.step)⟩
                            · rw [if_neg c36] at H
                              exact absurd H (by simp)
                          · rw [if_neg c35] at H
                            exact absurd H (by simp)
                        · replace c33 := Bool.eq_false_iff.mpr c33
                          subst c33
                          have H1 : (some 0) = some r := by rw [if_neg (show ¬ (false = true) by decide)] at H; exact H
                          clear H
                          have H := H1
                          clear H1
                          obtain rfl := Option.some.inj H
                          have p25 : 0 ≤ (x3_2 : Int) := of_decide_eq_true (by first | (with_reducible assumption) | assumption)
                          have q25 : x3_2 < (a0.size : Int) := of_decide_eq_true (by first | (with_reducible assumption) | assumption)
                          have hx25 := bt_at a0 x3_2
                          replace p25 := eq_true p25
                          replace q25 := eq_true q25
                          have p31 : 0 ≤ ((ji28) : Int) := of_decide_eq_true (by first | (with_reducible assumption) | assumption)
                          have q31 : (ji28) < (a0.size : Int) := of_decide_eq_true (by first | (with_reducible assumption) | assumption)
                          have hx31 := bt_at a0 (ji28)
                          replace p31 := eq_true p31
                          replace q31 := eq_true q31
                          go_wp2_with (first | (go_at_call 86; (with_reducible refine (abutmentref11_hex.calls k2 (bt a0 (ji28)) false _ A32.out).mono ?_); rintro e w' ⟨rfl, ⟨nd, rfl⟩⟩))
                          go_ret
                          exact ⟨by first | rfl | (simp; done) | (simp only [← hji28] <;> (first | rfl | simp)) | (simp [*]; done), by repeat (first | exact Drawn0.refl _ | apply Drawn0.step)⟩
                      · rw [if_neg c30] at H
                        exact absurd H (by simp)
                    · rw [if_neg c29] at H
                      exact absurd H (by simp)
                · rw [if_neg c26] at H
                  have c26b0 : ((bt a0 x3_2) == 37) = false := beq_eq_false_iff_ne.mpr c26
                  have c26b1 : ((bt a0 x3_2) != 37) = true := bne_iff_ne.mpr c26
                  have HC40 := Aside0.mk H
                  clear H
                  have p25 : 0 ≤ (x3_2 : Int) := of_decide_eq_true (by first | (with_reducible assumption) | assumption)
                  have q25 : x3_2 < (a0.size : Int) := of_decide_eq_true (by first | (with_reducible assumption) | assumption)
                  have hx25 := bt_at a0 x3_2
                  replace p25 := eq_true p25
                  replace q25 := eq_true q25
                  go_upto_region 15 with (fail)
                  go_cut [5] (fun v5 wc => ∃ (kq : Nat) (x5_39 : Bool), v5 = .bool x5_39 ∧ Aside0 (abutmentref11_Name.j3 kq a0 x3_2 (bt a0 x3_2) x5_39 = some r) ∧ Aside0 (kq ≤ k2) ∧ Drawn0 w wc)
                  case first =>
                    have H := HC40.out
                    clear HC40
                    by_cases c41 : (bt a0 x3_2) ≥ 48
                    · rw [if_pos c41] at H
                      have c41b0 : decide (48 ≤ (bt a0 x3_2)) = true := decide_eq_true c41
                      clear c41
                      (first | rw [c41b0] | (simp only [i64_w, i32_w]; rw [c41b0]) | skip)
                      by_cases c42 : (bt a0 x3_2) ≤ 57
                      · rw [if_pos c42] at H
                        have c42b0 : decide ((bt a0 x3_2) ≤ 57) = true := decide_eq_true c42
                        clear c42
                        have H' := Aside0.mk H
                        clear H
                        go_wp2
                        go_meet
                        case rel => exact ⟨_, (true), (by first | rfl | (simp; done) | (simp [*]; done)), H', ⟨by have := HJ1.out; have := HK2.out; first | omega | exact Nat.le_refl _⟩, by repeat (first | exact Drawn0.refl _ | apply Drawn0.step)⟩
                      · rw [if_neg c42] at H
                        have c42b0 : decide ((bt a0 x3_2) ≤ 57) = false := decide_eq_false c42
                        clear c42
                        by_cases c43 : (bt a0 x3_2) ≥ 65
                        · rw [if_pos c43] at H
                          have c43b0 : decide (65 ≤ (bt a0 x3_2)) = true := decide_eq_true c43
                          clear c43
                          by_cases c44 : (bt a0 x3_2) ≤ 90
                          · rw [if_pos c44] at H
                            have c44b0 : decide ((bt a0 x3_2) ≤ 90) = true := decide_eq_true c44
                            clear c44
                            have H' := Aside0.mk H
                            clear H
                            go_wp2
                            go_meet
                            case rel => exact ⟨_, (true), (by first | rfl | (simp; done) | (simp [*]; done)), H', ⟨by have := HJ1.out; have := HK2.out; first | omega | exact Nat.le_refl _⟩, by repeat (first | exact Drawn0.refl _ | apply Drawn0.step)⟩
                          · rw [if_neg c44] at H
                            have c44b0 : decide ((bt a0 x3_2) ≤ 90) = false := decide_eq_false c44
                            clear c44
                            by_cases c45 : (bt a0 x3_2) ≥ 97
                            · rw [if_pos c45] at H
                              have c45b0 : decide (97 ≤ (bt a0 x3_2)) = true := decide_eq_true c45
                              clear c45
                              have H' := Aside0.mk H
                              clear H
                              go_wp2
                              go_meet
                              case rel => exact ⟨_, (decide ((bt a0 x3_2) ≤ 122)), (by first | rfl | (simp; done) | (simp [*]; done)), H', ⟨by have := HJ1.out; have := HK2.out; first | omega | exact Nat.le_refl _⟩, by repeat (first | exact Drawn0.refl _ | apply Drawn0.step)⟩
                            · rw [if_neg c45] at H
                              have c45b0 : decide (97 ≤ (bt a0 x3_2)) = false := decide_eq_false c45
                              clear c45
                              have H' := Aside0.mk H
                              clear H
                              go_wp2
                              go_meet
                              case rel => exact ⟨_, (false), (by first | rfl | (simp; done) | (simp [*]; done)), H', ⟨by have := HJ1.out; have := HK2.out; first | omega | exact Nat.le_refl _⟩, by repeat (first | exact Drawn0.refl _ | apply Drawn0.step)⟩
                        · rw [if_neg c43] at H
                          have c43b0 : decide (65 ≤ (bt a0 x3_2)) = false := decide_eq_false c43
                          clear c43
                          by_cases c46 : (bt a0 x3_2) ≥ 97
                          · rw [if_pos c46] at H
                            have c46b0 : decide (97 ≤ (bt a0 x3_2)) = true := decide_eq_true c46
                            clear c46
                            have H' := Aside0.mk H
                            clear H
                            go_wp2
                            go_meet
                            case rel => exact ⟨_, (decide ((bt a0 x3_2) ≤ 122)), (by first | rfl | (simp; done) | (simp [*]; done)), H', ⟨by have := HJ1.out; have := HK2.out; first | omega | exact Nat.le_refl _⟩, by repeat (first | exact Drawn0.refl _ | apply Drawn0.step)⟩
                          · rw [if_neg c46] at H
                            have c46b0 : decide (97 ≤ (bt a0 x3_2)) = false := decide_eq_false c46
                            clear c46
                            have H' := Aside0.mk H
                            clear H
                            go_wp2
                            go_meet
                            case rel => exact ⟨_, (false), (by first | rfl | (simp; done) | (simp [*]; done)), H', ⟨by have := HJ1.out; have := HK2.out; first | omega | exact Nat.le_refl _⟩, by repeat (first | exact Drawn0.refl _ | apply Drawn0.step)⟩
                    · rw [if_neg c41] at H
                      have c41b0 : decide (48 ≤ (bt a0 x3_2)) = false := decide_eq_false c41
                      clear c41
                      (first | rw [c41b0] | (simp only [i64_w, i32_w]; rw [c41b0]) | skip)
                      by_cases c47 : (bt a0 x3_2) ≥ 65
                      · rw [if_pos c47] at H
                        have c47b0 : decide (65 ≤ (bt a0 x3_2)) = true := decide_eq_true c47
                        clear c47
                        by_cases c48 : (bt a0 x3_2) ≤ 90
                        · rw [if_pos c48] at H
                          have c48b0 : decide ((bt a0 x3_2) ≤ 90) = true := decide_eq_true c48
                          clear c48
                          have H' := Aside0.mk H
                          clear H
                          go_wp2
                          go_meet
                          case rel => exact ⟨_, (true), (by first | rfl | (simp; done) | (simp [*]; done)), H', ⟨by have := HJ1.out; have := HK2.out; first | omega | exact Nat.le_refl _⟩, by repeat (first | exact Drawn0.refl _ | apply Drawn0.step)⟩
                        · rw [if_neg c48] at H
                          have c48b0 : decide ((bt a0 x3_2) ≤ 90) = false := decide_eq_false c48
                          clear c48
                          by_cases c49 : (bt a0 x3_2) ≥ 97
                          · rw [if_pos c49] at H
                            have c49b0 : decide (97 ≤ (bt a0 x3_2)) = true := decide_eq_true c49
                            clear c49
                            have H' := Aside0.mk H
                            clear H
                            go_wp2
                            go_meet
                            case rel => exact ⟨_, (decide ((bt a0 x3_2) ≤ 122)), (by first | rfl | (simp; done) | (simp [*]; done)), H', ⟨by have := HJ1.out; have := HK2.out; first | omega | exact Nat.le_refl _⟩, by repeat (first | exact Drawn0.refl _ | apply Drawn0.step)⟩
                          · rw [if_neg c49] at H
                            have c49b0 : decide (97 ≤ (bt a0 x3_2)) = false := decide_eq_false c49
                            clear c49
                            have H' := Aside0.mk H
                            clear H
                            go_wp2
                            go_meet
                            case rel => exact ⟨_, (false), (by first | rfl | (simp; done) | (simp [*]; done)), H', ⟨by have := HJ1.out; have := HK2.out; first | omega | exact Nat.le_refl _⟩, by repeat (first | exact Drawn0.refl _ | apply Drawn0.step)⟩
                      · rw [if_neg c47] at H
                        have c47b0 : decide (65 ≤ (bt a0 x3_2)) = false := decide_eq_false c47
                        clear c47
                        by_cases c50 : (bt a0 x3_2) ≥ 97
                        · rw [if_pos c50] at H
                          have c50b0 : decide (97 ≤ (bt a0 x3_2)) = true := decide_eq_true c50
                          clear c50
                          have H' := Aside0.mk H
                          clear H
                          go_wp2
                          go_meet
                          case rel => exact ⟨_, (decide ((bt a0 x3_2) ≤ 122)), (by first | rfl | (simp; done) | (simp [*]; done)), H', ⟨by have := HJ1.out; have := HK2.out; first | omega | exact Nat.le_refl _⟩, by repeat (first | exact Drawn0.refl _ | apply Drawn0.step)⟩
                        · rw [if_neg c50] at H
                          have c50b0 : decide (97 ≤ (bt a0 x3_2)) = false := decide_eq_false c50
                          clear c50
                          have H' := Aside0.mk H
                          clear H
                          go_wp2
                          go_meet
                          case rel => exact ⟨_, (false), (by first | rfl | (simp; done) | (simp [*]; done)), H', ⟨by have := HJ1.out; have := HK2.out; first | omega | exact Nat.le_refl _⟩, by repeat (first | exact Drawn0.refl _ | apply Drawn0.step)⟩
                  case rest =>
                    clear HC40
                    try clear c1
                    try clear p1
                    try clear q1
                    try clear hx1
                    try clear c2
                    try clear p2
                    try clear q2
                    try clear hx2
                    try clear c3
                    try clear c3b0
                    try clear c3b1
                    try clear p3
                    try clear q3
                    try clear hx3
                    try clear c4
                    try clear c4b0
                    try clear c4b1
                    try clear c5
                    try clear p5
                    try clear q5
                    try clear hx5
                    try clear qi5
                    try clear c6
                    try clear p6
                    try clear c7
                    try clear c7b0
                    try clear c8
                    try clear c8b0
                    try clear p9
                    try clear q9
                    try clear hx9
                    try clear c11
                    try clear p12
                    try clear q12
                    try clear hx12
                    try clear c13
                    try clear c13b0
                    try clear c13b1
                    try clear p14
                    try clear q14
                    try clear hx14
                    try clear c15
                    try clear c15b0
                    try clear c15b1
                    try clear c16
                    try clear c16b0
                    try clear c16b1
                    try clear c17
                    try clear c17b0
                    try clear c17b1
                    try clear p18
                    try clear q18
                    try clear hx18
                    try clear c19
                    try clear c19b0
                    try clear c19b1
                    try clear c20
                    try clear c20b0
                    try clear c20b1
                    try clear c21
                    try clear c21b0
                    try clear c21b1
                    try clear c22
                    try clear c23
                    try clear c23b0
                    try clear c24
                    try clear c24b0
                    try clear p25
                    try clear q25
                    try clear hx25
                    try clear c26
                    try clear c26b0
                    try clear c26b1
                    try clear c27
                    try clear c27b0
                    try clear c29
                    try clear c29b0
                    try clear c30
                    try clear c30b0
                    try clear p31
                    try clear q31
                    try clear hx31
                    try clear c33
                    try clear c35
                    try clear c35b0
                    try clear c36
                    try clear c36b0
                    try clear p37
                    try clear q37
                    try clear hx37
                    try clear c39
                    try clear c41
                    try clear c41b0
                    try clear c42
                    try clear c42b0
                    try clear c43
                    try clear c43b0
                    try clear c44
                    try clear c44b0
                    try clear c45
                    try clear c45b0
                    try clear c46
                    try clear c46b0
                    try clear c47
                    try clear c47b0
                    try clear c48
                    try clear c48b0
                    try clear c49
                    try clear c49b0
                    try clear c50
                    try clear c50b0
                    try clear p1
                    try clear p12
                    try clear p14
                    try clear p18
                    try clear p2
                    try clear p25
                    try clear p31
                    try clear p37
                    try clear p5
                    try clear p6
                    try clear p9
                    try clear q1
                    try clear q12
                    try clear q14
                    try clear q18
                    try clear q25
                    try clear q31
                    try clear q37
                    try clear q5
                    try clear q9
                    obtain ⟨kq, x5_39, rfl, HA, HJ39, ⟨mc39, rfl⟩⟩ := hcut
                    cases kq with
                    | zero => exact absurd HA.out (by simp [abutmentref11_Name.j3])
                    | succ kj39 =>
                      have H := HA.out
                      clear HA
                      simp only [abutmentref11_Name.j3] at H
                      have H' := Aside0.mk H
                      clear H
                      go_wp2
                      go_loopg [5, 7] kj39 (fun kq v5 v7 w' => ∃ (x5_4 : Bool) (x7_4 : Int), v5 = .bool x5_4 ∧ v7 = .int .i64 x7_4 ∧ Aside0 (abutmentref11_Name.l2 kq a0 x3_2 (bt a0 x3_2) x5_4 (⟨#[45, 46, 95, 126, 33, 36, 38, 39, 40, 41, 42, 43, 44, 59, 61]⟩ : ByteArray) x7_4 = some r) ∧ Aside0 (kq ≤ kj39) ∧ Drawn0 w w')
                      case atStart => exact ⟨(x5_39), (0), (by first | rfl | (simp; done) | (simp [*]; done)), (by first | rfl | (simp; done) | (simp [*]; done)), H', ⟨Nat.le_refl _⟩, by repeat (first | exact Drawn0.refl _ | apply Drawn0.step)⟩
                      case round =>
                        clear H'
                        try clear c1
                        try clear p1
                        try clear q1
                        try clear hx1
                        try clear c2
                        try clear p2
                        try clear q2
                        try clear hx2
                        try clear c3
                        try clear c3b0
                        try clear c3b1
                        try clear p3
                        try clear q3
                        try clear hx3
                        try clear c4
                        try clear c4b0
                        try clear c4b1
                        try clear c5
                        try clear p5
                        try clear q5
                        try clear hx5
                        try clear qi5
                        try clear c6
                        try clear p6
                        try clear c7
                        try clear c7b0
                        try clear c8
                        try clear c8b0
                        try clear p9
                        try clear q9
                        try clear hx9
                        try clear c11
                        try clear p12
                        try clear q12
                        try clear hx12
                        try clear c13
                        try clear c13b0
                        try clear c13b1
                        try clear p14
                        try clear q14
                        try clear hx14
                        try clear c15
                        try clear c15b0
                        try clear c15b1
                        try clear c16
                        try clear c16b0
                        try clear c16b1
                        try clear c17
                        try clear c17b0
                        try clear c17b1
                        try clear p18
                        try clear q18
                        try clear hx18
                        try clear c19
                        try clear c19b0
                        try clear c19b1
                        try clear c20
                        try clear c20b0
                        try clear c20b1
                        try clear c21
                        try clear c21b0
                        try clear c21b1
                        try clear c22
                        try clear c23
                        try clear c23b0
                        try clear c24
                        try clear c24b0
                        try clear p25
                        try clear q25
                        try clear hx25
                        try clear c26
                        try clear c26b0
                        try clear c26b1
                        try clear c27
                        try clear c27b0
                        try clear c29
                        try clear c29b0
                        try clear c30
                        try clear c30b0
                        try clear p31
                        try clear q31
                        try clear hx31
                        try clear c33
                        try clear c35
                        try clear c35b0
                        try clear c36
                        try clear c36b0
                        try clear p37
                        try clear q37
                        try clear hx37
                        try clear c39
                        try clear c41
                        try clear c41b0
                        try clear c42
                        try clear c42b0
                        try clear c43
                        try clear c43b0
                        try clear c44
                        try clear c44b0
                        try clear c45
                        try clear c45b0
                        try clear c46
                        try clear c46b0
                        try clear c47
                        try clear c47b0
                        try clear c48
                        try clear c48b0
                        try clear c49
                        try clear c49b0
                        try clear c50
                        try clear c50b0
                        try clear p1
                        try clear p12
                        try clear p14
                        try clear p18
                        try clear p2
                        try clear p25
                        try clear p3
                        try clear p31
                        try clear p37
                        try clear p5
                        try clear p6
                        try clear p9
                        try clear q1
                        try clear q12
                        try clear q14
                        try clear q18
                        try clear q2
                        try clear q25
                        try clear q3
                        try clear q31
                        try clear q37
                        try clear q5
                        try clear q9
                        obtain ⟨x5_4, x7_4, rfl, rfl, HA, HK4, ⟨m4, rfl⟩⟩ := hrel
                        cases gk with
                        | zero => exact absurd HA.out (by simp [abutmentref11_Name.l2])
                        | succ k4 =>
                          have H := HA.out
                          clear HA
                          simp only [abutmentref11_Name.l2] at H
                          by_cases c51 : x7_4 < ((⟨#[45, 46, 95, 126, 33, 36, 38, 39, 40, 41, 42, 43, 44, 59, 61]⟩ : ByteArray).size : Int)
                          · rw [if_pos c51] at H
                            have c51b0 : decide (x7_4 < ((⟨#[45, 46, 95, 126, 33, 36, 38, 39, 40, 41, 42, 43, 44, 59, 61]⟩ : ByteArray).size : Int)) = true := decide_eq_true c51
                            try have c51b09 : decide (x7_4 < (15 : Int)) = true := c51b0
                            clear c51
                            by_cases c52 : x5_4 = true
                            · subst c52
                              have H1 : (abutmentref11_Name.l2 k4 a0 x3_2 (bt a0 x3_2) true (⟨#[45, 46, 95, 126, 33, 36, 38, 39, 40, 41, 42, 43, 44, 59, 61]⟩ : ByteArray) (wrap64 (x7_4 + 1))) = some r := by rw [if_pos rfl] at H; exact H
                              clear H
                              have H := H1
                              clear H1
                              have H' := Aside0.mk H
                              clear H
                              go_wp2
                              go_roundg k4
                              case measure => have := HJ1.out; have := HK2.out; have := HJ39.out; have := HK4.out; omega
                              case rel => exact ⟨(true), (wrap64 (x7_4 + 1)), (by first | rfl | (simp; done) | (simp [*]; done)), (by first | rfl | (simp; done) | (simp [*]; done)), H', ⟨by have := HJ1.out; have := HK2.out; have := HJ39.out; have := HK4.out; omega⟩, by repeat (first | exact Drawn0.refl _ | apply Drawn0.step)⟩
                            · replace c52 := Bool.eq_false_iff.mpr c52
                              subst c52
                              have H1 : (if 0 ≤ x7_4 then (abutmentref11_Name.l2 k4 a0 x3_2 (bt a0 x3_2) ((bt (⟨#[45, 46, 95, 126, 33, 36, 38, 39, 40, 41, 42, 43, 44, 59, 61]⟩ : ByteArray) x7_4) == (bt a0 x3_2)) (⟨#[45, 46, 95, 126, 33, 36, 38, 39, 40, 41, 42, 43, 44, 59, 61]⟩ : ByteArray) (wrap64 (x7_4 + 1))) else (none)) = some r := by rw [if_neg (show ¬ (false = true) by decide)] at H; exact H
                              clear H
                              have H := H1
                              clear H1
                              by_cases c53 : 0 ≤ x7_4
                              · rw [if_pos c53] at H
                                have c53b0 : decide (0 ≤ x7_4) = true := decide_eq_true c53
                                clear c53
                                have H' := Aside0.mk H
                                clear H
                                have p54 : 0 ≤ (x7_4 : Int) := of_decide_eq_true (by first | (with_reducible assumption) | assumption)
                                have q54 : x7_4 < (15 : Int) := of_decide_eq_true (by first | (with_reducible assumption) | assumption)
                                have hx54 := bt_at (⟨#[45, 46, 95, 126, 33, 36, 38, 39, 40, 41, 42, 43, 44, 59, 61]⟩ : ByteArray) x7_4
                                replace p54 := eq_true p54
                                replace q54 := eq_true q54
                                go_wp2
                                go_roundg k4
                                case measure => have := HJ1.out; have := HK2.out; have := HJ39.out; have := HK4.out; omega
                                case rel => exact ⟨(((bt (⟨#[45, 46, 95, 126, 33, 36, 38, 39, 40, 41, 42, 43, 44, 59, 61]⟩ : ByteArray) x7_4) == (bt a0 x3_2))), (wrap64 (x7_4 + 1)), (by first | rfl | (simp; done) | (simp [*]; done)), (by first | rfl | (simp; done) | (simp [*]; done)), H', ⟨by have := HJ1.out; have := HK2.out; have := HJ39.out; have := HK4.out; omega⟩, by repeat (first | exact Drawn0.refl _ | apply Drawn0.step)⟩
                              · rw [if_neg c53] at H
                                exact absurd H (by simp)
                          · rw [if_neg c51] at H
                            have c51b0 : decide (x7_4 < ((⟨#[45, 46, 95, 126, 33, 36, 38, 39, 40, 41, 42, 43, 44, 59, 61]⟩ : ByteArray).size : Int)) = false := decide_eq_false c51
                            try have c51b09 : decide (x7_4 < (15 : Int)) = false := c51b0
                            clear c51
                            by_cases c55 : x5_4 = true
                            · subst c55
                              have H1 : (abutmentref11_Name.l1 k4 a0 (wrap64 (x3_2 + 1))) = some r := by rw [if_pos rfl] at H; exact H
                              clear H
                              have H := H1
                              clear H1
                              have H' := Aside0.mk H
                              clear H
                              go_wp2
                              go_roundg k4
                              case measure => have := HJ1.out; have := HK2.out; have := HJ39.out; have := HK4.out; omega
                              case rel => exact ⟨(wrap64 (x3_2 + 1)), (by first | rfl | (simp; done) | (simp [*]; done)), H', ⟨by have := HJ1.out; have := HK2.out; have := HJ39.out; have := HK4.out; omega⟩, by repeat (first | exact Drawn0.refl _ | apply Drawn0.step)⟩
                            · replace c55 := Bool.eq_false_iff.mpr c55
                              subst c55
                              have H1 : (some x3_2) = some r := by rw [if_neg (show ¬ (false = true) by decide)] at H; exact H
                              clear H
                              have H := H1
                              clear H1
                              obtain rfl := Option.some.inj H
                              go_wp2
                              go_ret
                              exact ⟨by first | rfl | (simp; done) | (simp [*]; done), by repeat (first | exact Drawn0.refl _ | apply Drawn0.step)⟩
              · rw [if_neg c24] at H
                exact absurd H (by simp)
            · rw [if_neg c23] at H
              have c23b0 : decide (x3_2 < (a0.size : Int)) = false := decide_eq_false c23
              clear c23
              obtain rfl := Option.some.inj H
              go_wp2
              go_ret
              exact ⟨by first | rfl | (simp; done) | (simp [*]; done), by repeat (first | exact Drawn0.refl _ | apply Drawn0.step)⟩

end Go.Proofs.Ytdjmgmiaognncaa.X
