/- Part 2 of the texts behind the claim on TargetOut: contracts of the functions that it reaches, and plain laws about them. No conditions of its own. -/
import Derived.Test.YtdjmgmiaognncaaDoorCTargetOut1
import Derived.Lib.Strings
import Derived.Laws.CopyOwn
import Derived.Laws.Tables
import Derived.Test.YtdjmgmiaognncaaDoorCTargetOutW2
namespace Go.Proofs.YtdjmgmiaognncaaDoor.X
open Go.RowKit Go.Proofs.YtdjmgmiaognncaaDoorW.PrintWords Go.Proofs.YtdjmgmiaognncaaDoorW.PrintLast Go.Proofs.YtdjmgmiaognncaaDoorW.PrintMore
attribute [local go_sem] max2_int min2_int max_two min_two max_three min_three max_four min_four   -- for this text's walks alone
set_option linter.unusedVariables false
set_option linter.unusedSimpArgs false

/-! ### pure text 0: base -/
theorem snoc_cases {α : Type} (l : List α) : l = [] ∨ ∃ l' c, l = l' ++ [c] := by
  rcases List.eq_nil_or_concat l with h | ⟨l', c, h⟩
  · exact .inl h
  · exact .inr ⟨l', c, by simpa using h⟩
theorem wrap_id (x : Int) (h1 : -9223372036854775808 ≤ x) (h2 : x ≤ 9223372036854775807) : wrap64 x = x := by unfold wrap64; omega
/-- A blank, or a tab. -/
def bl (c : UInt8) : Bool := c == 32 || c == 9
def dropE {α : Type} (p : α → Bool) (l : List α) : List α := (l.reverse.dropWhile p).reverse
theorem dropE_nil {α : Type} (p : α → Bool) : dropE p [] = [] := rfl
theorem dropE_snoc {α : Type} (p : α → Bool) (l : List α) (c : α) : dropE p (l ++ [c]) = if p c = true then dropE p l else l ++ [c] := by
  unfold dropE
  rw [List.reverse_append]
  simp only [List.reverse_cons, List.reverse_nil, List.nil_append, List.singleton_append, List.dropWhile_cons]
  split <;> simp
def trimL (l : List UInt8) : List UInt8 := dropE bl (l.dropWhile bl)
def trimB (s : ByteArray) : ByteArray := ⟨(trimL s.data.toList).toArray⟩
theorem size_list (s : ByteArray) : s.size = s.data.toList.length := Lib.size_eq s
theorem bt_list (s : ByteArray) (i : Nat) (h : i < s.data.toList.length) : bt s (i : Int) = ((s.data.toList[i]'h).toNat : Int) := by
  have h2 : i < s.size := by rw [size_list]; exact h
  have := bt_at s (i : Int) (by simpa using h2)
  rw [← this]
  rfl
theorem u8_eq (c d : UInt8) : ((c.toNat : Int) = (d.toNat : Int)) ↔ c = d := ⟨fun h => UInt8.toNat_inj.1 (by omega), fun h => by rw [h]⟩
theorem bl_int (c : UInt8) : (if (c.toNat : Int) = 32 then some true else some (((c.toNat : Int)) == 9)) = some (bl c) := by
  have h32 : ((c.toNat : Int) = 32) ↔ c = 32 := u8_eq c 32
  have h9 : ((c.toNat : Int) = 9) ↔ c = 9 := u8_eq c 9
  unfold bl
  by_cases e : c = 32
  · rw [if_pos (h32.2 e)]; simp [e]
  · rw [if_neg (fun h => e (h32.1 h))]
    by_cases e2 : c = 9
    · rw [h9.2 e2]; simp [e2]
    · have e3 : ((c.toNat : Int) == 9) = false := beq_eq_false_iff_ne.2 (fun h => e2 (h9.1 h))
      simp [e, e2, e3]
theorem ext_list (s : ByteArray) (a b : Nat) : s.extract a b = ⟨((s.data.toList.drop a).take (b - a)).toArray⟩ := Lib.extract_eq s a b
theorem take_snoc' {α : Type} (l : List α) (i : Nat) (h : i < l.length) : l.take (i + 1) = l.take i ++ [l[i]] := by
  rw [List.take_succ_eq_append_getElem h]
/-- A letter A to Z as a to z. -/
def lowU (c : UInt8) : UInt8 := if 65 ≤ c.toNat ∧ c.toNat ≤ 90 then c + 32 else c
def lowL (l : List UInt8) : List UInt8 := l.map lowU
def lowB (s : ByteArray) : ByteArray := ⟨(lowL s.data.toList).toArray⟩
def foldB (a b : ByteArray) : Bool := lowL a.data.toList == lowL b.data.toList
theorem lowU_int (c : UInt8) : ((lowU c).toNat : Int) = if 65 ≤ (c.toNat : Int) ∧ (c.toNat : Int) ≤ 90 then (c.toNat : Int) + 32 else (c.toNat : Int) := by
  unfold lowU
  by_cases h : 65 ≤ c.toNat ∧ c.toNat ≤ 90
  · rw [if_pos h, if_pos (by omega), UInt8.toNat_add]
    have : (32 : UInt8).toNat = 32 := rfl
    omega
  · rw [if_neg h, if_neg (by omega)]
theorem dropWhile_len {α : Type} (p : α → Bool) (l : List α) : (l.dropWhile p).length ≤ l.length := (List.dropWhile_suffix p).length_le
theorem dropE_len {α : Type} (p : α → Bool) (l : List α) : (dropE p l).length ≤ l.length := by
  unfold dropE
  have := dropWhile_len p l.reverse
  simpa using this
theorem trimB_size (s : ByteArray) : (trimB s).size ≤ s.size := by
  rw [size_list, size_list]
  unfold trimB trimL
  exact Nat.le_trans (dropE_len _ _) (dropWhile_len _ _)


end Go.Proofs.YtdjmgmiaognncaaDoor.X
namespace Go.Proofs.YtdjmgmiaognncaaDoor.X
open Go.RowKit Go.Proofs.YtdjmgmiaognncaaDoorW.PrintWords Go.Proofs.YtdjmgmiaognncaaDoorW.PrintLast Go.Proofs.YtdjmgmiaognncaaDoorW.PrintMore
attribute [local go_sem] max2_int min2_int max_two min_two max_three min_three max_four min_four   -- for this text's walks alone
set_option linter.unusedVariables false
set_option linter.unusedSimpArgs false

/-! ### target_Parse: function 11 -/
def parseOk (s : ByteArray) : Bool := octetVisible s && !decide (0 ≤ Lib.indexByte s.data.toList 35)
def retB (q : Int × ByteArray × ByteArray × Bool) : Int × ByteArray × ByteArray × Int := if q.2.2.2 = true then (q.1, q.2.1, q.2.2.1, 0) else (0, ⟨#[]⟩, ⟨#[]⟩, 11)
def target_Parse.f (a0 : ByteArray) (a1 : ByteArray) : Option (Int × ByteArray × ByteArray × Int) := if a1.size ≤ 140737488351232 then (if a1.toList = [] then some (0, ⟨#[]⟩, ⟨#[]⟩, 2) else if parseOk a1 = false then some (0, ⟨#[]⟩, ⟨#[]⟩, 11)
  else if a0.toList = [67, 79, 78, 78, 69, 67, 84] then (target_connect.f 1000000000 a1).bind fun q => some (retB q)
  else if bt a1 0 = 47 then some (1, ⟨#[]⟩, a1, 0)
  else if a1.toList = [42] then (if a0.toList = [79, 80, 84, 73, 79, 78, 83] then some (4, ⟨#[]⟩, ⟨#[]⟩, 0) else some (0, ⟨#[]⟩, ⟨#[]⟩, 11))
  else (target_absolute.f a1).bind fun q => some (retB q)) else none
set_option maxHeartbeats 8000000 in
set_option maxRecDepth 100000 in
theorem parse_empty (a0 a1 : ByteArray) (w : World) (he : (a1.toList == []) = true) :
    Calls Tryd.prog 11 #[.string a0, .string a1] w fun e w' => e = .returned (.tuple #[.agg #[.int .i64 0, .string (⟨#[]⟩ : ByteArray), .string (⟨#[]⟩ : ByteArray)], .int .i64 2]) ∧ Below w.heap.size w w' := by
  have he2 : a1.toList.isEmpty = true := by rw [List.isEmpty_iff]; exact beq_iff_eq.1 he

  go_enter Tryd.func11, Tryd.ntmps11
  go_upto_region 1 with (fail)
  generalize hX : World.alloc _ _ = X
  have HS := Aside0.mk (show X.heap[w.heap.size]? = some (.cells #[.string a1] 9 (0, 0)) by rw [← hX]; exact blk_alloc (blk_new _ _) _)
  have HR := Aside0.mk (show X.heap[w.heap.size + 1]? = some (.cells #[.int .i64 0, .string (⟨#[]⟩ : ByteArray), .string (⟨#[]⟩ : ByteArray)] 32 (0, 0)) by rw [← hX]; have h := blk_new (w.alloc (.cells #[.string a1] 9)) (.cells #[.int .i64 0, .string (⟨#[]⟩ : ByteArray), .string (⟨#[]⟩ : ByteArray)] 32); simpa using h)
  have BX := Aside0.mk (show Below w.heap.size w X by rw [← hX]; exact below_alloc (below_alloc (Below.refl _ w) _) _)
  clear hX
  have c0 : X.cell? ⟨w.heap.size, 0, none⟩ = some (.string a1) := blk_cell HS.out 0

  go_wp2_with (refine wpList_store_row rfl 32 (.tmp 4) (.tmp 11) rfl (w.heap.size + 1) #[.int .i64 0, .string (⟨#[]⟩ : ByteArray), .string (⟨#[]⟩ : ByteArray)] rfl rfl _ _ HR.out (by kernel_rfl) rfl (by simp [Value.oneCell']) ?_)

  refine bodyPost_ret (results_ct rfl _ _ (w.heap.size + 1) 32 #[.int .i64 0, .string (⟨#[]⟩ : ByteArray), .string (⟨#[]⟩ : ByteArray)] (0, 0) _ rfl (by exact setRow_heap _ _ _ _ _ _ HR.out) Tryd.underlying32 rfl (by kernel_rfl)) rfl ?_
  exact ⟨rfl, below_setRow BX.out (Nat.le_succ _) _⟩
theorem try_after {w Z W1 V : World} {O TT R : Nat} {c b : Bool} {x y z : Value} {cr : Array Value} {r1 : Int} {r2 r3 : ByteArray} (BZ : Below w.heap.size w Z) (hb : Below Z.heap.size Z W1) (hV : V = (W1.setRow TT #[.int .i64 r1, .string r2, .string r3]).setCell ⟨O, 0, none⟩ (.bool b)) (HO : Z.heap[O]? = some (.cells #[.bool c] 4 (0, 0))) (HT : Z.heap[TT]? = some (.cells #[x, y, z] 32 (0, 0))) (HR : Z.heap[R]? = some (.cells cr 32 (0, 0))) (h1 : O ≠ TT) (h2 : O ≠ R) (h3 : R ≠ TT) (hBT : w.heap.size ≤ TT) (hBO : w.heap.size ≤ O) :
    V.heap[O]? = some (.cells #[.bool b] 4 (0, 0)) ∧ V.heap[TT]? = some (.cells #[.int .i64 r1, .string r2, .string r3] 32 (0, 0)) ∧ V.heap[R]? = some (.cells cr 32 (0, 0)) ∧ Below w.heap.size w V := by
  subst hV
  have hO1 := (setRow_other W1 TT O #[.int .i64 r1, .string r2, .string r3] h1).trans (blk_below HO hb)
  have hT1 := setRow_heap W1 TT _ #[.int .i64 r1, .string r2, .string r3] _ _ (blk_below HT hb)
  have hR1 := (setRow_other W1 TT R #[.int .i64 r1, .string r2, .string r3] h3).trans (blk_below HR hb)
  exact ⟨blk_put hO1 0 _ rfl, blk_far hT1 (fun h => h1 h.symm) _, blk_far hR1 (fun h => h2 h.symm) _, (below_setRow (below_step BZ hb) hBT _).setCell hBO _⟩
set_option maxHeartbeats 8000000 in
set_option maxRecDepth 100000 in
theorem parse_v_connect (a0 a1 : ByteArray) (w : World) (he : (a1.toList == []) = false)(HV : ∀ W, Calls Tryd.prog 31 #[.string a1] W fun e w' => e = .returned (.bool false) ∧ Below W.heap.size W w')(m1 : (a0.toList == [67, 79, 78, 78, 69, 67, 84]) = true) :
    Calls Tryd.prog 11 #[.string a0, .string a1] w fun e w' => e = .returned (.tuple #[.agg #[.int .i64 0, .string (⟨#[]⟩ : ByteArray), .string (⟨#[]⟩ : ByteArray)], .int .i64 11]) ∧ Below w.heap.size w w' := by
  have he2 : a1.toList.isEmpty = false := by rw [Bool.eq_false_iff]; intro hh; rw [List.isEmpty_iff] at hh; rw [hh] at he; cases he
  have hpos : 0 < a1.size := by
    rcases Nat.eq_zero_or_pos a1.size with h0 | h0
    · rw [Lib.toList_data] at he2
      have := size_list a1
      rw [h0] at this
      rw [List.isEmpty_eq_false_iff] at he2
      exact absurd (List.eq_nil_of_length_eq_zero this.symm) he2
    · exact h0

  have i0 : ((0 : Int) < (a1.size : Int)) = True := eq_true (by omega)
  have i1 : (0 < a1.size) = True := eq_true hpos
  have i2 : ((a1[0]'hpos).toNat : Int) = bt a1 0 := bt_at a1 0 hpos

  go_enter Tryd.func11, Tryd.ntmps11
  go_upto_region 1 with (fail)
  generalize hX : World.alloc _ _ = X
  have HS := Aside0.mk (show X.heap[w.heap.size]? = some (.cells #[.string a1] 9 (0, 0)) by rw [← hX]; exact blk_alloc (blk_new _ _) _)
  have HR := Aside0.mk (show X.heap[w.heap.size + 1]? = some (.cells #[.int .i64 0, .string (⟨#[]⟩ : ByteArray), .string (⟨#[]⟩ : ByteArray)] 32 (0, 0)) by rw [← hX]; have h := blk_new (w.alloc (.cells #[.string a1] 9)) (.cells #[.int .i64 0, .string (⟨#[]⟩ : ByteArray), .string (⟨#[]⟩ : ByteArray)] 32); simpa using h)
  have BX := Aside0.mk (show Below w.heap.size w X by rw [← hX]; exact below_alloc (below_alloc (Below.refl _ w) _) _)
  clear hX
  have c0 : X.cell? ⟨w.heap.size, 0, none⟩ = some (.string a1) := blk_cell HS.out 0

  go_upto_region 4 with (fail)
  generalize hY : World.alloc X _ = Y
  have HT := Aside0.mk (show Y.heap[X.heap.size]? = some (.cells #[.int .i64 0, .string (⟨#[]⟩ : ByteArray), .string (⟨#[]⟩ : ByteArray)] 32 (0, 0)) by rw [← hY]; exact blk_new _ _)
  have HS1 := Aside0.mk (show Y.heap[w.heap.size]? = some (.cells #[.string a1] 9 (0, 0)) by rw [← hY]; exact blk_alloc HS.out _)
  have HR1 := Aside0.mk (show Y.heap[w.heap.size + 1]? = some (.cells #[.int .i64 0, .string (⟨#[]⟩ : ByteArray), .string (⟨#[]⟩ : ByteArray)] 32 (0, 0)) by rw [← hY]; exact blk_alloc HR.out _)
  have BY := Aside0.mk (show Below w.heap.size w Y by rw [← hY]; exact below_alloc BX.out _)
  have HRT := Aside0.mk (show w.heap.size + 1 ≠ X.heap.size by have := blk_lt HR.out; omega)
  clear hY c0 HS HR
  have hxs := below_size BX.out
  have HXS := Aside0.mk hxs
  clear hxs BX
  generalize X.heap.size = TT at *
  have c0 : Y.cell? ⟨w.heap.size, 0, none⟩ = some (.string a1) := blk_cell HS1.out 0
  go_upto_region 5 with (first
    | (go_at_call 31; (with_reducible refine (HV _).mono ?_); rintro e w1 ⟨rfl, hb⟩; have HT2 := Aside0.mk (blk_below HT.out hb); have HS2 := Aside0.mk (blk_below HS1.out hb); have HR2 := Aside0.mk (blk_below HR1.out hb); have B2 := Aside0.mk (below_step BY.out hb); have c1 := blk_cell HS2.out 0; clear hb HT HS1 HR1 BY c0)
    | (go_at_call 32; (with_reducible refine (Tryd.strings_Contains_one a1 35 _).mono ?_); rintro e w' ⟨rfl, hw⟩; rw [hw]; clear hw))
  generalize hO : w1.heap.size = O at *
  have HO := Aside0.mk hO
  clear hO

  generalize hZ : World.alloc w1 _ = Z
  have HO3 := Aside0.mk (show Z.heap[O]? = some (.cells #[.bool false] 4 (0, 0)) by rw [← hZ, ← HO.out]; exact blk_new _ _)
  have HT3 := Aside0.mk (show Z.heap[TT]? = some (.cells #[.int .i64 0, .string (⟨#[]⟩ : ByteArray), .string (⟨#[]⟩ : ByteArray)] 32 (0, 0)) by rw [← hZ]; exact blk_alloc HT2.out _)
  have HS3 := Aside0.mk (show Z.heap[w.heap.size]? = some (.cells #[.string a1] 9 (0, 0)) by rw [← hZ]; exact blk_alloc HS2.out _)
  have HR3 := Aside0.mk (show Z.heap[w.heap.size + 1]? = some (.cells #[.int .i64 0, .string (⟨#[]⟩ : ByteArray), .string (⟨#[]⟩ : ByteArray)] 32 (0, 0)) by rw [← hZ]; exact blk_alloc HR2.out _)
  have BZ := Aside0.mk (show Below w.heap.size w Z by rw [← hZ]; exact below_alloc B2.out _)
  have HOT := Aside0.mk (show O ≠ TT by have h1 := blk_lt HT2.out; have h2 := HO.out; intro h3; omega)
  have HOR := Aside0.mk (show O ≠ w.heap.size + 1 by have h1 := blk_lt HR2.out; have h2 := HO.out; intro h3; omega)
  have HBO := Aside0.mk (show w.heap.size ≤ O by have h1 := blk_lt HR2.out; have h2 := HO.out; omega)
  clear hZ HO HT2 HS2 HR2 B2 c1
  have cO : Z.cell? ⟨O, 0, none⟩ = some (.bool false) := blk_cell HO3.out 0
  have cS : Z.cell? ⟨w.heap.size, 0, none⟩ = some (.string a1) := blk_cell HS3.out 0

  go_upto_region 13 with (go_at_call 33; (with_reducible refine (try_off 34 _ O _ TT HO3).mono ?_); rintro e w' ⟨rfl, rfl⟩)

  go_wp2_with (refine wpList_store_row rfl 32 (.tmp 4) (.tmp 44) rfl (w.heap.size + 1) #[.int .i64 0, .string (⟨#[]⟩ : ByteArray), .string (⟨#[]⟩ : ByteArray)] rfl rfl _ _ HR3.out (by kernel_rfl) rfl (by simp [Value.oneCell']) ?_)

  refine bodyPost_ret (results_ct rfl _ _ (w.heap.size + 1) 32 #[.int .i64 0, .string (⟨#[]⟩ : ByteArray), .string (⟨#[]⟩ : ByteArray)] (0, 0) _ rfl (by exact setRow_heap _ _ _ _ _ _ HR3.out) Tryd.underlying32 rfl (by kernel_rfl)) rfl ?_
  exact ⟨rfl, below_setRow BZ.out (Nat.le_succ _) _⟩
set_option maxHeartbeats 8000000 in
set_option maxRecDepth 100000 in
theorem parse_v_absolute (a0 a1 : ByteArray) (w : World) (he : (a1.toList == []) = false)(HV : ∀ W, Calls Tryd.prog 31 #[.string a1] W fun e w' => e = .returned (.bool false) ∧ Below W.heap.size W w')(m1 : (a0.toList == [67, 79, 78, 78, 69, 67, 84]) = false)(s1 : (bt a1 0 == 47) = false)(s2 : (a1.toList == [42]) = false) :
    Calls Tryd.prog 11 #[.string a0, .string a1] w fun e w' => e = .returned (.tuple #[.agg #[.int .i64 0, .string (⟨#[]⟩ : ByteArray), .string (⟨#[]⟩ : ByteArray)], .int .i64 11]) ∧ Below w.heap.size w w' := by
  have he2 : a1.toList.isEmpty = false := by rw [Bool.eq_false_iff]; intro hh; rw [List.isEmpty_iff] at hh; rw [hh] at he; cases he
  have hpos : 0 < a1.size := by
    rcases Nat.eq_zero_or_pos a1.size with h0 | h0
    · rw [Lib.toList_data] at he2
      have := size_list a1
      rw [h0] at this
      rw [List.isEmpty_eq_false_iff] at he2
      exact absurd (List.eq_nil_of_length_eq_zero this.symm) he2
    · exact h0

  have i0 : ((0 : Int) < (a1.size : Int)) = True := eq_true (by omega)
  have i1 : (0 < a1.size) = True := eq_true hpos
  have i2 : ((a1[0]'hpos).toNat : Int) = bt a1 0 := bt_at a1 0 hpos

  go_enter Tryd.func11, Tryd.ntmps11
  go_upto_region 1 with (fail)
  generalize hX : World.alloc _ _ = X
  have HS := Aside0.mk (show X.heap[w.heap.size]? = some (.cells #[.string a1] 9 (0, 0)) by rw [← hX]; exact blk_alloc (blk_new _ _) _)
  have HR := Aside0.mk (show X.heap[w.heap.size + 1]? = some (.cells #[.int .i64 0, .string (⟨#[]⟩ : ByteArray), .string (⟨#[]⟩ : ByteArray)] 32 (0, 0)) by rw [← hX]; have h := blk_new (w.alloc (.cells #[.string a1] 9)) (.cells #[.int .i64 0, .string (⟨#[]⟩ : ByteArray), .string (⟨#[]⟩ : ByteArray)] 32); simpa using h)
  have BX := Aside0.mk (show Below w.heap.size w X by rw [← hX]; exact below_alloc (below_alloc (Below.refl _ w) _) _)
  clear hX
  have c0 : X.cell? ⟨w.heap.size, 0, none⟩ = some (.string a1) := blk_cell HS.out 0

  go_upto_region 4 with (fail)
  generalize hY : World.alloc X _ = Y
  have HT := Aside0.mk (show Y.heap[X.heap.size]? = some (.cells #[.int .i64 0, .string (⟨#[]⟩ : ByteArray), .string (⟨#[]⟩ : ByteArray)] 32 (0, 0)) by rw [← hY]; exact blk_new _ _)
  have HS1 := Aside0.mk (show Y.heap[w.heap.size]? = some (.cells #[.string a1] 9 (0, 0)) by rw [← hY]; exact blk_alloc HS.out _)
  have HR1 := Aside0.mk (show Y.heap[w.heap.size + 1]? = some (.cells #[.int .i64 0, .string (⟨#[]⟩ : ByteArray), .string (⟨#[]⟩ : ByteArray)] 32 (0, 0)) by rw [← hY]; exact blk_alloc HR.out _)
  have BY := Aside0.mk (show Below w.heap.size w Y by rw [← hY]; exact below_alloc BX.out _)
  have HRT := Aside0.mk (show w.heap.size + 1 ≠ X.heap.size by have := blk_lt HR.out; omega)
  clear hY c0 HS HR
  have hxs := below_size BX.out
  have HXS := Aside0.mk hxs
  clear hxs BX
  generalize X.heap.size = TT at *
  have c0 : Y.cell? ⟨w.heap.size, 0, none⟩ = some (.string a1) := blk_cell HS1.out 0
  go_upto_region 5 with (first
    | (go_at_call 31; (with_reducible refine (HV _).mono ?_); rintro e w1 ⟨rfl, hb⟩; have HT2 := Aside0.mk (blk_below HT.out hb); have HS2 := Aside0.mk (blk_below HS1.out hb); have HR2 := Aside0.mk (blk_below HR1.out hb); have B2 := Aside0.mk (below_step BY.out hb); have c1 := blk_cell HS2.out 0; clear hb HT HS1 HR1 BY c0)
    | (go_at_call 32; (with_reducible refine (Tryd.strings_Contains_one a1 35 _).mono ?_); rintro e w' ⟨rfl, hw⟩; rw [hw]; clear hw))
  generalize hO : w1.heap.size = O at *
  have HO := Aside0.mk hO
  clear hO

  generalize hZ : World.alloc w1 _ = Z
  have HO3 := Aside0.mk (show Z.heap[O]? = some (.cells #[.bool false] 4 (0, 0)) by rw [← hZ, ← HO.out]; exact blk_new _ _)
  have HT3 := Aside0.mk (show Z.heap[TT]? = some (.cells #[.int .i64 0, .string (⟨#[]⟩ : ByteArray), .string (⟨#[]⟩ : ByteArray)] 32 (0, 0)) by rw [← hZ]; exact blk_alloc HT2.out _)
  have HS3 := Aside0.mk (show Z.heap[w.heap.size]? = some (.cells #[.string a1] 9 (0, 0)) by rw [← hZ]; exact blk_alloc HS2.out _)
  have HR3 := Aside0.mk (show Z.heap[w.heap.size + 1]? = some (.cells #[.int .i64 0, .string (⟨#[]⟩ : ByteArray), .string (⟨#[]⟩ : ByteArray)] 32 (0, 0)) by rw [← hZ]; exact blk_alloc HR2.out _)
  have BZ := Aside0.mk (show Below w.heap.size w Z by rw [← hZ]; exact below_alloc B2.out _)
  have HOT := Aside0.mk (show O ≠ TT by have h1 := blk_lt HT2.out; have h2 := HO.out; intro h3; omega)
  have HOR := Aside0.mk (show O ≠ w.heap.size + 1 by have h1 := blk_lt HR2.out; have h2 := HO.out; intro h3; omega)
  have HBO := Aside0.mk (show w.heap.size ≤ O by have h1 := blk_lt HR2.out; have h2 := HO.out; omega)
  clear hZ HO HT2 HS2 HR2 B2 c1
  have cO : Z.cell? ⟨O, 0, none⟩ = some (.bool false) := blk_cell HO3.out 0
  have cS : Z.cell? ⟨w.heap.size, 0, none⟩ = some (.string a1) := blk_cell HS3.out 0

  go_upto_region 13 with (go_at_call 33; (with_reducible refine (try_off 35 _ O _ TT HO3).mono ?_); rintro e w' ⟨rfl, rfl⟩)

  go_wp2_with (refine wpList_store_row rfl 32 (.tmp 4) (.tmp 44) rfl (w.heap.size + 1) #[.int .i64 0, .string (⟨#[]⟩ : ByteArray), .string (⟨#[]⟩ : ByteArray)] rfl rfl _ _ HR3.out (by kernel_rfl) rfl (by simp [Value.oneCell']) ?_)

  refine bodyPost_ret (results_ct rfl _ _ (w.heap.size + 1) 32 #[.int .i64 0, .string (⟨#[]⟩ : ByteArray), .string (⟨#[]⟩ : ByteArray)] (0, 0) _ rfl (by exact setRow_heap _ _ _ _ _ _ HR3.out) Tryd.underlying32 rfl (by kernel_rfl)) rfl ?_
  exact ⟨rfl, below_setRow BZ.out (Nat.le_succ _) _⟩
set_option maxHeartbeats 8000000 in
set_option maxRecDepth 100000 in
theorem parse_v_slash (a0 a1 : ByteArray) (w : World) (he : (a1.toList == []) = false)(HV : ∀ W, Calls Tryd.prog 31 #[.string a1] W fun e w' => e = .returned (.bool false) ∧ Below W.heap.size W w')(m1 : (a0.toList == [67, 79, 78, 78, 69, 67, 84]) = false)(s1 : (bt a1 0 == 47) = true) :
    Calls Tryd.prog 11 #[.string a0, .string a1] w fun e w' => e = .returned (.tuple #[.agg #[.int .i64 0, .string (⟨#[]⟩ : ByteArray), .string (⟨#[]⟩ : ByteArray)], .int .i64 11]) ∧ Below w.heap.size w w' := by
  have he2 : a1.toList.isEmpty = false := by rw [Bool.eq_false_iff]; intro hh; rw [List.isEmpty_iff] at hh; rw [hh] at he; cases he
  have hpos : 0 < a1.size := by
    rcases Nat.eq_zero_or_pos a1.size with h0 | h0
    · rw [Lib.toList_data] at he2
      have := size_list a1
      rw [h0] at this
      rw [List.isEmpty_eq_false_iff] at he2
      exact absurd (List.eq_nil_of_length_eq_zero this.symm) he2
    · exact h0

  have i0 : ((0 : Int) < (a1.size : Int)) = True := eq_true (by omega)
  have i1 : (0 < a1.size) = True := eq_true hpos
  have i2 : ((a1[0]'hpos).toNat : Int) = bt a1 0 := bt_at a1 0 hpos

  go_enter Tryd.func11, Tryd.ntmps11
  go_upto_region 1 with (fail)
  generalize hX : World.alloc _ _ = X
  have HS := Aside0.mk (show X.heap[w.heap.size]? = some (.cells #[.string a1] 9 (0, 0)) by rw [← hX]; exact blk_alloc (blk_new _ _) _)
  have HR := Aside0.mk (show X.heap[w.heap.size + 1]? = some (.cells #[.int .i64 0, .string (⟨#[]⟩ : ByteArray), .string (⟨#[]⟩ : ByteArray)] 32 (0, 0)) by rw [← hX]; have h := blk_new (w.alloc (.cells #[.string a1] 9)) (.cells #[.int .i64 0, .string (⟨#[]⟩ : ByteArray), .string (⟨#[]⟩ : ByteArray)] 32); simpa using h)
  have BX := Aside0.mk (show Below w.heap.size w X by rw [← hX]; exact below_alloc (below_alloc (Below.refl _ w) _) _)
  clear hX
  have c0 : X.cell? ⟨w.heap.size, 0, none⟩ = some (.string a1) := blk_cell HS.out 0

  go_upto_region 4 with (fail)
  generalize hY : World.alloc X _ = Y
  have HT := Aside0.mk (show Y.heap[X.heap.size]? = some (.cells #[.int .i64 0, .string (⟨#[]⟩ : ByteArray), .string (⟨#[]⟩ : ByteArray)] 32 (0, 0)) by rw [← hY]; exact blk_new _ _)
  have HS1 := Aside0.mk (show Y.heap[w.heap.size]? = some (.cells #[.string a1] 9 (0, 0)) by rw [← hY]; exact blk_alloc HS.out _)
  have HR1 := Aside0.mk (show Y.heap[w.heap.size + 1]? = some (.cells #[.int .i64 0, .string (⟨#[]⟩ : ByteArray), .string (⟨#[]⟩ : ByteArray)] 32 (0, 0)) by rw [← hY]; exact blk_alloc HR.out _)
  have BY := Aside0.mk (show Below w.heap.size w Y by rw [← hY]; exact below_alloc BX.out _)
  have HRT := Aside0.mk (show w.heap.size + 1 ≠ X.heap.size by have := blk_lt HR.out; omega)
  clear hY c0 HS HR
  have hxs := below_size BX.out
  have HXS := Aside0.mk hxs
  clear hxs BX
  generalize X.heap.size = TT at *
  have c0 : Y.cell? ⟨w.heap.size, 0, none⟩ = some (.string a1) := blk_cell HS1.out 0
  go_upto_region 5 with (first
    | (go_at_call 31; (with_reducible refine (HV _).mono ?_); rintro e w1 ⟨rfl, hb⟩; have HT2 := Aside0.mk (blk_below HT.out hb); have HS2 := Aside0.mk (blk_below HS1.out hb); have HR2 := Aside0.mk (blk_below HR1.out hb); have B2 := Aside0.mk (below_step BY.out hb); have c1 := blk_cell HS2.out 0; clear hb HT HS1 HR1 BY c0)
    | (go_at_call 32; (with_reducible refine (Tryd.strings_Contains_one a1 35 _).mono ?_); rintro e w' ⟨rfl, hw⟩; rw [hw]; clear hw))
  generalize hO : w1.heap.size = O at *
  have HO := Aside0.mk hO
  clear hO

  generalize hZ : World.alloc w1 _ = Z
  have HO3 := Aside0.mk (show Z.heap[O]? = some (.cells #[.bool false] 4 (0, 0)) by rw [← hZ, ← HO.out]; exact blk_new _ _)
  have HT3 := Aside0.mk (show Z.heap[TT]? = some (.cells #[.int .i64 0, .string (⟨#[]⟩ : ByteArray), .string (⟨#[]⟩ : ByteArray)] 32 (0, 0)) by rw [← hZ]; exact blk_alloc HT2.out _)
  have HS3 := Aside0.mk (show Z.heap[w.heap.size]? = some (.cells #[.string a1] 9 (0, 0)) by rw [← hZ]; exact blk_alloc HS2.out _)
  have HR3 := Aside0.mk (show Z.heap[w.heap.size + 1]? = some (.cells #[.int .i64 0, .string (⟨#[]⟩ : ByteArray), .string (⟨#[]⟩ : ByteArray)] 32 (0, 0)) by rw [← hZ]; exact blk_alloc HR2.out _)
  have BZ := Aside0.mk (show Below w.heap.size w Z by rw [← hZ]; exact below_alloc B2.out _)
  have HOT := Aside0.mk (show O ≠ TT by have h1 := blk_lt HT2.out; have h2 := HO.out; intro h3; omega)
  have HOR := Aside0.mk (show O ≠ w.heap.size + 1 by have h1 := blk_lt HR2.out; have h2 := HO.out; intro h3; omega)
  have HBO := Aside0.mk (show w.heap.size ≤ O by have h1 := blk_lt HR2.out; have h2 := HO.out; omega)
  clear hZ HO HT2 HS2 HR2 B2 c1
  have cO : Z.cell? ⟨O, 0, none⟩ = some (.bool false) := blk_cell HO3.out 0
  have cS : Z.cell? ⟨w.heap.size, 0, none⟩ = some (.string a1) := blk_cell HS3.out 0

  go_upto_region 13 with (refine wpList_store_row rfl 32 (.tmp 6) (.tmp 32) rfl TT #[.int .i64 1, .string (⟨#[]⟩ : ByteArray), .string a1] rfl rfl _ _ HT3.out (by kernel_rfl) rfl (by simp [Value.oneCell']) ?_)

  generalize hV : World.setRow Z TT #[.int .i64 1, .string (⟨#[]⟩ : ByteArray), .string a1] = V
  have HO4 := Aside0.mk (show V.heap[O]? = some (.cells #[.bool false] 4 (0, 0)) by rw [← hV]; exact (setRow_other Z TT O _ HOT.out).trans HO3.out)
  have HT4 := Aside0.mk (show V.heap[TT]? = some (.cells #[.int .i64 1, .string (⟨#[]⟩ : ByteArray), .string a1] 32 (0, 0)) by rw [← hV]; exact setRow_heap _ _ _ _ _ _ HT3.out)
  have HR4 := Aside0.mk (show V.heap[w.heap.size + 1]? = some (.cells #[.int .i64 0, .string (⟨#[]⟩ : ByteArray), .string (⟨#[]⟩ : ByteArray)] 32 (0, 0)) by rw [← hV]; exact (setRow_other Z TT _ _ HRT.out).trans HR3.out)
  have BV := Aside0.mk (show Below w.heap.size w V by rw [← hV]; exact below_setRow BZ.out HXS.out _)
  clear hV cO cS
  have cO := blk_cell HO4.out 0

  go_wp2_with (refine wpList_store_row rfl 32 (.tmp 4) (.tmp 44) rfl (w.heap.size + 1) #[.int .i64 0, .string (⟨#[]⟩ : ByteArray), .string (⟨#[]⟩ : ByteArray)] rfl rfl _ _ HR4.out (by kernel_rfl) rfl (by simp [Value.oneCell']) ?_)

  refine bodyPost_ret (results_ct rfl _ _ (w.heap.size + 1) 32 #[.int .i64 0, .string (⟨#[]⟩ : ByteArray), .string (⟨#[]⟩ : ByteArray)] (0, 0) _ rfl (by exact setRow_heap _ _ _ _ _ _ HR4.out) Tryd.underlying32 rfl (by kernel_rfl)) rfl ?_
  exact ⟨rfl, below_setRow BV.out (Nat.le_succ _) _⟩
set_option maxHeartbeats 8000000 in
set_option maxRecDepth 100000 in
theorem parse_v_star (a0 a1 : ByteArray) (w : World) (he : (a1.toList == []) = false)(HV : ∀ W, Calls Tryd.prog 31 #[.string a1] W fun e w' => e = .returned (.bool false) ∧ Below W.heap.size W w')(m1 : (a0.toList == [67, 79, 78, 78, 69, 67, 84]) = false)(s1 : (bt a1 0 == 47) = false)(s2 : (a1.toList == [42]) = true) :
    Calls Tryd.prog 11 #[.string a0, .string a1] w fun e w' => e = .returned (.tuple #[.agg #[.int .i64 0, .string (⟨#[]⟩ : ByteArray), .string (⟨#[]⟩ : ByteArray)], .int .i64 11]) ∧ Below w.heap.size w w' := by
  have he2 : a1.toList.isEmpty = false := by rw [Bool.eq_false_iff]; intro hh; rw [List.isEmpty_iff] at hh; rw [hh] at he; cases he
  have hpos : 0 < a1.size := by
    rcases Nat.eq_zero_or_pos a1.size with h0 | h0
    · rw [Lib.toList_data] at he2
      have := size_list a1
      rw [h0] at this
      rw [List.isEmpty_eq_false_iff] at he2
      exact absurd (List.eq_nil_of_length_eq_zero this.symm) he2
    · exact h0

  have i0 : ((0 : Int) < (a1.size : Int)) = True := eq_true (by omega)
  have i1 : (0 < a1.size) = True := eq_true hpos
  have i2 : ((a1[0]'hpos).toNat : Int) = bt a1 0 := bt_at a1 0 hpos

  go_enter Tryd.func11, Tryd.ntmps11
  go_upto_region 1 with (fail)
  generalize hX : World.alloc _ _ = X
  have HS := Aside0.mk (show X.heap[w.heap.size]? = some (.cells #[.string a1] 9 (0, 0)) by rw [← hX]; exact blk_alloc (blk_new _ _) _)
  have HR := Aside0.mk (show X.heap[w.heap.size + 1]? = some (.cells #[.int .i64 0, .string (⟨#[]⟩ : ByteArray), .string (⟨#[]⟩ : ByteArray)] 32 (0, 0)) by rw [← hX]; have h := blk_new (w.alloc (.cells #[.string a1] 9)) (.cells #[.int .i64 0, .string (⟨#[]⟩ : ByteArray), .string (⟨#[]⟩ : ByteArray)] 32); simpa using h)
  have BX := Aside0.mk (show Below w.heap.size w X by rw [← hX]; exact below_alloc (below_alloc (Below.refl _ w) _) _)
  clear hX
  have c0 : X.cell? ⟨w.heap.size, 0, none⟩ = some (.string a1) := blk_cell HS.out 0

  go_upto_region 4 with (fail)
  generalize hY : World.alloc X _ = Y
  have HT := Aside0.mk (show Y.heap[X.heap.size]? = some (.cells #[.int .i64 0, .string (⟨#[]⟩ : ByteArray), .string (⟨#[]⟩ : ByteArray)] 32 (0, 0)) by rw [← hY]; exact blk_new _ _)
  have HS1 := Aside0.mk (show Y.heap[w.heap.size]? = some (.cells #[.string a1] 9 (0, 0)) by rw [← hY]; exact blk_alloc HS.out _)
  have HR1 := Aside0.mk (show Y.heap[w.heap.size + 1]? = some (.cells #[.int .i64 0, .string (⟨#[]⟩ : ByteArray), .string (⟨#[]⟩ : ByteArray)] 32 (0, 0)) by rw [← hY]; exact blk_alloc HR.out _)
  have BY := Aside0.mk (show Below w.heap.size w Y by rw [← hY]; exact below_alloc BX.out _)
  have HRT := Aside0.mk (show w.heap.size + 1 ≠ X.heap.size by have := blk_lt HR.out; omega)
  clear hY c0 HS HR
  have hxs := below_size BX.out
  have HXS := Aside0.mk hxs
  clear hxs BX
  generalize X.heap.size = TT at *
  have c0 : Y.cell? ⟨w.heap.size, 0, none⟩ = some (.string a1) := blk_cell HS1.out 0
  go_upto_region 5 with (first
    | (go_at_call 31; (with_reducible refine (HV _).mono ?_); rintro e w1 ⟨rfl, hb⟩; have HT2 := Aside0.mk (blk_below HT.out hb); have HS2 := Aside0.mk (blk_below HS1.out hb); have HR2 := Aside0.mk (blk_below HR1.out hb); have B2 := Aside0.mk (below_step BY.out hb); have c1 := blk_cell HS2.out 0; clear hb HT HS1 HR1 BY c0)
    | (go_at_call 32; (with_reducible refine (Tryd.strings_Contains_one a1 35 _).mono ?_); rintro e w' ⟨rfl, hw⟩; rw [hw]; clear hw))
  generalize hO : w1.heap.size = O at *
  have HO := Aside0.mk hO
  clear hO

  generalize hZ : World.alloc w1 _ = Z
  have HO3 := Aside0.mk (show Z.heap[O]? = some (.cells #[.bool false] 4 (0, 0)) by rw [← hZ, ← HO.out]; exact blk_new _ _)
  have HT3 := Aside0.mk (show Z.heap[TT]? = some (.cells #[.int .i64 0, .string (⟨#[]⟩ : ByteArray), .string (⟨#[]⟩ : ByteArray)] 32 (0, 0)) by rw [← hZ]; exact blk_alloc HT2.out _)
  have HS3 := Aside0.mk (show Z.heap[w.heap.size]? = some (.cells #[.string a1] 9 (0, 0)) by rw [← hZ]; exact blk_alloc HS2.out _)
  have HR3 := Aside0.mk (show Z.heap[w.heap.size + 1]? = some (.cells #[.int .i64 0, .string (⟨#[]⟩ : ByteArray), .string (⟨#[]⟩ : ByteArray)] 32 (0, 0)) by rw [← hZ]; exact blk_alloc HR2.out _)
  have BZ := Aside0.mk (show Below w.heap.size w Z by rw [← hZ]; exact below_alloc B2.out _)
  have HOT := Aside0.mk (show O ≠ TT by have h1 := blk_lt HT2.out; have h2 := HO.out; intro h3; omega)
  have HOR := Aside0.mk (show O ≠ w.heap.size + 1 by have h1 := blk_lt HR2.out; have h2 := HO.out; intro h3; omega)
  have HBO := Aside0.mk (show w.heap.size ≤ O by have h1 := blk_lt HR2.out; have h2 := HO.out; omega)
  clear hZ HO HT2 HS2 HR2 B2 c1
  have cO : Z.cell? ⟨O, 0, none⟩ = some (.bool false) := blk_cell HO3.out 0
  have cS : Z.cell? ⟨w.heap.size, 0, none⟩ = some (.string a1) := blk_cell HS3.out 0

  have HO5 := Aside0.mk ((setRow_other Z TT O #[.int .i64 4, .string (⟨#[]⟩ : ByteArray), .string (⟨#[]⟩ : ByteArray)] HOT.out).trans HO3.out)
  have d0 := blk_cell HO5.out 0
  have d1 := blk_frozen HO5.out 0

  go_upto_region 13 with (refine wpList_store_row rfl 32 (.tmp 6) (.tmp 36) rfl TT #[.int .i64 4, .string (⟨#[]⟩ : ByteArray), .string (⟨#[]⟩ : ByteArray)] rfl rfl _ _ HT3.out (by kernel_rfl) rfl (by simp [Value.oneCell']) ?_)

  generalize hV : World.setCell (World.setRow Z TT #[.int .i64 4, .string (⟨#[]⟩ : ByteArray), .string (⟨#[]⟩ : ByteArray)]) ⟨O, 0, none⟩ (.bool false) = V
  have HO4 := Aside0.mk (show V.heap[O]? = some (.cells #[.bool false] 4 (0, 0)) by rw [← hV]; exact blk_put ((setRow_other Z TT O _ HOT.out).trans HO3.out) 0 _ rfl)
  have HT4 := Aside0.mk (show V.heap[TT]? = some (.cells #[.int .i64 4, .string (⟨#[]⟩ : ByteArray), .string (⟨#[]⟩ : ByteArray)] 32 (0, 0)) by rw [← hV]; exact blk_far (setRow_heap _ _ _ _ _ _ HT3.out) (fun h => HOT.out h.symm) _)
  have HR4 := Aside0.mk (show V.heap[w.heap.size + 1]? = some (.cells #[.int .i64 0, .string (⟨#[]⟩ : ByteArray), .string (⟨#[]⟩ : ByteArray)] 32 (0, 0)) by rw [← hV]; exact blk_far ((setRow_other Z TT _ _ HRT.out).trans HR3.out) (fun h => HOR.out h.symm) _)
  have BV := Aside0.mk (show Below w.heap.size w V by rw [← hV]; exact (below_setRow BZ.out HXS.out _).setCell HBO.out _)
  clear hV cO cS
  have cO := blk_cell HO4.out 0

  go_wp2_with (refine wpList_store_row rfl 32 (.tmp 4) (.tmp 44) rfl (w.heap.size + 1) #[.int .i64 0, .string (⟨#[]⟩ : ByteArray), .string (⟨#[]⟩ : ByteArray)] rfl rfl _ _ HR4.out (by kernel_rfl) rfl (by simp [Value.oneCell']) ?_)

  refine bodyPost_ret (results_ct rfl _ _ (w.heap.size + 1) 32 #[.int .i64 0, .string (⟨#[]⟩ : ByteArray), .string (⟨#[]⟩ : ByteArray)] (0, 0) _ rfl (by exact setRow_heap _ _ _ _ _ _ HR4.out) Tryd.underlying32 rfl (by kernel_rfl)) rfl ?_
  exact ⟨rfl, below_setRow BV.out (Nat.le_succ _) _⟩
set_option maxHeartbeats 8000000 in
set_option maxRecDepth 100000 in
theorem parse_c_connect (a0 a1 : ByteArray) (w : World) (he : (a1.toList == []) = false)(hc : decide (0 ≤ Lib.indexByte a1.data.toList 35) = true) (HV : ∀ W, Calls Tryd.prog 31 #[.string a1] W fun e w' => e = .returned (.bool true) ∧ Below W.heap.size W w')(m1 : (a0.toList == [67, 79, 78, 78, 69, 67, 84]) = true) :
    Calls Tryd.prog 11 #[.string a0, .string a1] w fun e w' => e = .returned (.tuple #[.agg #[.int .i64 0, .string (⟨#[]⟩ : ByteArray), .string (⟨#[]⟩ : ByteArray)], .int .i64 11]) ∧ Below w.heap.size w w' := by
  have he2 : a1.toList.isEmpty = false := by rw [Bool.eq_false_iff]; intro hh; rw [List.isEmpty_iff] at hh; rw [hh] at he; cases he
  have hpos : 0 < a1.size := by
    rcases Nat.eq_zero_or_pos a1.size with h0 | h0
    · rw [Lib.toList_data] at he2
      have := size_list a1
      rw [h0] at this
      rw [List.isEmpty_eq_false_iff] at he2
      exact absurd (List.eq_nil_of_length_eq_zero this.symm) he2
    · exact h0

  have i0 : ((0 : Int) < (a1.size : Int)) = True := eq_true (by omega)
  have i1 : (0 < a1.size) = True := eq_true hpos
  have i2 : ((a1[0]'hpos).toNat : Int) = bt a1 0 := bt_at a1 0 hpos

  go_enter Tryd.func11, Tryd.ntmps11
  go_upto_region 1 with (fail)
  generalize hX : World.alloc _ _ = X
  have HS := Aside0.mk (show X.heap[w.heap.size]? = some (.cells #[.string a1] 9 (0, 0)) by rw [← hX]; exact blk_alloc (blk_new _ _) _)
  have HR := Aside0.mk (show X.heap[w.heap.size + 1]? = some (.cells #[.int .i64 0, .string (⟨#[]⟩ : ByteArray), .string (⟨#[]⟩ : ByteArray)] 32 (0, 0)) by rw [← hX]; have h := blk_new (w.alloc (.cells #[.string a1] 9)) (.cells #[.int .i64 0, .string (⟨#[]⟩ : ByteArray), .string (⟨#[]⟩ : ByteArray)] 32); simpa using h)
  have BX := Aside0.mk (show Below w.heap.size w X by rw [← hX]; exact below_alloc (below_alloc (Below.refl _ w) _) _)
  clear hX
  have c0 : X.cell? ⟨w.heap.size, 0, none⟩ = some (.string a1) := blk_cell HS.out 0

  go_upto_region 4 with (fail)
  generalize hY : World.alloc X _ = Y
  have HT := Aside0.mk (show Y.heap[X.heap.size]? = some (.cells #[.int .i64 0, .string (⟨#[]⟩ : ByteArray), .string (⟨#[]⟩ : ByteArray)] 32 (0, 0)) by rw [← hY]; exact blk_new _ _)
  have HS1 := Aside0.mk (show Y.heap[w.heap.size]? = some (.cells #[.string a1] 9 (0, 0)) by rw [← hY]; exact blk_alloc HS.out _)
  have HR1 := Aside0.mk (show Y.heap[w.heap.size + 1]? = some (.cells #[.int .i64 0, .string (⟨#[]⟩ : ByteArray), .string (⟨#[]⟩ : ByteArray)] 32 (0, 0)) by rw [← hY]; exact blk_alloc HR.out _)
  have BY := Aside0.mk (show Below w.heap.size w Y by rw [← hY]; exact below_alloc BX.out _)
  have HRT := Aside0.mk (show w.heap.size + 1 ≠ X.heap.size by have := blk_lt HR.out; omega)
  clear hY c0 HS HR
  have hxs := below_size BX.out
  have HXS := Aside0.mk hxs
  clear hxs BX
  generalize X.heap.size = TT at *
  have c0 : Y.cell? ⟨w.heap.size, 0, none⟩ = some (.string a1) := blk_cell HS1.out 0
  go_upto_region 5 with (first
    | (go_at_call 31; (with_reducible refine (HV _).mono ?_); rintro e w1 ⟨rfl, hb⟩; have HT2 := Aside0.mk (blk_below HT.out hb); have HS2 := Aside0.mk (blk_below HS1.out hb); have HR2 := Aside0.mk (blk_below HR1.out hb); have B2 := Aside0.mk (below_step BY.out hb); have c1 := blk_cell HS2.out 0; clear hb HT HS1 HR1 BY c0)
    | (go_at_call 32; (with_reducible refine (Tryd.strings_Contains_one a1 35 _).mono ?_); rintro e w' ⟨rfl, hw⟩; rw [hw]; clear hw))
  generalize hO : w1.heap.size = O at *
  have HO := Aside0.mk hO
  clear hO

  generalize hZ : World.alloc w1 _ = Z
  have HO3 := Aside0.mk (show Z.heap[O]? = some (.cells #[.bool false] 4 (0, 0)) by rw [← hZ, ← HO.out]; exact blk_new _ _)
  have HT3 := Aside0.mk (show Z.heap[TT]? = some (.cells #[.int .i64 0, .string (⟨#[]⟩ : ByteArray), .string (⟨#[]⟩ : ByteArray)] 32 (0, 0)) by rw [← hZ]; exact blk_alloc HT2.out _)
  have HS3 := Aside0.mk (show Z.heap[w.heap.size]? = some (.cells #[.string a1] 9 (0, 0)) by rw [← hZ]; exact blk_alloc HS2.out _)
  have HR3 := Aside0.mk (show Z.heap[w.heap.size + 1]? = some (.cells #[.int .i64 0, .string (⟨#[]⟩ : ByteArray), .string (⟨#[]⟩ : ByteArray)] 32 (0, 0)) by rw [← hZ]; exact blk_alloc HR2.out _)
  have BZ := Aside0.mk (show Below w.heap.size w Z by rw [← hZ]; exact below_alloc B2.out _)
  have HOT := Aside0.mk (show O ≠ TT by have h1 := blk_lt HT2.out; have h2 := HO.out; intro h3; omega)
  have HOR := Aside0.mk (show O ≠ w.heap.size + 1 by have h1 := blk_lt HR2.out; have h2 := HO.out; intro h3; omega)
  have HBO := Aside0.mk (show w.heap.size ≤ O by have h1 := blk_lt HR2.out; have h2 := HO.out; omega)
  clear hZ HO HT2 HS2 HR2 B2 c1
  have cO : Z.cell? ⟨O, 0, none⟩ = some (.bool false) := blk_cell HO3.out 0
  have cS : Z.cell? ⟨w.heap.size, 0, none⟩ = some (.string a1) := blk_cell HS3.out 0

  go_upto_region 13 with (go_at_call 33; (with_reducible refine (try_off 34 _ O _ TT HO3).mono ?_); rintro e w' ⟨rfl, rfl⟩)

  go_wp2_with (refine wpList_store_row rfl 32 (.tmp 4) (.tmp 44) rfl (w.heap.size + 1) #[.int .i64 0, .string (⟨#[]⟩ : ByteArray), .string (⟨#[]⟩ : ByteArray)] rfl rfl _ _ HR3.out (by kernel_rfl) rfl (by simp [Value.oneCell']) ?_)

  refine bodyPost_ret (results_ct rfl _ _ (w.heap.size + 1) 32 #[.int .i64 0, .string (⟨#[]⟩ : ByteArray), .string (⟨#[]⟩ : ByteArray)] (0, 0) _ rfl (by exact setRow_heap _ _ _ _ _ _ HR3.out) Tryd.underlying32 rfl (by kernel_rfl)) rfl ?_
  exact ⟨rfl, below_setRow BZ.out (Nat.le_succ _) _⟩
set_option maxHeartbeats 8000000 in
set_option maxRecDepth 100000 in
theorem parse_c_absolute (a0 a1 : ByteArray) (w : World) (he : (a1.toList == []) = false)(hc : decide (0 ≤ Lib.indexByte a1.data.toList 35) = true) (HV : ∀ W, Calls Tryd.prog 31 #[.string a1] W fun e w' => e = .returned (.bool true) ∧ Below W.heap.size W w')(m1 : (a0.toList == [67, 79, 78, 78, 69, 67, 84]) = false)(s1 : (bt a1 0 == 47) = false)(s2 : (a1.toList == [42]) = false) :
    Calls Tryd.prog 11 #[.string a0, .string a1] w fun e w' => e = .returned (.tuple #[.agg #[.int .i64 0, .string (⟨#[]⟩ : ByteArray), .string (⟨#[]⟩ : ByteArray)], .int .i64 11]) ∧ Below w.heap.size w w' := by
  have he2 : a1.toList.isEmpty = false := by rw [Bool.eq_false_iff]; intro hh; rw [List.isEmpty_iff] at hh; rw [hh] at he; cases he
  have hpos : 0 < a1.size := by
    rcases Nat.eq_zero_or_pos a1.size with h0 | h0
    · rw [Lib.toList_data] at he2
      have := size_list a1
      rw [h0] at this
      rw [List.isEmpty_eq_false_iff] at he2
      exact absurd (List.eq_nil_of_length_eq_zero this.symm) he2
    · exact h0

  have i0 : ((0 : Int) < (a1.size : Int)) = True := eq_true (by omega)
  have i1 : (0 < a1.size) = True := eq_true hpos
  have i2 : ((a1[0]'hpos).toNat : Int) = bt a1 0 := bt_at a1 0 hpos

  go_enter Tryd.func11, Tryd.ntmps11
  go_upto_region 1 with (fail)
  generalize hX : World.alloc _ _ = X
  have HS := Aside0.mk (show X.heap[w.heap.size]? = some (.cells #[.string a1] 9 (0, 0)) by rw [← hX]; exact blk_alloc (blk_new _ _) _)
  have HR := Aside0.mk (show X.heap[w.heap.size + 1]? = some (.cells #[.int .i64 0, .string (⟨#[]⟩ : ByteArray), .string (⟨#[]⟩ : ByteArray)] 32 (0, 0)) by rw [← hX]; have h := blk_new (w.alloc (.cells #[.string a1] 9)) (.cells #[.int .i64 0, .string (⟨#[]⟩ : ByteArray), .string (⟨#[]⟩ : ByteArray)] 32); simpa using h)
  have BX := Aside0.mk (show Below w.heap.size w X by rw [← hX]; exact below_alloc (below_alloc (Below.refl _ w) _) _)
  clear hX
  have c0 : X.cell? ⟨w.heap.size, 0, none⟩ = some (.string a1) := blk_cell HS.out 0

  go_upto_region 4 with (fail)
  generalize hY : World.alloc X _ = Y
  have HT := Aside0.mk (show Y.heap[X.heap.size]? = some (.cells #[.int .i64 0, .string (⟨#[]⟩ : ByteArray), .string (⟨#[]⟩ : ByteArray)] 32 (0, 0)) by rw [← hY]; exact blk_new _ _)
  have HS1 := Aside0.mk (show Y.heap[w.heap.size]? = some (.cells #[.string a1] 9 (0, 0)) by rw [← hY]; exact blk_alloc HS.out _)
  have HR1 := Aside0.mk (show Y.heap[w.heap.size + 1]? = some (.cells #[.int .i64 0, .string (⟨#[]⟩ : ByteArray), .string (⟨#[]⟩ : ByteArray)] 32 (0, 0)) by rw [← hY]; exact blk_alloc HR.out _)
  have BY := Aside0.mk (show Below w.heap.size w Y by rw [← hY]; exact below_alloc BX.out _)
  have HRT := Aside0.mk (show w.heap.size + 1 ≠ X.heap.size by have := blk_lt HR.out; omega)
  clear hY c0 HS HR
  have hxs := below_size BX.out
  have HXS := Aside0.mk hxs
  clear hxs BX
  generalize X.heap.size = TT at *
  have c0 : Y.cell? ⟨w.heap.size, 0, none⟩ = some (.string a1) := blk_cell HS1.out 0
  go_upto_region 5 with (first
    | (go_at_call 31; (with_reducible refine (HV _).mono ?_); rintro e w1 ⟨rfl, hb⟩; have HT2 := Aside0.mk (blk_below HT.out hb); have HS2 := Aside0.mk (blk_below HS1.out hb); have HR2 := Aside0.mk (blk_below HR1.out hb); have B2 := Aside0.mk (below_step BY.out hb); have c1 := blk_cell HS2.out 0; clear hb HT HS1 HR1 BY c0)
    | (go_at_call 32; (with_reducible refine (Tryd.strings_Contains_one a1 35 _).mono ?_); rintro e w' ⟨rfl, hw⟩; rw [hw]; clear hw))
  generalize hO : w1.heap.size = O at *
  have HO := Aside0.mk hO
  clear hO

  generalize hZ : World.alloc w1 _ = Z
  have HO3 := Aside0.mk (show Z.heap[O]? = some (.cells #[.bool false] 4 (0, 0)) by rw [← hZ, ← HO.out]; exact blk_new _ _)
  have HT3 := Aside0.mk (show Z.heap[TT]? = some (.cells #[.int .i64 0, .string (⟨#[]⟩ : ByteArray), .string (⟨#[]⟩ : ByteArray)] 32 (0, 0)) by rw [← hZ]; exact blk_alloc HT2.out _)
  have HS3 := Aside0.mk (show Z.heap[w.heap.size]? = some (.cells #[.string a1] 9 (0, 0)) by rw [← hZ]; exact blk_alloc HS2.out _)
  have HR3 := Aside0.mk (show Z.heap[w.heap.size + 1]? = some (.cells #[.int .i64 0, .string (⟨#[]⟩ : ByteArray), .string (⟨#[]⟩ : ByteArray)] 32 (0, 0)) by rw [← hZ]; exact blk_alloc HR2.out _)
  have BZ := Aside0.mk (show Below w.heap.size w Z by rw [← hZ]; exact below_alloc B2.out _)
  have HOT := Aside0.mk (show O ≠ TT by have h1 := blk_lt HT2.out; have h2 := HO.out; intro h3; omega)
  have HOR := Aside0.mk (show O ≠ w.heap.size + 1 by have h1 := blk_lt HR2.out; have h2 := HO.out; intro h3; omega)
  have HBO := Aside0.mk (show w.heap.size ≤ O by have h1 := blk_lt HR2.out; have h2 := HO.out; omega)
  clear hZ HO HT2 HS2 HR2 B2 c1
  have cO : Z.cell? ⟨O, 0, none⟩ = some (.bool false) := blk_cell HO3.out 0
  have cS : Z.cell? ⟨w.heap.size, 0, none⟩ = some (.string a1) := blk_cell HS3.out 0

  go_upto_region 13 with (go_at_call 33; (with_reducible refine (try_off 35 _ O _ TT HO3).mono ?_); rintro e w' ⟨rfl, rfl⟩)

  go_wp2_with (refine wpList_store_row rfl 32 (.tmp 4) (.tmp 44) rfl (w.heap.size + 1) #[.int .i64 0, .string (⟨#[]⟩ : ByteArray), .string (⟨#[]⟩ : ByteArray)] rfl rfl _ _ HR3.out (by kernel_rfl) rfl (by simp [Value.oneCell']) ?_)

  refine bodyPost_ret (results_ct rfl _ _ (w.heap.size + 1) 32 #[.int .i64 0, .string (⟨#[]⟩ : ByteArray), .string (⟨#[]⟩ : ByteArray)] (0, 0) _ rfl (by exact setRow_heap _ _ _ _ _ _ HR3.out) Tryd.underlying32 rfl (by kernel_rfl)) rfl ?_
  exact ⟨rfl, below_setRow BZ.out (Nat.le_succ _) _⟩
set_option maxHeartbeats 8000000 in
set_option maxRecDepth 100000 in
theorem parse_c_slash (a0 a1 : ByteArray) (w : World) (he : (a1.toList == []) = false)(hc : decide (0 ≤ Lib.indexByte a1.data.toList 35) = true) (HV : ∀ W, Calls Tryd.prog 31 #[.string a1] W fun e w' => e = .returned (.bool true) ∧ Below W.heap.size W w')(m1 : (a0.toList == [67, 79, 78, 78, 69, 67, 84]) = false)(s1 : (bt a1 0 == 47) = true) :
    Calls Tryd.prog 11 #[.string a0, .string a1] w fun e w' => e = .returned (.tuple #[.agg #[.int .i64 0, .string (⟨#[]⟩ : ByteArray), .string (⟨#[]⟩ : ByteArray)], .int .i64 11]) ∧ Below w.heap.size w w' := by
  have he2 : a1.toList.isEmpty = false := by rw [Bool.eq_false_iff]; intro hh; rw [List.isEmpty_iff] at hh; rw [hh] at he; cases he
  have hpos : 0 < a1.size := by
    rcases Nat.eq_zero_or_pos a1.size with h0 | h0
    · rw [Lib.toList_data] at he2
      have := size_list a1
      rw [h0] at this
      rw [List.isEmpty_eq_false_iff] at he2
      exact absurd (List.eq_nil_of_length_eq_zero this.symm) he2
    · exact h0

  have i0 : ((0 : Int) < (a1.size : Int)) = True := eq_true (by omega)
  have i1 : (0 < a1.size) = True := eq_true hpos
  have i2 : ((a1[0]'hpos).toNat : Int) = bt a1 0 := bt_at a1 0 hpos

  go_enter Tryd.func11, Tryd.ntmps11
  go_upto_region 1 with (fail)
  generalize hX : World.alloc _ _ = X
  have HS := Aside0.mk (show X.heap[w.heap.size]? = some (.cells #[.string a1] 9 (0, 0)) by rw [← hX]; exact blk_alloc (blk_new _ _) _)
  have HR := Aside0.mk (show X.heap[w.heap.size + 1]? = some (.cells #[.int .i64 0, .string (⟨#[]⟩ : ByteArray), .string (⟨#[]⟩ : ByteArray)] 32 (0, 0)) by rw [← hX]; have h := blk_new (w.alloc (.cells #[.string a1] 9)) (.cells #[.int .i64 0, .string (⟨#[]⟩ : ByteArray), .string (⟨#[]⟩ : ByteArray)] 32); simpa using h)
  have BX := Aside0.mk (show Below w.heap.size w X by rw [← hX]; exact below_alloc (below_alloc (Below.refl _ w) _) _)
  clear hX
  have c0 : X.cell? ⟨w.heap.size, 0, none⟩ = some (.string a1) := blk_cell HS.out 0

  go_upto_region 4 with (fail)
  generalize hY : World.alloc X _ = Y
  have HT := Aside0.mk (show Y.heap[X.heap.size]? = some (.cells #[.int .i64 0, .string (⟨#[]⟩ : ByteArray), .string (⟨#[]⟩ : ByteArray)] 32 (0, 0)) by rw [← hY]; exact blk_new _ _)
  have HS1 := Aside0.mk (show Y.heap[w.heap.size]? = some (.cells #[.string a1] 9 (0, 0)) by rw [← hY]; exact blk_alloc HS.out _)
  have HR1 := Aside0.mk (show Y.heap[w.heap.size + 1]? = some (.cells #[.int .i64 0, .string (⟨#[]⟩ : ByteArray), .string (⟨#[]⟩ : ByteArray)] 32 (0, 0)) by rw [← hY]; exact blk_alloc HR.out _)
  have BY := Aside0.mk (show Below w.heap.size w Y by rw [← hY]; exact below_alloc BX.out _)
  have HRT := Aside0.mk (show w.heap.size + 1 ≠ X.heap.size by have := blk_lt HR.out; omega)
  clear hY c0 HS HR
  have hxs := below_size BX.out
  have HXS := Aside0.mk hxs
  clear hxs BX
  generalize X.heap.size = TT at *
  have c0 : Y.cell? ⟨w.heap.size, 0, none⟩ = some (.string a1) := blk_cell HS1.out 0
  go_upto_region 5 with (first
    | (go_at_call 31; (with_reducible refine (HV _).mono ?_); rintro e w1 ⟨rfl, hb⟩; have HT2 := Aside0.mk (blk_below HT.out hb); have HS2 := Aside0.mk (blk_below HS1.out hb); have HR2 := Aside0.mk (blk_below HR1.out hb); have B2 := Aside0.mk (below_step BY.out hb); have c1 := blk_cell HS2.out 0; clear hb HT HS1 HR1 BY c0)
    | (go_at_call 32; (with_reducible refine (Tryd.strings_Contains_one a1 35 _).mono ?_); rintro e w' ⟨rfl, hw⟩; rw [hw]; clear hw))
  generalize hO : w1.heap.size = O at *
  have HO := Aside0.mk hO
  clear hO

  generalize hZ : World.alloc w1 _ = Z
  have HO3 := Aside0.mk (show Z.heap[O]? = some (.cells #[.bool false] 4 (0, 0)) by rw [← hZ, ← HO.out]; exact blk_new _ _)
  have HT3 := Aside0.mk (show Z.heap[TT]? = some (.cells #[.int .i64 0, .string (⟨#[]⟩ : ByteArray), .string (⟨#[]⟩ : ByteArray)] 32 (0, 0)) by rw [← hZ]; exact blk_alloc HT2.out _)
  have HS3 := Aside0.mk (show Z.heap[w.heap.size]? = some (.cells #[.string a1] 9 (0, 0)) by rw [← hZ]; exact blk_alloc HS2.out _)
  have HR3 := Aside0.mk (show Z.heap[w.heap.size + 1]? = some (.cells #[.int .i64 0, .string (⟨#[]⟩ : ByteArray), .string (⟨#[]⟩ : ByteArray)] 32 (0, 0)) by rw [← hZ]; exact blk_alloc HR2.out _)
  have BZ := Aside0.mk (show Below w.heap.size w Z by rw [← hZ]; exact below_alloc B2.out _)
  have HOT := Aside0.mk (show O ≠ TT by have h1 := blk_lt HT2.out; have h2 := HO.out; intro h3; omega)
  have HOR := Aside0.mk (show O ≠ w.heap.size + 1 by have h1 := blk_lt HR2.out; have h2 := HO.out; intro h3; omega)
  have HBO := Aside0.mk (show w.heap.size ≤ O by have h1 := blk_lt HR2.out; have h2 := HO.out; omega)
  clear hZ HO HT2 HS2 HR2 B2 c1
  have cO : Z.cell? ⟨O, 0, none⟩ = some (.bool false) := blk_cell HO3.out 0
  have cS : Z.cell? ⟨w.heap.size, 0, none⟩ = some (.string a1) := blk_cell HS3.out 0

  go_upto_region 13 with (refine wpList_store_row rfl 32 (.tmp 6) (.tmp 32) rfl TT #[.int .i64 1, .string (⟨#[]⟩ : ByteArray), .string a1] rfl rfl _ _ HT3.out (by kernel_rfl) rfl (by simp [Value.oneCell']) ?_)

  generalize hV : World.setRow Z TT #[.int .i64 1, .string (⟨#[]⟩ : ByteArray), .string a1] = V
  have HO4 := Aside0.mk (show V.heap[O]? = some (.cells #[.bool false] 4 (0, 0)) by rw [← hV]; exact (setRow_other Z TT O _ HOT.out).trans HO3.out)
  have HT4 := Aside0.mk (show V.heap[TT]? = some (.cells #[.int .i64 1, .string (⟨#[]⟩ : ByteArray), .string a1] 32 (0, 0)) by rw [← hV]; exact setRow_heap _ _ _ _ _ _ HT3.out)
  have HR4 := Aside0.mk (show V.heap[w.heap.size + 1]? = some (.cells #[.int .i64 0, .string (⟨#[]⟩ : ByteArray), .string (⟨#[]⟩ : ByteArray)] 32 (0, 0)) by rw [← hV]; exact (setRow_other Z TT _ _ HRT.out).trans HR3.out)
  have BV := Aside0.mk (show Below w.heap.size w V by rw [← hV]; exact below_setRow BZ.out HXS.out _)
  clear hV cO cS
  have cO := blk_cell HO4.out 0

  go_wp2_with (refine wpList_store_row rfl 32 (.tmp 4) (.tmp 44) rfl (w.heap.size + 1) #[.int .i64 0, .string (⟨#[]⟩ : ByteArray), .string (⟨#[]⟩ : ByteArray)] rfl rfl _ _ HR4.out (by kernel_rfl) rfl (by simp [Value.oneCell']) ?_)

  refine bodyPost_ret (results_ct rfl _ _ (w.heap.size + 1) 32 #[.int .i64 0, .string (⟨#[]⟩ : ByteArray), .string (⟨#[]⟩ : ByteArray)] (0, 0) _ rfl (by exact setRow_heap _ _ _ _ _ _ HR4.out) Tryd.underlying32 rfl (by kernel_rfl)) rfl ?_
  exact ⟨rfl, below_setRow BV.out (Nat.le_succ _) _⟩
set_option maxHeartbeats 8000000 in
set_option maxRecDepth 100000 in
theorem parse_c_star (a0 a1 : ByteArray) (w : World) (he : (a1.toList == []) = false)(hc : decide (0 ≤ Lib.indexByte a1.data.toList 35) = true) (HV : ∀ W, Calls Tryd.prog 31 #[.string a1] W fun e w' => e = .returned (.bool true) ∧ Below W.heap.size W w')(m1 : (a0.toList == [67, 79, 78, 78, 69, 67, 84]) = false)(s1 : (bt a1 0 == 47) = false)(s2 : (a1.toList == [42]) = true) :
    Calls Tryd.prog 11 #[.string a0, .string a1] w fun e w' => e = .returned (.tuple #[.agg #[.int .i64 0, .string (⟨#[]⟩ : ByteArray), .string (⟨#[]⟩ : ByteArray)], .int .i64 11]) ∧ Below w.heap.size w w' := by
  have he2 : a1.toList.isEmpty = false := by rw [Bool.eq_false_iff]; intro hh; rw [List.isEmpty_iff] at hh; rw [hh] at he; cases he
  have hpos : 0 < a1.size := by
    rcases Nat.eq_zero_or_pos a1.size with h0 | h0
    · rw [Lib.toList_data] at he2
      have := size_list a1
      rw [h0] at this
      rw [List.isEmpty_eq_false_iff] at he2
      exact absurd (List.eq_nil_of_length_eq_zero this.symm) he2
    · exact h0

  have i0 : ((0 : Int) < (a1.size : Int)) = True := eq_true (by omega)
  have i1 : (0 < a1.size) = True := eq_true hpos
  have i2 : ((a1[0]'hpos).toNat : Int) = bt a1 0 := bt_at a1 0 hpos

  go_enter Tryd.func11, Tryd.ntmps11
  go_upto_region 1 with (fail)
  generalize hX : World.alloc _ _ = X
  have HS := Aside0.mk (show X.heap[w.heap.size]? = some (.cells #[.string a1] 9 (0, 0)) by rw [← hX]; exact blk_alloc (blk_new _ _) _)
  have HR := Aside0.mk (show X.heap[w.heap.size + 1]? = some (.cells #[.int .i64 0, .string (⟨#[]⟩ : ByteArray), .string (⟨#[]⟩ : ByteArray)] 32 (0, 0)) by rw [← hX]; have h := blk_new (w.alloc (.cells #[.string a1] 9)) (.cells #[.int .i64 0, .string (⟨#[]⟩ : ByteArray), .string (⟨#[]⟩ : ByteArray)] 32); simpa using h)
  have BX := Aside0.mk (show Below w.heap.size w X by rw [← hX]; exact below_alloc (below_alloc (Below.refl _ w) _) _)
  clear hX
  have c0 : X.cell? ⟨w.heap.size, 0, none⟩ = some (.string a1) := blk_cell HS.out 0

  go_upto_region 4 with (fail)
  generalize hY : World.alloc X _ = Y
  have HT := Aside0.mk (show Y.heap[X.heap.size]? = some (.cells #[.int .i64 0, .string (⟨#[]⟩ : ByteArray), .string (⟨#[]⟩ : ByteArray)] 32 (0, 0)) by rw [← hY]; exact blk_new _ _)
  have HS1 := Aside0.mk (show Y.heap[w.heap.size]? = some (.cells #[.string a1] 9 (0, 0)) by rw [← hY]; exact blk_alloc HS.out _)
  have HR1 := Aside0.mk (show Y.heap[w.heap.size + 1]? = some (.cells #[.int .i64 0, .string (⟨#[]⟩ : ByteArray), .string (⟨#[]⟩ : ByteArray)] 32 (0, 0)) by rw [← hY]; exact blk_alloc HR.out _)
  have BY := Aside0.mk (show Below w.heap.size w Y by rw [← hY]; exact below_alloc BX.out _)
  have HRT := Aside0.mk (show w.heap.size + 1 ≠ X.heap.size by have := blk_lt HR.out; omega)
  clear hY c0 HS HR
  have hxs := below_size BX.out
  have HXS := Aside0.mk hxs
  clear hxs BX
  generalize X.heap.size = TT at *
  have c0 : Y.cell? ⟨w.heap.size, 0, none⟩ = some (.string a1) := blk_cell HS1.out 0
  go_upto_region 5 with (first
    | (go_at_call 31; (with_reducible refine (HV _).mono ?_); rintro e w1 ⟨rfl, hb⟩; have HT2 := Aside0.mk (blk_below HT.out hb); have HS2 := Aside0.mk (blk_below HS1.out hb); have HR2 := Aside0.mk (blk_below HR1.out hb); have B2 := Aside0.mk (below_step BY.out hb); have c1 := blk_cell HS2.out 0; clear hb HT HS1 HR1 BY c0)
    | (go_at_call 32; (with_reducible refine (Tryd.strings_Contains_one a1 35 _).mono ?_); rintro e w' ⟨rfl, hw⟩; rw [hw]; clear hw))
  generalize hO : w1.heap.size = O at *
  have HO := Aside0.mk hO
  clear hO

  generalize hZ : World.alloc w1 _ = Z
  have HO3 := Aside0.mk (show Z.heap[O]? = some (.cells #[.bool false] 4 (0, 0)) by rw [← hZ, ← HO.out]; exact blk_new _ _)
  have HT3 := Aside0.mk (show Z.heap[TT]? = some (.cells #[.int .i64 0, .string (⟨#[]⟩ : ByteArray), .string (⟨#[]⟩ : ByteArray)] 32 (0, 0)) by rw [← hZ]; exact blk_alloc HT2.out _)
  have HS3 := Aside0.mk (show Z.heap[w.heap.size]? = some (.cells #[.string a1] 9 (0, 0)) by rw [← hZ]; exact blk_alloc HS2.out _)
  have HR3 := Aside0.mk (show Z.heap[w.heap.size + 1]? = some (.cells #[.int .i64 0, .string (⟨#[]⟩ : ByteArray), .string (⟨#[]⟩ : ByteArray)] 32 (0, 0)) by rw [← hZ]; exact blk_alloc HR2.out _)
  have BZ := Aside0.mk (show Below w.heap.size w Z by rw [← hZ]; exact below_alloc B2.out _)
  have HOT := Aside0.mk (show O ≠ TT by have h1 := blk_lt HT2.out; have h2 := HO.out; intro h3; omega)
  have HOR := Aside0.mk (show O ≠ w.heap.size + 1 by have h1 := blk_lt HR2.out; have h2 := HO.out; intro h3; omega)
  have HBO := Aside0.mk (show w.heap.size ≤ O by have h1 := blk_lt HR2.out; have h2 := HO.out; omega)
  clear hZ HO HT2 HS2 HR2 B2 c1
  have cO : Z.cell? ⟨O, 0, none⟩ = some (.bool false) := blk_cell HO3.out 0
  have cS : Z.cell? ⟨w.heap.size, 0, none⟩ = some (.string a1) := blk_cell HS3.out 0

  have HO5 := Aside0.mk ((setRow_other Z TT O #[.int .i64 4, .string (⟨#[]⟩ : ByteArray), .string (⟨#[]⟩ : ByteArray)] HOT.out).trans HO3.out)
  have d0 := blk_cell HO5.out 0
  have d1 := blk_frozen HO5.out 0

  go_upto_region 13 with (refine wpList_store_row rfl 32 (.tmp 6) (.tmp 36) rfl TT #[.int .i64 4, .string (⟨#[]⟩ : ByteArray), .string (⟨#[]⟩ : ByteArray)] rfl rfl _ _ HT3.out (by kernel_rfl) rfl (by simp [Value.oneCell']) ?_)

  generalize hV : World.setCell (World.setRow Z TT #[.int .i64 4, .string (⟨#[]⟩ : ByteArray), .string (⟨#[]⟩ : ByteArray)]) ⟨O, 0, none⟩ (.bool false) = V
  have HO4 := Aside0.mk (show V.heap[O]? = some (.cells #[.bool false] 4 (0, 0)) by rw [← hV]; exact blk_put ((setRow_other Z TT O _ HOT.out).trans HO3.out) 0 _ rfl)
  have HT4 := Aside0.mk (show V.heap[TT]? = some (.cells #[.int .i64 4, .string (⟨#[]⟩ : ByteArray), .string (⟨#[]⟩ : ByteArray)] 32 (0, 0)) by rw [← hV]; exact blk_far (setRow_heap _ _ _ _ _ _ HT3.out) (fun h => HOT.out h.symm) _)
  have HR4 := Aside0.mk (show V.heap[w.heap.size + 1]? = some (.cells #[.int .i64 0, .string (⟨#[]⟩ : ByteArray), .string (⟨#[]⟩ : ByteArray)] 32 (0, 0)) by rw [← hV]; exact blk_far ((setRow_other Z TT _ _ HRT.out).trans HR3.out) (fun h => HOR.out h.symm) _)
  have BV := Aside0.mk (show Below w.heap.size w V by rw [← hV]; exact (below_setRow BZ.out HXS.out _).setCell HBO.out _)
  clear hV cO cS
  have cO := blk_cell HO4.out 0

  go_wp2_with (refine wpList_store_row rfl 32 (.tmp 4) (.tmp 44) rfl (w.heap.size + 1) #[.int .i64 0, .string (⟨#[]⟩ : ByteArray), .string (⟨#[]⟩ : ByteArray)] rfl rfl _ _ HR4.out (by kernel_rfl) rfl (by simp [Value.oneCell']) ?_)

  refine bodyPost_ret (results_ct rfl _ _ (w.heap.size + 1) 32 #[.int .i64 0, .string (⟨#[]⟩ : ByteArray), .string (⟨#[]⟩ : ByteArray)] (0, 0) _ rfl (by exact setRow_heap _ _ _ _ _ _ HR4.out) Tryd.underlying32 rfl (by kernel_rfl)) rfl ?_
  exact ⟨rfl, below_setRow BV.out (Nat.le_succ _) _⟩
set_option maxHeartbeats 8000000 in
set_option maxRecDepth 100000 in
theorem parse_k_connect_true (a0 a1 : ByteArray) (w : World) (he : (a1.toList == []) = false)(hc : decide (0 ≤ Lib.indexByte a1.data.toList 35) = false) (HV : ∀ W, Calls Tryd.prog 31 #[.string a1] W fun e w' => e = .returned (.bool true) ∧ Below W.heap.size W w')(m1 : (a0.toList == [67, 79, 78, 78, 69, 67, 84]) = true)(r1 : Int) (r2 r3 : ByteArray)(HC : ∀ W, Calls Tryd.prog 34 #[.string a1] W fun e w' => e = .returned (.tuple #[.agg #[.int .i64 r1, .string r2, .string r3], .bool true]) ∧ Below W.heap.size W w') :
    Calls Tryd.prog 11 #[.string a0, .string a1] w fun e w' => e = .returned (.tuple #[.agg #[.int .i64 r1, .string r2, .string r3], .int .i64 0]) ∧ Below w.heap.size w w' := by
  have he2 : a1.toList.isEmpty = false := by rw [Bool.eq_false_iff]; intro hh; rw [List.isEmpty_iff] at hh; rw [hh] at he; cases he
  have hpos : 0 < a1.size := by
    rcases Nat.eq_zero_or_pos a1.size with h0 | h0
    · rw [Lib.toList_data] at he2
      have := size_list a1
      rw [h0] at this
      rw [List.isEmpty_eq_false_iff] at he2
      exact absurd (List.eq_nil_of_length_eq_zero this.symm) he2
    · exact h0

  have i0 : ((0 : Int) < (a1.size : Int)) = True := eq_true (by omega)
  have i1 : (0 < a1.size) = True := eq_true hpos
  have i2 : ((a1[0]'hpos).toNat : Int) = bt a1 0 := bt_at a1 0 hpos

  go_enter Tryd.func11, Tryd.ntmps11
  go_upto_region 1 with (fail)
  generalize hX : World.alloc _ _ = X
  have HS := Aside0.mk (show X.heap[w.heap.size]? = some (.cells #[.string a1] 9 (0, 0)) by rw [← hX]; exact blk_alloc (blk_new _ _) _)
  have HR := Aside0.mk (show X.heap[w.heap.size + 1]? = some (.cells #[.int .i64 0, .string (⟨#[]⟩ : ByteArray), .string (⟨#[]⟩ : ByteArray)] 32 (0, 0)) by rw [← hX]; have h := blk_new (w.alloc (.cells #[.string a1] 9)) (.cells #[.int .i64 0, .string (⟨#[]⟩ : ByteArray), .string (⟨#[]⟩ : ByteArray)] 32); simpa using h)
  have BX := Aside0.mk (show Below w.heap.size w X by rw [← hX]; exact below_alloc (below_alloc (Below.refl _ w) _) _)
  clear hX
  have c0 : X.cell? ⟨w.heap.size, 0, none⟩ = some (.string a1) := blk_cell HS.out 0

  go_upto_region 4 with (fail)
  generalize hY : World.alloc X _ = Y
  have HT := Aside0.mk (show Y.heap[X.heap.size]? = some (.cells #[.int .i64 0, .string (⟨#[]⟩ : ByteArray), .string (⟨#[]⟩ : ByteArray)] 32 (0, 0)) by rw [← hY]; exact blk_new _ _)
  have HS1 := Aside0.mk (show Y.heap[w.heap.size]? = some (.cells #[.string a1] 9 (0, 0)) by rw [← hY]; exact blk_alloc HS.out _)
  have HR1 := Aside0.mk (show Y.heap[w.heap.size + 1]? = some (.cells #[.int .i64 0, .string (⟨#[]⟩ : ByteArray), .string (⟨#[]⟩ : ByteArray)] 32 (0, 0)) by rw [← hY]; exact blk_alloc HR.out _)
  have BY := Aside0.mk (show Below w.heap.size w Y by rw [← hY]; exact below_alloc BX.out _)
  have HRT := Aside0.mk (show w.heap.size + 1 ≠ X.heap.size by have := blk_lt HR.out; omega)
  clear hY c0 HS HR
  have hxs := below_size BX.out
  have HXS := Aside0.mk hxs
  clear hxs BX
  generalize X.heap.size = TT at *
  have c0 : Y.cell? ⟨w.heap.size, 0, none⟩ = some (.string a1) := blk_cell HS1.out 0
  go_upto_region 5 with (first
    | (go_at_call 31; (with_reducible refine (HV _).mono ?_); rintro e w1 ⟨rfl, hb⟩; have HT2 := Aside0.mk (blk_below HT.out hb); have HS2 := Aside0.mk (blk_below HS1.out hb); have HR2 := Aside0.mk (blk_below HR1.out hb); have B2 := Aside0.mk (below_step BY.out hb); have c1 := blk_cell HS2.out 0; clear hb HT HS1 HR1 BY c0)
    | (go_at_call 32; (with_reducible refine (Tryd.strings_Contains_one a1 35 _).mono ?_); rintro e w' ⟨rfl, hw⟩; rw [hw]; clear hw))
  generalize hO : w1.heap.size = O at *
  have HO := Aside0.mk hO
  clear hO

  generalize hZ : World.alloc w1 _ = Z
  have HO3 := Aside0.mk (show Z.heap[O]? = some (.cells #[.bool true] 4 (0, 0)) by rw [← hZ, ← HO.out]; exact blk_new _ _)
  have HT3 := Aside0.mk (show Z.heap[TT]? = some (.cells #[.int .i64 0, .string (⟨#[]⟩ : ByteArray), .string (⟨#[]⟩ : ByteArray)] 32 (0, 0)) by rw [← hZ]; exact blk_alloc HT2.out _)
  have HS3 := Aside0.mk (show Z.heap[w.heap.size]? = some (.cells #[.string a1] 9 (0, 0)) by rw [← hZ]; exact blk_alloc HS2.out _)
  have HR3 := Aside0.mk (show Z.heap[w.heap.size + 1]? = some (.cells #[.int .i64 0, .string (⟨#[]⟩ : ByteArray), .string (⟨#[]⟩ : ByteArray)] 32 (0, 0)) by rw [← hZ]; exact blk_alloc HR2.out _)
  have BZ := Aside0.mk (show Below w.heap.size w Z by rw [← hZ]; exact below_alloc B2.out _)
  have HOT := Aside0.mk (show O ≠ TT by have h1 := blk_lt HT2.out; have h2 := HO.out; intro h3; omega)
  have HOR := Aside0.mk (show O ≠ w.heap.size + 1 by have h1 := blk_lt HR2.out; have h2 := HO.out; intro h3; omega)
  have HBO := Aside0.mk (show w.heap.size ≤ O by have h1 := blk_lt HR2.out; have h2 := HO.out; omega)
  clear hZ HO HT2 HS2 HR2 B2 c1
  have cO : Z.cell? ⟨O, 0, none⟩ = some (.bool true) := blk_cell HO3.out 0
  have cS : Z.cell? ⟨w.heap.size, 0, none⟩ = some (.string a1) := blk_cell HS3.out 0

  go_upto_region 13 with (go_at_call 33; refine (try_connect _ O _ TT a1 r1 r2 r3 true _ _ _ HOT.out HO3 HS3 HT3 HC).mono ?_; rintro e V ⟨rfl, W1, hb, hV⟩; have hA := try_after BZ.out hb hV HO3.out HT3.out HR3.out HOT.out HOR.out HRT.out HXS.out HBO.out; have HO4 := Aside0.mk hA.1; have HT4 := Aside0.mk hA.2.1; have HR4 := Aside0.mk hA.2.2.1; have BV := Aside0.mk hA.2.2.2; clear hA hV hb W1 cO cS; have cO := blk_cell HO4.out 0)

  go_wp2_with (first | (refine wpList_load_row rfl 32 (.tmp 6) rfl TT rfl 32 _ (0, 0) _ HT4.out Tryd.underlying32 rfl (by kernel_rfl) ?_) | (refine wpList_store_row rfl 32 (.tmp 4) (.tmp 45) rfl (w.heap.size + 1) #[.int .i64 r1, .string r2, .string r3] rfl rfl _ _ HR4.out (by kernel_rfl) rfl (by simp [Value.oneCell']) ?_))

  refine bodyPost_ret (results_ct rfl _ _ (w.heap.size + 1) 32 #[.int .i64 r1, .string r2, .string r3] (0, 0) _ rfl (by exact setRow_heap _ _ _ _ _ _ HR4.out) Tryd.underlying32 rfl (by kernel_rfl)) rfl ?_
  exact ⟨rfl, below_setRow BV.out (Nat.le_succ _) _⟩
set_option maxHeartbeats 8000000 in
set_option maxRecDepth 100000 in
theorem parse_k_absolute_true (a0 a1 : ByteArray) (w : World) (he : (a1.toList == []) = false)(hc : decide (0 ≤ Lib.indexByte a1.data.toList 35) = false) (HV : ∀ W, Calls Tryd.prog 31 #[.string a1] W fun e w' => e = .returned (.bool true) ∧ Below W.heap.size W w')(m1 : (a0.toList == [67, 79, 78, 78, 69, 67, 84]) = false)(s1 : (bt a1 0 == 47) = false)(s2 : (a1.toList == [42]) = false)(r1 : Int) (r2 r3 : ByteArray)(HC : ∀ W, Calls Tryd.prog 35 #[.string a1] W fun e w' => e = .returned (.tuple #[.agg #[.int .i64 r1, .string r2, .string r3], .bool true]) ∧ Below W.heap.size W w') :
    Calls Tryd.prog 11 #[.string a0, .string a1] w fun e w' => e = .returned (.tuple #[.agg #[.int .i64 r1, .string r2, .string r3], .int .i64 0]) ∧ Below w.heap.size w w' := by
  have he2 : a1.toList.isEmpty = false := by rw [Bool.eq_false_iff]; intro hh; rw [List.isEmpty_iff] at hh; rw [hh] at he; cases he
  have hpos : 0 < a1.size := by
    rcases Nat.eq_zero_or_pos a1.size with h0 | h0
    · rw [Lib.toList_data] at he2
      have := size_list a1
      rw [h0] at this
      rw [List.isEmpty_eq_false_iff] at he2
      exact absurd (List.eq_nil_of_length_eq_zero this.symm) he2
    · exact h0

  have i0 : ((0 : Int) < (a1.size : Int)) = True := eq_true (by omega)
  have i1 : (0 < a1.size) = True := eq_true hpos
  have i2 : ((a1[0]'hpos).toNat : Int) = bt a1 0 := bt_at a1 0 hpos

  go_enter Tryd.func11, Tryd.ntmps11
  go_upto_region 1 with (fail)
  generalize hX : World.alloc _ _ = X
  have HS := Aside0.mk (show X.heap[w.heap.size]? = some (.cells #[.string a1] 9 (0, 0)) by rw [← hX]; exact blk_alloc (blk_new _ _) _)
  have HR := Aside0.mk (show X.heap[w.heap.size + 1]? = some (.cells #[.int .i64 0, .string (⟨#[]⟩ : ByteArray), .string (⟨#[]⟩ : ByteArray)] 32 (0, 0)) by rw [← hX]; have h := blk_new (w.alloc (.cells #[.string a1] 9)) (.cells #[.int .i64 0, .string (⟨#[]⟩ : ByteArray), .string (⟨#[]⟩ : ByteArray)] 32); simpa using h)
  have BX := Aside0.mk (show Below w.heap.size w X by rw [← hX]; exact below_alloc (below_alloc (Below.refl _ w) _) _)
  clear hX
  have c0 : X.cell? ⟨w.heap.size, 0, none⟩ = some (.string a1) := blk_cell HS.out 0

  go_upto_region 4 with (fail)
  generalize hY : World.alloc X _ = Y
  have HT := Aside0.mk (show Y.heap[X.heap.size]? = some (.cells #[.int .i64 0, .string (⟨#[]⟩ : ByteArray), .string (⟨#[]⟩ : ByteArray)] 32 (0, 0)) by rw [← hY]; exact blk_new _ _)
  have HS1 := Aside0.mk (show Y.heap[w.heap.size]? = some (.cells #[.string a1] 9 (0, 0)) by rw [← hY]; exact blk_alloc HS.out _)
  have HR1 := Aside0.mk (show Y.heap[w.heap.size + 1]? = some (.cells #[.int .i64 0, .string (⟨#[]⟩ : ByteArray), .string (⟨#[]⟩ : ByteArray)] 32 (0, 0)) by rw [← hY]; exact blk_alloc HR.out _)
  have BY := Aside0.mk (show Below w.heap.size w Y by rw [← hY]; exact below_alloc BX.out _)
  have HRT := Aside0.mk (show w.heap.size + 1 ≠ X.heap.size by have := blk_lt HR.out; omega)
  clear hY c0 HS HR
  have hxs := below_size BX.out
  have HXS := Aside0.mk hxs
  clear hxs BX
  generalize X.heap.size = TT at *
  have c0 : Y.cell? ⟨w.heap.size, 0, none⟩ = some (.string a1) := blk_cell HS1.out 0
  go_upto_region 5 with (first
    | (go_at_call 31; (with_reducible refine (HV _).mono ?_); rintro e w1 ⟨rfl, hb⟩; have HT2 := Aside0.mk (blk_below HT.out hb); have HS2 := Aside0.mk (blk_below HS1.out hb); have HR2 := Aside0.mk (blk_below HR1.out hb); have B2 := Aside0.mk (below_step BY.out hb); have c1 := blk_cell HS2.out 0; clear hb HT HS1 HR1 BY c0)
    | (go_at_call 32; (with_reducible refine (Tryd.strings_Contains_one a1 35 _).mono ?_); rintro e w' ⟨rfl, hw⟩; rw [hw]; clear hw))
  generalize hO : w1.heap.size = O at *
  have HO := Aside0.mk hO
  clear hO

  generalize hZ : World.alloc w1 _ = Z
  have HO3 := Aside0.mk (show Z.heap[O]? = some (.cells #[.bool true] 4 (0, 0)) by rw [← hZ, ← HO.out]; exact blk_new _ _)
  have HT3 := Aside0.mk (show Z.heap[TT]? = some (.cells #[.int .i64 0, .string (⟨#[]⟩ : ByteArray), .string (⟨#[]⟩ : ByteArray)] 32 (0, 0)) by rw [← hZ]; exact blk_alloc HT2.out _)
  have HS3 := Aside0.mk (show Z.heap[w.heap.size]? = some (.cells #[.string a1] 9 (0, 0)) by rw [← hZ]; exact blk_alloc HS2.out _)
  have HR3 := Aside0.mk (show Z.heap[w.heap.size + 1]? = some (.cells #[.int .i64 0, .string (⟨#[]⟩ : ByteArray), .string (⟨#[]⟩ : ByteArray)] 32 (0, 0)) by rw [← hZ]; exact blk_alloc HR2.out _)
  have BZ := Aside0.mk (show Below w.heap.size w Z by rw [← hZ]; exact below_alloc B2.out _)
  have HOT := Aside0.mk (show O ≠ TT by have h1 := blk_lt HT2.out; have h2 := HO.out; intro h3; omega)
  have HOR := Aside0.mk (show O ≠ w.heap.size + 1 by have h1 := blk_lt HR2.out; have h2 := HO.out; intro h3; omega)
  have HBO := Aside0.mk (show w.heap.size ≤ O by have h1 := blk_lt HR2.out; have h2 := HO.out; omega)
  clear hZ HO HT2 HS2 HR2 B2 c1
  have cO : Z.cell? ⟨O, 0, none⟩ = some (.bool true) := blk_cell HO3.out 0
  have cS : Z.cell? ⟨w.heap.size, 0, none⟩ = some (.string a1) := blk_cell HS3.out 0

  go_upto_region 13 with (go_at_call 33; refine (try_absolute _ O _ TT a1 r1 r2 r3 true _ _ _ HOT.out HO3 HS3 HT3 HC).mono ?_; rintro e V ⟨rfl, W1, hb, hV⟩; have hA := try_after BZ.out hb hV HO3.out HT3.out HR3.out HOT.out HOR.out HRT.out HXS.out HBO.out; have HO4 := Aside0.mk hA.1; have HT4 := Aside0.mk hA.2.1; have HR4 := Aside0.mk hA.2.2.1; have BV := Aside0.mk hA.2.2.2; clear hA hV hb W1 cO cS; have cO := blk_cell HO4.out 0)

  go_wp2_with (first | (refine wpList_load_row rfl 32 (.tmp 6) rfl TT rfl 32 _ (0, 0) _ HT4.out Tryd.underlying32 rfl (by kernel_rfl) ?_) | (refine wpList_store_row rfl 32 (.tmp 4) (.tmp 45) rfl (w.heap.size + 1) #[.int .i64 r1, .string r2, .string r3] rfl rfl _ _ HR4.out (by kernel_rfl) rfl (by simp [Value.oneCell']) ?_))

  refine bodyPost_ret (results_ct rfl _ _ (w.heap.size + 1) 32 #[.int .i64 r1, .string r2, .string r3] (0, 0) _ rfl (by exact setRow_heap _ _ _ _ _ _ HR4.out) Tryd.underlying32 rfl (by kernel_rfl)) rfl ?_
  exact ⟨rfl, below_setRow BV.out (Nat.le_succ _) _⟩
set_option maxHeartbeats 8000000 in
set_option maxRecDepth 100000 in
theorem parse_k_connect_false (a0 a1 : ByteArray) (w : World) (he : (a1.toList == []) = false)(hc : decide (0 ≤ Lib.indexByte a1.data.toList 35) = false) (HV : ∀ W, Calls Tryd.prog 31 #[.string a1] W fun e w' => e = .returned (.bool true) ∧ Below W.heap.size W w')(m1 : (a0.toList == [67, 79, 78, 78, 69, 67, 84]) = true)(r1 : Int) (r2 r3 : ByteArray)(HC : ∀ W, Calls Tryd.prog 34 #[.string a1] W fun e w' => e = .returned (.tuple #[.agg #[.int .i64 r1, .string r2, .string r3], .bool false]) ∧ Below W.heap.size W w') :
    Calls Tryd.prog 11 #[.string a0, .string a1] w fun e w' => e = .returned (.tuple #[.agg #[.int .i64 0, .string (⟨#[]⟩ : ByteArray), .string (⟨#[]⟩ : ByteArray)], .int .i64 11]) ∧ Below w.heap.size w w' := by
  have he2 : a1.toList.isEmpty = false := by rw [Bool.eq_false_iff]; intro hh; rw [List.isEmpty_iff] at hh; rw [hh] at he; cases he
  have hpos : 0 < a1.size := by
    rcases Nat.eq_zero_or_pos a1.size with h0 | h0
    · rw [Lib.toList_data] at he2
      have := size_list a1
      rw [h0] at this
      rw [List.isEmpty_eq_false_iff] at he2
      exact absurd (List.eq_nil_of_length_eq_zero this.symm) he2
    · exact h0

  have i0 : ((0 : Int) < (a1.size : Int)) = True := eq_true (by omega)
  have i1 : (0 < a1.size) = True := eq_true hpos
  have i2 : ((a1[0]'hpos).toNat : Int) = bt a1 0 := bt_at a1 0 hpos

  go_enter Tryd.func11, Tryd.ntmps11
  go_upto_region 1 with (fail)
  generalize hX : World.alloc _ _ = X
  have HS := Aside0.mk (show X.heap[w.heap.size]? = some (.cells #[.string a1] 9 (0, 0)) by rw [← hX]; exact blk_alloc (blk_new _ _) _)
  have HR := Aside0.mk (show X.heap[w.heap.size + 1]? = some (.cells #[.int .i64 0, .string (⟨#[]⟩ : ByteArray), .string (⟨#[]⟩ : ByteArray)] 32 (0, 0)) by rw [← hX]; have h := blk_new (w.alloc (.cells #[.string a1] 9)) (.cells #[.int .i64 0, .string (⟨#[]⟩ : ByteArray), .string (⟨#[]⟩ : ByteArray)] 32); simpa using h)
  have BX := Aside0.mk (show Below w.heap.size w X by rw [← hX]; exact below_alloc (below_alloc (Below.refl _ w) _) _)
  clear hX
  have c0 : X.cell? ⟨w.heap.size, 0, none⟩ = some (.string a1) := blk_cell HS.out 0

  go_upto_region 4 with (fail)
  generalize hY : World.alloc X _ = Y
  have HT := Aside0.mk (show Y.heap[X.heap.size]? = some (.cells #[.int .i64 0, .string (⟨#[]⟩ : ByteArray), .string (⟨#[]⟩ : ByteArray)] 32 (0, 0)) by rw [← hY]; exact blk_new _ _)
  have HS1 := Aside0.mk (show Y.heap[w.heap.size]? = some (.cells #[.string a1] 9 (0, 0)) by rw [← hY]; exact blk_alloc HS.out _)
  have HR1 := Aside0.mk (show Y.heap[w.heap.size + 1]? = some (.cells #[.int .i64 0, .string (⟨#[]⟩ : ByteArray), .string (⟨#[]⟩ : ByteArray)] 32 (0, 0)) by rw [← hY]; exact blk_alloc HR.out _)
  have BY := Aside0.mk (show Below w.heap.size w Y by rw [← hY]; exact below_alloc BX.out _)
  have HRT := Aside0.mk (show w.heap.size + 1 ≠ X.heap.size by have := blk_lt HR.out; omega)
  clear hY c0 HS HR
  have hxs := below_size BX.out
  have HXS := Aside0.mk hxs
  clear hxs BX
  generalize X.heap.size = TT at *
  have c0 : Y.cell? ⟨w.heap.size, 0, none⟩ = some (.string a1) := blk_cell HS1.out 0
  go_upto_region 5 with (first
    | (go_at_call 31; (with_reducible refine (HV _).mono ?_); rintro e w1 ⟨rfl, hb⟩; have HT2 := Aside0.mk (blk_below HT.out hb); have HS2 := Aside0.mk (blk_below HS1.out hb); have HR2 := Aside0.mk (blk_below HR1.out hb); have B2 := Aside0.mk (below_step BY.out hb); have c1 := blk_cell HS2.out 0; clear hb HT HS1 HR1 BY c0)
    | (go_at_call 32; (with_reducible refine (Tryd.strings_Contains_one a1 35 _).mono ?_); rintro e w' ⟨rfl, hw⟩; rw [hw]; clear hw))
  generalize hO : w1.heap.size = O at *
  have HO := Aside0.mk hO
  clear hO

  generalize hZ : World.alloc w1 _ = Z
  have HO3 := Aside0.mk (show Z.heap[O]? = some (.cells #[.bool true] 4 (0, 0)) by rw [← hZ, ← HO.out]; exact blk_new _ _)
  have HT3 := Aside0.mk (show Z.heap[TT]? = some (.cells #[.int .i64 0, .string (⟨#[]⟩ : ByteArray), .string (⟨#[]⟩ : ByteArray)] 32 (0, 0)) by rw [← hZ]; exact blk_alloc HT2.out _)
  have HS3 := Aside0.mk (show Z.heap[w.heap.size]? = some (.cells #[.string a1] 9 (0, 0)) by rw [← hZ]; exact blk_alloc HS2.out _)
  have HR3 := Aside0.mk (show Z.heap[w.heap.size + 1]? = some (.cells #[.int .i64 0, .string (⟨#[]⟩ : ByteArray), .string (⟨#[]⟩ : ByteArray)] 32 (0, 0)) by rw [← hZ]; exact blk_alloc HR2.out _)
  have BZ := Aside0.mk (show Below w.heap.size w Z by rw [← hZ]; exact below_alloc B2.out _)
  have HOT := Aside0.mk (show O ≠ TT by have h1 := blk_lt HT2.out; have h2 := HO.out; intro h3; omega)
  have HOR := Aside0.mk (show O ≠ w.heap.size + 1 by have h1 := blk_lt HR2.out; have h2 := HO.out; intro h3; omega)
  have HBO := Aside0.mk (show w.heap.size ≤ O by have h1 := blk_lt HR2.out; have h2 := HO.out; omega)
  clear hZ HO HT2 HS2 HR2 B2 c1
  have cO : Z.cell? ⟨O, 0, none⟩ = some (.bool true) := blk_cell HO3.out 0
  have cS : Z.cell? ⟨w.heap.size, 0, none⟩ = some (.string a1) := blk_cell HS3.out 0

  go_upto_region 13 with (go_at_call 33; refine (try_connect _ O _ TT a1 r1 r2 r3 false _ _ _ HOT.out HO3 HS3 HT3 HC).mono ?_; rintro e V ⟨rfl, W1, hb, hV⟩; have hA := try_after BZ.out hb hV HO3.out HT3.out HR3.out HOT.out HOR.out HRT.out HXS.out HBO.out; have HO4 := Aside0.mk hA.1; have HT4 := Aside0.mk hA.2.1; have HR4 := Aside0.mk hA.2.2.1; have BV := Aside0.mk hA.2.2.2; clear hA hV hb W1 cO cS; have cO := blk_cell HO4.out 0)

  go_wp2_with (refine wpList_store_row rfl 32 (.tmp 4) (.tmp 44) rfl (w.heap.size + 1) #[.int .i64 0, .string (⟨#[]⟩ : ByteArray), .string (⟨#[]⟩ : ByteArray)] rfl rfl _ _ HR4.out (by kernel_rfl) rfl (by simp [Value.oneCell']) ?_)

  refine bodyPost_ret (results_ct rfl _ _ (w.heap.size + 1) 32 #[.int .i64 0, .string (⟨#[]⟩ : ByteArray), .string (⟨#[]⟩ : ByteArray)] (0, 0) _ rfl (by exact setRow_heap _ _ _ _ _ _ HR4.out) Tryd.underlying32 rfl (by kernel_rfl)) rfl ?_
  exact ⟨rfl, below_setRow BV.out (Nat.le_succ _) _⟩
set_option maxHeartbeats 8000000 in
set_option maxRecDepth 100000 in
theorem parse_k_absolute_false (a0 a1 : ByteArray) (w : World) (he : (a1.toList == []) = false)(hc : decide (0 ≤ Lib.indexByte a1.data.toList 35) = false) (HV : ∀ W, Calls Tryd.prog 31 #[.string a1] W fun e w' => e = .returned (.bool true) ∧ Below W.heap.size W w')(m1 : (a0.toList == [67, 79, 78, 78, 69, 67, 84]) = false)(s1 : (bt a1 0 == 47) = false)(s2 : (a1.toList == [42]) = false)(r1 : Int) (r2 r3 : ByteArray)(HC : ∀ W, Calls Tryd.prog 35 #[.string a1] W fun e w' => e = .returned (.tuple #[.agg #[.int .i64 r1, .string r2, .string r3], .bool false]) ∧ Below W.heap.size W w') :
    Calls Tryd.prog 11 #[.string a0, .string a1] w fun e w' => e = .returned (.tuple #[.agg #[.int .i64 0, .string (⟨#[]⟩ : ByteArray), .string (⟨#[]⟩ : ByteArray)], .int .i64 11]) ∧ Below w.heap.size w w' := by
  have he2 : a1.toList.isEmpty = false := by rw [Bool.eq_false_iff]; intro hh; rw [List.isEmpty_iff] at hh; rw [hh] at he; cases he
  have hpos : 0 < a1.size := by
    rcases Nat.eq_zero_or_pos a1.size with h0 | h0
    · rw [Lib.toList_data] at he2
      have := size_list a1
      rw [h0] at this
      rw [List.isEmpty_eq_false_iff] at he2
      exact absurd (List.eq_nil_of_length_eq_zero this.symm) he2
    · exact h0

  have i0 : ((0 : Int) < (a1.size : Int)) = True := eq_true (by omega)
  have i1 : (0 < a1.size) = True := eq_true hpos
  have i2 : ((a1[0]'hpos).toNat : Int) = bt a1 0 := bt_at a1 0 hpos

  go_enter Tryd.func11, Tryd.ntmps11
  go_upto_region 1 with (fail)
  generalize hX : World.alloc _ _ = X
  have HS := Aside0.mk (show X.heap[w.heap.size]? = some (.cells #[.string a1] 9 (0, 0)) by rw [← hX]; exact blk_alloc (blk_new _ _) _)
  have HR := Aside0.mk (show X.heap[w.heap.size + 1]? = some (.cells #[.int .i64 0, .string (⟨#[]⟩ : ByteArray), .string (⟨#[]⟩ : ByteArray)] 32 (0, 0)) by rw [← hX]; have h := blk_new (w.alloc (.cells #[.string a1] 9)) (.cells #[.int .i64 0, .string (⟨#[]⟩ : ByteArray), .string (⟨#[]⟩ : ByteArray)] 32); simpa using h)
  have BX := Aside0.mk (show Below w.heap.size w X by rw [← hX]; exact below_alloc (below_alloc (Below.refl _ w) _) _)
  clear hX
  have c0 : X.cell? ⟨w.heap.size, 0, none⟩ = some (.string a1) := blk_cell HS.out 0

  go_upto_region 4 with (fail)
  generalize hY : World.alloc X _ = Y
  have HT := Aside0.mk (show Y.heap[X.heap.size]? = some (.cells #[.int .i64 0, .string (⟨#[]⟩ : ByteArray), .string (⟨#[]⟩ : ByteArray)] 32 (0, 0)) by rw [← hY]; exact blk_new _ _)
  have HS1 := Aside0.mk (show Y.heap[w.heap.size]? = some (.cells #[.string a1] 9 (0, 0)) by rw [← hY]; exact blk_alloc HS.out _)
  have HR1 := Aside0.mk (show Y.heap[w.heap.size + 1]? = some (.cells #[.int .i64 0, .string (⟨#[]⟩ : ByteArray), .string (⟨#[]⟩ : ByteArray)] 32 (0, 0)) by rw [← hY]; exact blk_alloc HR.out _)
  have BY := Aside0.mk (show Below w.heap.size w Y by rw [← hY]; exact below_alloc BX.out _)
  have HRT := Aside0.mk (show w.heap.size + 1 ≠ X.heap.size by have := blk_lt HR.out; omega)
  clear hY c0 HS HR
  have hxs := below_size BX.out
  have HXS := Aside0.mk hxs
  clear hxs BX
  generalize X.heap.size = TT at *
  have c0 : Y.cell? ⟨w.heap.size, 0, none⟩ = some (.string a1) := blk_cell HS1.out 0
  go_upto_region 5 with (first
    | (go_at_call 31; (with_reducible refine (HV _).mono ?_); rintro e w1 ⟨rfl, hb⟩; have HT2 := Aside0.mk (blk_below HT.out hb); have HS2 := Aside0.mk (blk_below HS1.out hb); have HR2 := Aside0.mk (blk_below HR1.out hb); have B2 := Aside0.mk (below_step BY.out hb); have c1 := blk_cell HS2.out 0; clear hb HT HS1 HR1 BY c0)
    | (go_at_call 32; (with_reducible refine (Tryd.strings_Contains_one a1 35 _).mono ?_); rintro e w' ⟨rfl, hw⟩; rw [hw]; clear hw))
  generalize hO : w1.heap.size = O at *
  have HO := Aside0.mk hO
  clear hO

  generalize hZ : World.alloc w1 _ = Z
  have HO3 := Aside0.mk (show Z.heap[O]? = some (.cells #[.bool true] 4 (0, 0)) by rw [← hZ, ← HO.out]; exact blk_new _ _)
  have HT3 := Aside0.mk (show Z.heap[TT]? = some (.cells #[.int .i64 0, .string (⟨#[]⟩ : ByteArray), .string (⟨#[]⟩ : ByteArray)] 32 (0, 0)) by rw [← hZ]; exact blk_alloc HT2.out _)
  have HS3 := Aside0.mk (show Z.heap[w.heap.size]? = some (.cells #[.string a1] 9 (0, 0)) by rw [← hZ]; exact blk_alloc HS2.out _)
  have HR3 := Aside0.mk (show Z.heap[w.heap.size + 1]? = some (.cells #[.int .i64 0, .string (⟨#[]⟩ : ByteArray), .string (⟨#[]⟩ : ByteArray)] 32 (0, 0)) by rw [← hZ]; exact blk_alloc HR2.out _)
  have BZ := Aside0.mk (show Below w.heap.size w Z by rw [← hZ]; exact below_alloc B2.out _)
  have HOT := Aside0.mk (show O ≠ TT by have h1 := blk_lt HT2.out; have h2 := HO.out; intro h3; omega)
  have HOR := Aside0.mk (show O ≠ w.heap.size + 1 by have h1 := blk_lt HR2.out; have h2 := HO.out; intro h3; omega)
  have HBO := Aside0.mk (show w.heap.size ≤ O by have h1 := blk_lt HR2.out; have h2 := HO.out; omega)
  clear hZ HO HT2 HS2 HR2 B2 c1
  have cO : Z.cell? ⟨O, 0, none⟩ = some (.bool true) := blk_cell HO3.out 0
  have cS : Z.cell? ⟨w.heap.size, 0, none⟩ = some (.string a1) := blk_cell HS3.out 0

  go_upto_region 13 with (go_at_call 33; refine (try_absolute _ O _ TT a1 r1 r2 r3 false _ _ _ HOT.out HO3 HS3 HT3 HC).mono ?_; rintro e V ⟨rfl, W1, hb, hV⟩; have hA := try_after BZ.out hb hV HO3.out HT3.out HR3.out HOT.out HOR.out HRT.out HXS.out HBO.out; have HO4 := Aside0.mk hA.1; have HT4 := Aside0.mk hA.2.1; have HR4 := Aside0.mk hA.2.2.1; have BV := Aside0.mk hA.2.2.2; clear hA hV hb W1 cO cS; have cO := blk_cell HO4.out 0)

  go_wp2_with (refine wpList_store_row rfl 32 (.tmp 4) (.tmp 44) rfl (w.heap.size + 1) #[.int .i64 0, .string (⟨#[]⟩ : ByteArray), .string (⟨#[]⟩ : ByteArray)] rfl rfl _ _ HR4.out (by kernel_rfl) rfl (by simp [Value.oneCell']) ?_)

  refine bodyPost_ret (results_ct rfl _ _ (w.heap.size + 1) 32 #[.int .i64 0, .string (⟨#[]⟩ : ByteArray), .string (⟨#[]⟩ : ByteArray)] (0, 0) _ rfl (by exact setRow_heap _ _ _ _ _ _ HR4.out) Tryd.underlying32 rfl (by kernel_rfl)) rfl ?_
  exact ⟨rfl, below_setRow BV.out (Nat.le_succ _) _⟩
set_option maxHeartbeats 8000000 in
set_option maxRecDepth 100000 in
theorem parse_k_slash (a0 a1 : ByteArray) (w : World) (he : (a1.toList == []) = false)(hc : decide (0 ≤ Lib.indexByte a1.data.toList 35) = false) (HV : ∀ W, Calls Tryd.prog 31 #[.string a1] W fun e w' => e = .returned (.bool true) ∧ Below W.heap.size W w')(m1 : (a0.toList == [67, 79, 78, 78, 69, 67, 84]) = false)(s1 : (bt a1 0 == 47) = true) :
    Calls Tryd.prog 11 #[.string a0, .string a1] w fun e w' => e = .returned (.tuple #[.agg #[.int .i64 1, .string (⟨#[]⟩ : ByteArray), .string a1], .int .i64 0]) ∧ Below w.heap.size w w' := by
  have he2 : a1.toList.isEmpty = false := by rw [Bool.eq_false_iff]; intro hh; rw [List.isEmpty_iff] at hh; rw [hh] at he; cases he
  have hpos : 0 < a1.size := by
    rcases Nat.eq_zero_or_pos a1.size with h0 | h0
    · rw [Lib.toList_data] at he2
      have := size_list a1
      rw [h0] at this
      rw [List.isEmpty_eq_false_iff] at he2
      exact absurd (List.eq_nil_of_length_eq_zero this.symm) he2
    · exact h0

  have i0 : ((0 : Int) < (a1.size : Int)) = True := eq_true (by omega)
  have i1 : (0 < a1.size) = True := eq_true hpos
  have i2 : ((a1[0]'hpos).toNat : Int) = bt a1 0 := bt_at a1 0 hpos

  go_enter Tryd.func11, Tryd.ntmps11
  go_upto_region 1 with (fail)
  generalize hX : World.alloc _ _ = X
  have HS := Aside0.mk (show X.heap[w.heap.size]? = some (.cells #[.string a1] 9 (0, 0)) by rw [← hX]; exact blk_alloc (blk_new _ _) _)
  have HR := Aside0.mk (show X.heap[w.heap.size + 1]? = some (.cells #[.int .i64 0, .string (⟨#[]⟩ : ByteArray), .string (⟨#[]⟩ : ByteArray)] 32 (0, 0)) by rw [← hX]; have h := blk_new (w.alloc (.cells #[.string a1] 9)) (.cells #[.int .i64 0, .string (⟨#[]⟩ : ByteArray), .string (⟨#[]⟩ : ByteArray)] 32); simpa using h)
  have BX := Aside0.mk (show Below w.heap.size w X by rw [← hX]; exact below_alloc (below_alloc (Below.refl _ w) _) _)
  clear hX
  have c0 : X.cell? ⟨w.heap.size, 0, none⟩ = some (.string a1) := blk_cell HS.out 0

  go_upto_region 4 with (fail)
  generalize hY : World.alloc X _ = Y
  have HT := Aside0.mk (show Y.heap[X.heap.size]? = some (.cells #[.int .i64 0, .string (⟨#[]⟩ : ByteArray), .string (⟨#[]⟩ : ByteArray)] 32 (0, 0)) by rw [← hY]; exact blk_new _ _)
  have HS1 := Aside0.mk (show Y.heap[w.heap.size]? = some (.cells #[.string a1] 9 (0, 0)) by rw [← hY]; exact blk_alloc HS.out _)
  have HR1 := Aside0.mk (show Y.heap[w.heap.size + 1]? = some (.cells #[.int .i64 0, .string (⟨#[]⟩ : ByteArray), .string (⟨#[]⟩ : ByteArray)] 32 (0, 0)) by rw [← hY]; exact blk_alloc HR.out _)
  have BY := Aside0.mk (show Below w.heap.size w Y by rw [← hY]; exact below_alloc BX.out _)
  have HRT := Aside0.mk (show w.heap.size + 1 ≠ X.heap.size by have := blk_lt HR.out; omega)
  clear hY c0 HS HR
  have hxs := below_size BX.out
  have HXS := Aside0.mk hxs
  clear hxs BX
  generalize X.heap.size = TT at *
  have c0 : Y.cell? ⟨w.heap.size, 0, none⟩ = some (.string a1) := blk_cell HS1.out 0
  go_upto_region 5 with (first
    | (go_at_call 31; (with_reducible refine (HV _).mono ?_); rintro e w1 ⟨rfl, hb⟩; have HT2 := Aside0.mk (blk_below HT.out hb); have HS2 := Aside0.mk (blk_below HS1.out hb); have HR2 := Aside0.mk (blk_below HR1.out hb); have B2 := Aside0.mk (below_step BY.out hb); have c1 := blk_cell HS2.out 0; clear hb HT HS1 HR1 BY c0)
    | (go_at_call 32; (with_reducible refine (Tryd.strings_Contains_one a1 35 _).mono ?_); rintro e w' ⟨rfl, hw⟩; rw [hw]; clear hw))
  generalize hO : w1.heap.size = O at *
  have HO := Aside0.mk hO
  clear hO

  generalize hZ : World.alloc w1 _ = Z
  have HO3 := Aside0.mk (show Z.heap[O]? = some (.cells #[.bool true] 4 (0, 0)) by rw [← hZ, ← HO.out]; exact blk_new _ _)
  have HT3 := Aside0.mk (show Z.heap[TT]? = some (.cells #[.int .i64 0, .string (⟨#[]⟩ : ByteArray), .string (⟨#[]⟩ : ByteArray)] 32 (0, 0)) by rw [← hZ]; exact blk_alloc HT2.out _)
  have HS3 := Aside0.mk (show Z.heap[w.heap.size]? = some (.cells #[.string a1] 9 (0, 0)) by rw [← hZ]; exact blk_alloc HS2.out _)
  have HR3 := Aside0.mk (show Z.heap[w.heap.size + 1]? = some (.cells #[.int .i64 0, .string (⟨#[]⟩ : ByteArray), .string (⟨#[]⟩ : ByteArray)] 32 (0, 0)) by rw [← hZ]; exact blk_alloc HR2.out _)
  have BZ := Aside0.mk (show Below w.heap.size w Z by rw [← hZ]; exact below_alloc B2.out _)
  have HOT := Aside0.mk (show O ≠ TT by have h1 := blk_lt HT2.out; have h2 := HO.out; intro h3; omega)
  have HOR := Aside0.mk (show O ≠ w.heap.size + 1 by have h1 := blk_lt HR2.out; have h2 := HO.out; intro h3; omega)
  have HBO := Aside0.mk (show w.heap.size ≤ O by have h1 := blk_lt HR2.out; have h2 := HO.out; omega)
  clear hZ HO HT2 HS2 HR2 B2 c1
  have cO : Z.cell? ⟨O, 0, none⟩ = some (.bool true) := blk_cell HO3.out 0
  have cS : Z.cell? ⟨w.heap.size, 0, none⟩ = some (.string a1) := blk_cell HS3.out 0

  go_upto_region 13 with (refine wpList_store_row rfl 32 (.tmp 6) (.tmp 32) rfl TT #[.int .i64 1, .string (⟨#[]⟩ : ByteArray), .string a1] rfl rfl _ _ HT3.out (by kernel_rfl) rfl (by simp [Value.oneCell']) ?_)

  generalize hV : World.setRow Z TT #[.int .i64 1, .string (⟨#[]⟩ : ByteArray), .string a1] = V
  have HO4 := Aside0.mk (show V.heap[O]? = some (.cells #[.bool true] 4 (0, 0)) by rw [← hV]; exact (setRow_other Z TT O _ HOT.out).trans HO3.out)
  have HT4 := Aside0.mk (show V.heap[TT]? = some (.cells #[.int .i64 1, .string (⟨#[]⟩ : ByteArray), .string a1] 32 (0, 0)) by rw [← hV]; exact setRow_heap _ _ _ _ _ _ HT3.out)
  have HR4 := Aside0.mk (show V.heap[w.heap.size + 1]? = some (.cells #[.int .i64 0, .string (⟨#[]⟩ : ByteArray), .string (⟨#[]⟩ : ByteArray)] 32 (0, 0)) by rw [← hV]; exact (setRow_other Z TT _ _ HRT.out).trans HR3.out)
  have BV := Aside0.mk (show Below w.heap.size w V by rw [← hV]; exact below_setRow BZ.out HXS.out _)
  clear hV cO cS
  have cO := blk_cell HO4.out 0

  go_wp2_with (first | (refine wpList_load_row rfl 32 (.tmp 6) rfl TT rfl 32 _ (0, 0) _ HT4.out Tryd.underlying32 rfl (by kernel_rfl) ?_) | (refine wpList_store_row rfl 32 (.tmp 4) (.tmp 45) rfl (w.heap.size + 1) #[.int .i64 1, .string (⟨#[]⟩ : ByteArray), .string a1] rfl rfl _ _ HR4.out (by kernel_rfl) rfl (by simp [Value.oneCell']) ?_))

  refine bodyPost_ret (results_ct rfl _ _ (w.heap.size + 1) 32 #[.int .i64 1, .string (⟨#[]⟩ : ByteArray), .string a1] (0, 0) _ rfl (by exact setRow_heap _ _ _ _ _ _ HR4.out) Tryd.underlying32 rfl (by kernel_rfl)) rfl ?_
  exact ⟨rfl, below_setRow BV.out (Nat.le_succ _) _⟩
set_option maxHeartbeats 8000000 in
set_option maxRecDepth 100000 in
theorem parse_k_star_true (a0 a1 : ByteArray) (w : World) (he : (a1.toList == []) = false)(hc : decide (0 ≤ Lib.indexByte a1.data.toList 35) = false) (HV : ∀ W, Calls Tryd.prog 31 #[.string a1] W fun e w' => e = .returned (.bool true) ∧ Below W.heap.size W w')(m1 : (a0.toList == [67, 79, 78, 78, 69, 67, 84]) = false)(s1 : (bt a1 0 == 47) = false)(s2 : (a1.toList == [42]) = true)(m2 : (a0.toList == [79, 80, 84, 73, 79, 78, 83]) = true) :
    Calls Tryd.prog 11 #[.string a0, .string a1] w fun e w' => e = .returned (.tuple #[.agg #[.int .i64 4, .string (⟨#[]⟩ : ByteArray), .string (⟨#[]⟩ : ByteArray)], .int .i64 0]) ∧ Below w.heap.size w w' := by
  have he2 : a1.toList.isEmpty = false := by rw [Bool.eq_false_iff]; intro hh; rw [List.isEmpty_iff] at hh; rw [hh] at he; cases he
  have hpos : 0 < a1.size := by
    rcases Nat.eq_zero_or_pos a1.size with h0 | h0
    · rw [Lib.toList_data] at he2
      have := size_list a1
      rw [h0] at this
      rw [List.isEmpty_eq_false_iff] at he2
      exact absurd (List.eq_nil_of_length_eq_zero this.symm) he2
    · exact h0

  have i0 : ((0 : Int) < (a1.size : Int)) = True := eq_true (by omega)
  have i1 : (0 < a1.size) = True := eq_true hpos
  have i2 : ((a1[0]'hpos).toNat : Int) = bt a1 0 := bt_at a1 0 hpos

  go_enter Tryd.func11, Tryd.ntmps11
  go_upto_region 1 with (fail)
  generalize hX : World.alloc _ _ = X
  have HS := Aside0.mk (show X.heap[w.heap.size]? = some (.cells #[.string a1] 9 (0, 0)) by rw [← hX]; exact blk_alloc (blk_new _ _) _)
  have HR := Aside0.mk (show X.heap[w.heap.size + 1]? = some (.cells #[.int .i64 0, .string (⟨#[]⟩ : ByteArray), .string (⟨#[]⟩ : ByteArray)] 32 (0, 0)) by rw [← hX]; have h := blk_new (w.alloc (.cells #[.string a1] 9)) (.cells #[.int .i64 0, .string (⟨#[]⟩ : ByteArray), .string (⟨#[]⟩ : ByteArray)] 32); simpa using h)
  have BX := Aside0.mk (show Below w.heap.size w X by rw [← hX]; exact below_alloc (below_alloc (Below.refl _ w) _) _)
  clear hX
  have c0 : X.cell? ⟨w.heap.size, 0, none⟩ = some (.string a1) := blk_cell HS.out 0

  go_upto_region 4 with (fail)
  generalize hY : World.alloc X _ = Y
  have HT := Aside0.mk (show Y.heap[X.heap.size]? = some (.cells #[.int .i64 0, .string (⟨#[]⟩ : ByteArray), .string (⟨#[]⟩ : ByteArray)] 32 (0, 0)) by rw [← hY]; exact blk_new _ _)
  have HS1 := Aside0.mk (show Y.heap[w.heap.size]? = some (.cells #[.string a1] 9 (0, 0)) by rw [← hY]; exact blk_alloc HS.out _)
  have HR1 := Aside0.mk (show Y.heap[w.heap.size + 1]? = some (.cells #[.int .i64 0, .string (⟨#[]⟩ : ByteArray), .string (⟨#[]⟩ : ByteArray)] 32 (0, 0)) by rw [← hY]; exact blk_alloc HR.out _)
  have BY := Aside0.mk (show Below w.heap.size w Y by rw [← hY]; exact below_alloc BX.out _)
  have HRT := Aside0.mk (show w.heap.size + 1 ≠ X.heap.size by have := blk_lt HR.out; omega)
  clear hY c0 HS HR
  have hxs := below_size BX.out
  have HXS := Aside0.mk hxs
  clear hxs BX
  generalize X.heap.size = TT at *
  have c0 : Y.cell? ⟨w.heap.size, 0, none⟩ = some (.string a1) := blk_cell HS1.out 0
  go_upto_region 5 with (first
    | (go_at_call 31; (with_reducible refine (HV _).mono ?_); rintro e w1 ⟨rfl, hb⟩; have HT2 := Aside0.mk (blk_below HT.out hb); have HS2 := Aside0.mk (blk_below HS1.out hb); have HR2 := Aside0.mk (blk_below HR1.out hb); have B2 := Aside0.mk (below_step BY.out hb); have c1 := blk_cell HS2.out 0; clear hb HT HS1 HR1 BY c0)
    | (go_at_call 32; (with_reducible refine (Tryd.strings_Contains_one a1 35 _).mono ?_); rintro e w' ⟨rfl, hw⟩; rw [hw]; clear hw))
  generalize hO : w1.heap.size = O at *
  have HO := Aside0.mk hO
  clear hO

  generalize hZ : World.alloc w1 _ = Z
  have HO3 := Aside0.mk (show Z.heap[O]? = some (.cells #[.bool true] 4 (0, 0)) by rw [← hZ, ← HO.out]; exact blk_new _ _)
  have HT3 := Aside0.mk (show Z.heap[TT]? = some (.cells #[.int .i64 0, .string (⟨#[]⟩ : ByteArray), .string (⟨#[]⟩ : ByteArray)] 32 (0, 0)) by rw [← hZ]; exact blk_alloc HT2.out _)
  have HS3 := Aside0.mk (show Z.heap[w.heap.size]? = some (.cells #[.string a1] 9 (0, 0)) by rw [← hZ]; exact blk_alloc HS2.out _)
  have HR3 := Aside0.mk (show Z.heap[w.heap.size + 1]? = some (.cells #[.int .i64 0, .string (⟨#[]⟩ : ByteArray), .string (⟨#[]⟩ : ByteArray)] 32 (0, 0)) by rw [← hZ]; exact blk_alloc HR2.out _)
  have BZ := Aside0.mk (show Below w.heap.size w Z by rw [← hZ]; exact below_alloc B2.out _)
  have HOT := Aside0.mk (show O ≠ TT by have h1 := blk_lt HT2.out; have h2 := HO.out; intro h3; omega)
  have HOR := Aside0.mk (show O ≠ w.heap.size + 1 by have h1 := blk_lt HR2.out; have h2 := HO.out; intro h3; omega)
  have HBO := Aside0.mk (show w.heap.size ≤ O by have h1 := blk_lt HR2.out; have h2 := HO.out; omega)
  clear hZ HO HT2 HS2 HR2 B2 c1
  have cO : Z.cell? ⟨O, 0, none⟩ = some (.bool true) := blk_cell HO3.out 0
  have cS : Z.cell? ⟨w.heap.size, 0, none⟩ = some (.string a1) := blk_cell HS3.out 0

  have HO5 := Aside0.mk ((setRow_other Z TT O #[.int .i64 4, .string (⟨#[]⟩ : ByteArray), .string (⟨#[]⟩ : ByteArray)] HOT.out).trans HO3.out)
  have d0 := blk_cell HO5.out 0
  have d1 := blk_frozen HO5.out 0

  go_upto_region 13 with (refine wpList_store_row rfl 32 (.tmp 6) (.tmp 36) rfl TT #[.int .i64 4, .string (⟨#[]⟩ : ByteArray), .string (⟨#[]⟩ : ByteArray)] rfl rfl _ _ HT3.out (by kernel_rfl) rfl (by simp [Value.oneCell']) ?_)

  generalize hV : World.setCell (World.setRow Z TT #[.int .i64 4, .string (⟨#[]⟩ : ByteArray), .string (⟨#[]⟩ : ByteArray)]) ⟨O, 0, none⟩ (.bool true) = V
  have HO4 := Aside0.mk (show V.heap[O]? = some (.cells #[.bool true] 4 (0, 0)) by rw [← hV]; exact blk_put ((setRow_other Z TT O _ HOT.out).trans HO3.out) 0 _ rfl)
  have HT4 := Aside0.mk (show V.heap[TT]? = some (.cells #[.int .i64 4, .string (⟨#[]⟩ : ByteArray), .string (⟨#[]⟩ : ByteArray)] 32 (0, 0)) by rw [← hV]; exact blk_far (setRow_heap _ _ _ _ _ _ HT3.out) (fun h => HOT.out h.symm) _)
  have HR4 := Aside0.mk (show V.heap[w.heap.size + 1]? = some (.cells #[.int .i64 0, .string (⟨#[]⟩ : ByteArray), .string (⟨#[]⟩ : ByteArray)] 32 (0, 0)) by rw [← hV]; exact blk_far ((setRow_other Z TT _ _ HRT.out).trans HR3.out) (fun h => HOR.out h.symm) _)
  have BV := Aside0.mk (show Below w.heap.size w V by rw [← hV]; exact (below_setRow BZ.out HXS.out _).setCell HBO.out _)
  clear hV cO cS
  have cO := blk_cell HO4.out 0

  go_wp2_with (first | (refine wpList_load_row rfl 32 (.tmp 6) rfl TT rfl 32 _ (0, 0) _ HT4.out Tryd.underlying32 rfl (by kernel_rfl) ?_) | (refine wpList_store_row rfl 32 (.tmp 4) (.tmp 45) rfl (w.heap.size + 1) #[.int .i64 4, .string (⟨#[]⟩ : ByteArray), .string (⟨#[]⟩ : ByteArray)] rfl rfl _ _ HR4.out (by kernel_rfl) rfl (by simp [Value.oneCell']) ?_))

  refine bodyPost_ret (results_ct rfl _ _ (w.heap.size + 1) 32 #[.int .i64 4, .string (⟨#[]⟩ : ByteArray), .string (⟨#[]⟩ : ByteArray)] (0, 0) _ rfl (by exact setRow_heap _ _ _ _ _ _ HR4.out) Tryd.underlying32 rfl (by kernel_rfl)) rfl ?_
  exact ⟨rfl, below_setRow BV.out (Nat.le_succ _) _⟩
set_option maxHeartbeats 8000000 in
set_option maxRecDepth 100000 in
theorem parse_k_star_false (a0 a1 : ByteArray) (w : World) (he : (a1.toList == []) = false)(hc : decide (0 ≤ Lib.indexByte a1.data.toList 35) = false) (HV : ∀ W, Calls Tryd.prog 31 #[.string a1] W fun e w' => e = .returned (.bool true) ∧ Below W.heap.size W w')(m1 : (a0.toList == [67, 79, 78, 78, 69, 67, 84]) = false)(s1 : (bt a1 0 == 47) = false)(s2 : (a1.toList == [42]) = true)(m2 : (a0.toList == [79, 80, 84, 73, 79, 78, 83]) = false) :
    Calls Tryd.prog 11 #[.string a0, .string a1] w fun e w' => e = .returned (.tuple #[.agg #[.int .i64 0, .string (⟨#[]⟩ : ByteArray), .string (⟨#[]⟩ : ByteArray)], .int .i64 11]) ∧ Below w.heap.size w w' := by
  have he2 : a1.toList.isEmpty = false := by rw [Bool.eq_false_iff]; intro hh; rw [List.isEmpty_iff] at hh; rw [hh] at he; cases he
  have hpos : 0 < a1.size := by
    rcases Nat.eq_zero_or_pos a1.size with h0 | h0
    · rw [Lib.toList_data] at he2
      have := size_list a1
      rw [h0] at this
      rw [List.isEmpty_eq_false_iff] at he2
      exact absurd (List.eq_nil_of_length_eq_zero this.symm) he2
    · exact h0

  have i0 : ((0 : Int) < (a1.size : Int)) = True := eq_true (by omega)
  have i1 : (0 < a1.size) = True := eq_true hpos
  have i2 : ((a1[0]'hpos).toNat : Int) = bt a1 0 := bt_at a1 0 hpos

  go_enter Tryd.func11, Tryd.ntmps11
  go_upto_region 1 with (fail)
  generalize hX : World.alloc _ _ = X
  have HS := Aside0.mk (show X.heap[w.heap.size]? = some (.cells #[.string a1] 9 (0, 0)) by rw [← hX]; exact blk_alloc (blk_new _ _) _)
  have HR := Aside0.mk (show X.heap[w.heap.size + 1]? = some (.cells #[.int .i64 0, .string (⟨#[]⟩ : ByteArray), .string (⟨#[]⟩ : ByteArray)] 32 (0, 0)) by rw [← hX]; have h := blk_new (w.alloc (.cells #[.string a1] 9)) (.cells #[.int .i64 0, .string (⟨#[]⟩ : ByteArray), .string (⟨#[]⟩ : ByteArray)] 32); simpa using h)
  have BX := Aside0.mk (show Below w.heap.size w X by rw [← hX]; exact below_alloc (below_alloc (Below.refl _ w) _) _)
  clear hX
  have c0 : X.cell? ⟨w.heap.size, 0, none⟩ = some (.string a1) := blk_cell HS.out 0

  go_upto_region 4 with (fail)
  generalize hY : World.alloc X _ = Y
  have HT := Aside0.mk (show Y.heap[X.heap.size]? = some (.cells #[.int .i64 0, .string (⟨#[]⟩ : ByteArray), .string (⟨#[]⟩ : ByteArray)] 32 (0, 0)) by rw [← hY]; exact blk_new _ _)
  have HS1 := Aside0.mk (show Y.heap[w.heap.size]? = some (.cells #[.string a1] 9 (0, 0)) by rw [← hY]; exact blk_alloc HS.out _)
  have HR1 := Aside0.mk (show Y.heap[w.heap.size + 1]? = some (.cells #[.int .i64 0, .string (⟨#[]⟩ : ByteArray), .string (⟨#[]⟩ : ByteArray)] 32 (0, 0)) by rw [← hY]; exact blk_alloc HR.out _)
  have BY := Aside0.mk (show Below w.heap.size w Y by rw [← hY]; exact below_alloc BX.out _)
  have HRT := Aside0.mk (show w.heap.size + 1 ≠ X.heap.size by have := blk_lt HR.out; omega)
  clear hY c0 HS HR
  have hxs := below_size BX.out
  have HXS := Aside0.mk hxs
  clear hxs BX
  generalize X.heap.size = TT at *
  have c0 : Y.cell? ⟨w.heap.size, 0, none⟩ = some (.string a1) := blk_cell HS1.out 0
  go_upto_region 5 with (first
    | (go_at_call 31; (with_reducible refine (HV _).mono ?_); rintro e w1 ⟨rfl, hb⟩; have HT2 := Aside0.mk (blk_below HT.out hb); have HS2 := Aside0.mk (blk_below HS1.out hb); have HR2 := Aside0.mk (blk_below HR1.out hb); have B2 := Aside0.mk (below_step BY.out hb); have c1 := blk_cell HS2.out 0; clear hb HT HS1 HR1 BY c0)
    | (go_at_call 32; (with_reducible refine (Tryd.strings_Contains_one a1 35 _).mono ?_); rintro e w' ⟨rfl, hw⟩; rw [hw]; clear hw))
  generalize hO : w1.heap.size = O at *
  have HO := Aside0.mk hO
  clear hO

  generalize hZ : World.alloc w1 _ = Z
  have HO3 := Aside0.mk (show Z.heap[O]? = some (.cells #[.bool true] 4 (0, 0)) by rw [← hZ, ← HO.out]; exact blk_new _ _)
  have HT3 := Aside0.mk (show Z.heap[TT]? = some (.cells #[.int .i64 0, .string (⟨#[]⟩ : ByteArray), .string (⟨#[]⟩ : ByteArray)] 32 (0, 0)) by rw [← hZ]; exact blk_alloc HT2.out _)
  have HS3 := Aside0.mk (show Z.heap[w.heap.size]? = some (.cells #[.string a1] 9 (0, 0)) by rw [← hZ]; exact blk_alloc HS2.out _)
  have HR3 := Aside0.mk (show Z.heap[w.heap.size + 1]? = some (.cells #[.int .i64 0, .string (⟨#[]⟩ : ByteArray), .string (⟨#[]⟩ : ByteArray)] 32 (0, 0)) by rw [← hZ]; exact blk_alloc HR2.out _)
  have BZ := Aside0.mk (show Below w.heap.size w Z by rw [← hZ]; exact below_alloc B2.out _)
  have HOT := Aside0.mk (show O ≠ TT by have h1 := blk_lt HT2.out; have h2 := HO.out; intro h3; omega)
  have HOR := Aside0.mk (show O ≠ w.heap.size + 1 by have h1 := blk_lt HR2.out; have h2 := HO.out; intro h3; omega)
  have HBO := Aside0.mk (show w.heap.size ≤ O by have h1 := blk_lt HR2.out; have h2 := HO.out; omega)
  clear hZ HO HT2 HS2 HR2 B2 c1
  have cO : Z.cell? ⟨O, 0, none⟩ = some (.bool true) := blk_cell HO3.out 0
  have cS : Z.cell? ⟨w.heap.size, 0, none⟩ = some (.string a1) := blk_cell HS3.out 0

  have HO5 := Aside0.mk ((setRow_other Z TT O #[.int .i64 4, .string (⟨#[]⟩ : ByteArray), .string (⟨#[]⟩ : ByteArray)] HOT.out).trans HO3.out)
  have d0 := blk_cell HO5.out 0
  have d1 := blk_frozen HO5.out 0

  go_upto_region 13 with (refine wpList_store_row rfl 32 (.tmp 6) (.tmp 36) rfl TT #[.int .i64 4, .string (⟨#[]⟩ : ByteArray), .string (⟨#[]⟩ : ByteArray)] rfl rfl _ _ HT3.out (by kernel_rfl) rfl (by simp [Value.oneCell']) ?_)

  generalize hV : World.setCell (World.setRow Z TT #[.int .i64 4, .string (⟨#[]⟩ : ByteArray), .string (⟨#[]⟩ : ByteArray)]) ⟨O, 0, none⟩ (.bool false) = V
  have HO4 := Aside0.mk (show V.heap[O]? = some (.cells #[.bool false] 4 (0, 0)) by rw [← hV]; exact blk_put ((setRow_other Z TT O _ HOT.out).trans HO3.out) 0 _ rfl)
  have HT4 := Aside0.mk (show V.heap[TT]? = some (.cells #[.int .i64 4, .string (⟨#[]⟩ : ByteArray), .string (⟨#[]⟩ : ByteArray)] 32 (0, 0)) by rw [← hV]; exact blk_far (setRow_heap _ _ _ _ _ _ HT3.out) (fun h => HOT.out h.symm) _)
  have HR4 := Aside0.mk (show V.heap[w.heap.size + 1]? = some (.cells #[.int .i64 0, .string (⟨#[]⟩ : ByteArray), .string (⟨#[]⟩ : ByteArray)] 32 (0, 0)) by rw [← hV]; exact blk_far ((setRow_other Z TT _ _ HRT.out).trans HR3.out) (fun h => HOR.out h.symm) _)
  have BV := Aside0.mk (show Below w.heap.size w V by rw [← hV]; exact (below_setRow BZ.out HXS.out _).setCell HBO.out _)
  clear hV cO cS
  have cO := blk_cell HO4.out 0

  go_wp2_with (refine wpList_store_row rfl 32 (.tmp 4) (.tmp 44) rfl (w.heap.size + 1) #[.int .i64 0, .string (⟨#[]⟩ : ByteArray), .string (⟨#[]⟩ : ByteArray)] rfl rfl _ _ HR4.out (by kernel_rfl) rfl (by simp [Value.oneCell']) ?_)

  refine bodyPost_ret (results_ct rfl _ _ (w.heap.size + 1) 32 #[.int .i64 0, .string (⟨#[]⟩ : ByteArray), .string (⟨#[]⟩ : ByteArray)] (0, 0) _ rfl (by exact setRow_heap _ _ _ _ _ _ HR4.out) Tryd.underlying32 rfl (by kernel_rfl)) rfl ?_
  exact ⟨rfl, below_setRow BV.out (Nat.le_succ _) _⟩
theorem retB_true (q : Int × ByteArray × ByteArray × Bool) (h : q.2.2.2 = true) : retB q = (q.1, q.2.1, q.2.2.1, 0) := by unfold retB; rw [if_pos h]
theorem retB_false (q : Int × ByteArray × ByteArray × Bool) (h : q.2.2.2 = false) : retB q = (0, ⟨#[]⟩, ⟨#[]⟩, 11) := by unfold retB; rw [if_neg (by rw [h]; simp)]
theorem target_Parse.calls (a0 : ByteArray) (a1 : ByteArray) (r1 : Int) (r2 : ByteArray) (r3 : ByteArray) (r4 : Int) (w : World) (h : target_Parse.f a0 a1 = some (r1, r2, r3, r4)) :
    Calls Tryd.prog 11 #[.string a0, .string a1] w fun e w' => e = .returned (.tuple #[.agg #[.int .i64 r1, .string r2, .string r3], .int .i64 r4]) ∧ Below w.heap.size w w' := by
  by_cases hs : a1.size ≤ 140737488351232
  · rw [target_Parse.f, if_pos hs] at h
    by_cases he : a1.toList = []
    · rw [if_pos he] at h
      have h := Option.some.inj h
      simp only [Prod.mk.injEq] at h
      obtain ⟨rfl, rfl, rfl, rfl⟩ := h
      exact parse_empty a0 a1 w (beq_iff_eq.mpr he)
    · rw [if_neg he] at h
      have he2 : (a1.toList == []) = false := beq_eq_false_iff_ne.mpr he
      have HV := fun W => octet_Visible.calls a1 (octetVisible a1) W rfl
      have hbt : ∀ b : Prop, [Decidable b] → ¬ b → decide b = false := fun b _ h => decide_eq_false h
      by_cases hp : parseOk a1 = false
      · rw [if_pos hp] at h
        have h := Option.some.inj h
        simp only [Prod.mk.injEq] at h
        obtain ⟨rfl, rfl, rfl, rfl⟩ := h
        unfold parseOk at hp
        by_cases m1 : a0.toList = [67, 79, 78, 78, 69, 67, 84]
        · have m1b : (a0.toList == [67, 79, 78, 78, 69, 67, 84]) = true := beq_iff_eq.mpr m1
          cases hv : octetVisible a1 with
          | false => rw [hv] at HV; exact parse_v_connect a0 a1 w he2 HV m1b
          | true =>
            rw [hv] at HV hp
            exact parse_c_connect a0 a1 w he2 (by simpa using hp) HV m1b
        · have m1b : (a0.toList == [67, 79, 78, 78, 69, 67, 84]) = false := beq_eq_false_iff_ne.mpr m1
          by_cases s1 : bt a1 0 = 47
          · have s1b : (bt a1 0 == 47) = true := beq_iff_eq.mpr s1
            cases hv : octetVisible a1 with
            | false => rw [hv] at HV; exact parse_v_slash a0 a1 w he2 HV m1b s1b
            | true => rw [hv] at HV hp; exact parse_c_slash a0 a1 w he2 (by simpa using hp) HV m1b s1b
          · have s1b : (bt a1 0 == 47) = false := beq_eq_false_iff_ne.mpr s1
            by_cases s2 : a1.toList = [42]
            · have s2b : (a1.toList == [42]) = true := beq_iff_eq.mpr s2
              cases hv : octetVisible a1 with
              | false => rw [hv] at HV; exact parse_v_star a0 a1 w he2 HV m1b s1b s2b
              | true => rw [hv] at HV hp; exact parse_c_star a0 a1 w he2 (by simpa using hp) HV m1b s1b s2b
            · have s2b : (a1.toList == [42]) = false := beq_eq_false_iff_ne.mpr s2
              cases hv : octetVisible a1 with
              | false => rw [hv] at HV; exact parse_v_absolute a0 a1 w he2 HV m1b s1b s2b
              | true => rw [hv] at HV hp; exact parse_c_absolute a0 a1 w he2 (by simpa using hp) HV m1b s1b s2b
      · rw [if_neg hp] at h
        have hp2 : parseOk a1 = true := by simpa using hp
        unfold parseOk at hp2
        rw [Bool.and_eq_true] at hp2
        obtain ⟨hv, hc⟩ := hp2
        rw [hv] at HV
        have hcb : decide (0 ≤ Lib.indexByte a1.data.toList 35) = false := by simpa using hc
        by_cases m1 : a0.toList = [67, 79, 78, 78, 69, 67, 84]
        · have m1b : (a0.toList == [67, 79, 78, 78, 69, 67, 84]) = true := beq_iff_eq.mpr m1
          rw [if_pos m1] at h
          replace h := Option.bind_eq_some_iff.mp h
          obtain ⟨⟨q1, q2, q3, q4⟩, hq, h⟩ := h
          have h := Option.some.inj h
          have HC := fun W => target_connect.calls 1000000000 a1 q1 q2 q3 q4 W hq
          cases q4 with
          | true =>
            rw [retB_true _ rfl] at h
            simp only [Prod.mk.injEq] at h
            obtain ⟨rfl, rfl, rfl, rfl⟩ := h
            exact parse_k_connect_true a0 a1 w he2 hcb HV m1b _ _ _ HC
          | false =>
            rw [retB_false _ rfl] at h
            simp only [Prod.mk.injEq] at h
            obtain ⟨rfl, rfl, rfl, rfl⟩ := h
            exact parse_k_connect_false a0 a1 w he2 hcb HV m1b _ _ _ HC
        · have m1b : (a0.toList == [67, 79, 78, 78, 69, 67, 84]) = false := beq_eq_false_iff_ne.mpr m1
          rw [if_neg m1] at h
          by_cases s1 : bt a1 0 = 47
          · have s1b : (bt a1 0 == 47) = true := beq_iff_eq.mpr s1
            rw [if_pos s1] at h
            have h := Option.some.inj h
            simp only [Prod.mk.injEq] at h
            obtain ⟨rfl, rfl, rfl, rfl⟩ := h
            exact parse_k_slash a0 a1 w he2 hcb HV m1b s1b
          · have s1b : (bt a1 0 == 47) = false := beq_eq_false_iff_ne.mpr s1
            rw [if_neg s1] at h
            by_cases s2 : a1.toList = [42]
            · have s2b : (a1.toList == [42]) = true := beq_iff_eq.mpr s2
              rw [if_pos s2] at h
              by_cases m2 : a0.toList = [79, 80, 84, 73, 79, 78, 83]
              · have m2b : (a0.toList == [79, 80, 84, 73, 79, 78, 83]) = true := beq_iff_eq.mpr m2
                rw [if_pos m2] at h
                have h := Option.some.inj h
                simp only [Prod.mk.injEq] at h
                obtain ⟨rfl, rfl, rfl, rfl⟩ := h
                exact parse_k_star_true a0 a1 w he2 hcb HV m1b s1b s2b m2b
              · have m2b : (a0.toList == [79, 80, 84, 73, 79, 78, 83]) = false := beq_eq_false_iff_ne.mpr m2
                rw [if_neg m2] at h
                have h := Option.some.inj h
                simp only [Prod.mk.injEq] at h
                obtain ⟨rfl, rfl, rfl, rfl⟩ := h
                exact parse_k_star_false a0 a1 w he2 hcb HV m1b s1b s2b m2b
            · have s2b : (a1.toList == [42]) = false := beq_eq_false_iff_ne.mpr s2
              rw [if_neg s2] at h
              replace h := Option.bind_eq_some_iff.mp h
              obtain ⟨⟨q1, q2, q3, q4⟩, hq, h⟩ := h
              have h := Option.some.inj h
              have HC := fun W => target_absolute.calls a1 q1 q2 q3 q4 W hq
              cases q4 with
              | true =>
                rw [retB_true _ rfl] at h
                simp only [Prod.mk.injEq] at h
                obtain ⟨rfl, rfl, rfl, rfl⟩ := h
                exact parse_k_absolute_true a0 a1 w he2 hcb HV m1b s1b s2b _ _ _ HC
              | false =>
                rw [retB_false _ rfl] at h
                simp only [Prod.mk.injEq] at h
                obtain ⟨rfl, rfl, rfl, rfl⟩ := h
                exact parse_k_absolute_false a0 a1 w he2 hcb HV m1b s1b s2b _ _ _ HC
  · rw [target_Parse.f, if_neg hs] at h
    cases h


end Go.Proofs.YtdjmgmiaognncaaDoor.X
namespace Go.Proofs.YtdjmgmiaognncaaDoor.X
open Go.RowKit Go.Proofs.YtdjmgmiaognncaaDoorW.PrintWords Go.Proofs.YtdjmgmiaognncaaDoorW.PrintLast Go.Proofs.YtdjmgmiaognncaaDoorW.PrintMore
attribute [local go_sem] max2_int min2_int max_two min_two max_three min_three max_four min_four   -- for this text's walks alone
set_option linter.unusedVariables false
set_option linter.unusedSimpArgs false

/-! ### target_Text: function 14 -/
def target_Text.f (a0_0 : Int) (a0_1 : ByteArray) (a0_2 : ByteArray) : Option (ByteArray) := if a0_0 = 1 then (some a0_2) else (if a0_0 = 2 then (if 7 + a0_1.size ≤ 9223372036854775807 then (if ((⟨#[104, 116, 116, 112, 58, 47, 47]⟩ : ByteArray) ++ a0_1).size + a0_2.size ≤ 9223372036854775807 then (some (((⟨#[104, 116, 116, 112, 58, 47, 47]⟩ : ByteArray) ++ a0_1) ++ a0_2)) else (none)) else (none)) else (if a0_0 = 3 then (some a0_1) else (if a0_0 = 4 then (some (⟨#[42]⟩ : ByteArray)) else (some (⟨#[]⟩ : ByteArray)))))
set_option maxHeartbeats 8000000 in
set_option maxRecDepth 100000 in
theorem target_Text.calls (a0_0 : Int) (a0_1 : ByteArray) (a0_2 : ByteArray) (r : ByteArray) (w : World) (h : target_Text.f a0_0 a0_1 a0_2 = some r) :
    Calls Tryd.prog 14 #[.agg #[.int .i64 a0_0, .string a0_1, .string a0_2]] w fun e w' => e = .returned (.string r) ∧ Below w.heap.size w w' := by
  have hu32 := Tryd.underlying32
  have HB := Aside0.mk (Below.refl w.heap.size w)
  have H : (if a0_0 = 1 then (some a0_2) else (if a0_0 = 2 then (if 7 + a0_1.size ≤ 9223372036854775807 then (if ((⟨#[104, 116, 116, 112, 58, 47, 47]⟩ : ByteArray) ++ a0_1).size + a0_2.size ≤ 9223372036854775807 then (some (((⟨#[104, 116, 116, 112, 58, 47, 47]⟩ : ByteArray) ++ a0_1) ++ a0_2)) else (none)) else (none)) else (if a0_0 = 3 then (some a0_1) else (if a0_0 = 4 then (some (⟨#[42]⟩ : ByteArray)) else (some (⟨#[]⟩ : ByteArray)))))) = some r := h
  clear h
  by_cases c2 : a0_0 = 1
  · rw [if_pos c2] at H
    have c2b0 : (a0_0 == 1) = true := beq_iff_eq.mpr c2
    have c2b1 : (a0_0 != 1) = false := bne_eq_false_iff_eq.mpr c2
    clear c2
    obtain rfl := Option.some.inj H
    go_enter Tryd.func14, Tryd.ntmps14
    go_wp2_with (first | ((with_reducible refine gate_dst (N := 1) rfl ?_); refine box_event ?hg (N := 1) ?hd (cs := #[.int .i64 a0_0, .string a0_1, .string a0_2]) (t := 32) ?hr ?_; (case hd => rfl); (case hg => rfl); (case hr => first | (go_simp; done) | (go_simp; rfl)); intro gb101 hg w3 hbox hb; have n0_ := Aside0.mk (below_step (by repeat (first | (with_reducible first | exact HB.out | apply below_alloc | apply pw_below_drewN | apply below_drew1) | exact HB.out)) hb); have n1_ := Aside0.mk (hbox); have n2_ := Aside0.mk ((by rw [hg]; exact (below_size (by repeat (first | (with_reducible first | exact HB.out | apply below_alloc | apply pw_below_drewN | apply below_drew1) | exact HB.out))) : w.heap.size ≤ gb101)); have n3_ := Aside0.mk ((by rw [hg]; exact (below_size (by repeat (first | (with_reducible first | exact HB.out | apply below_alloc | apply pw_below_drewN | apply below_drew1) | exact HB.out))) : w.heap.size ≤ gb101)); clear HB; have HB := n0_; have BK101 := n1_; have GW101 := n2_; have GE101 := n3_; clear n0_ n1_ n2_ n3_; clear hb hbox hg; have hcz4_0 : w3.cell? ⟨gb101, 0, none⟩ = some (.int .i64 a0_0) := (blk_cell BK101.out 0).trans rfl; have hcz4_1 : w3.cell? ⟨gb101, 1, none⟩ = some (.string a0_1) := (blk_cell BK101.out 1).trans rfl; have hcz4_2 : w3.cell? ⟨gb101, 2, none⟩ = some (.string a0_2) := (blk_cell BK101.out 2).trans rfl; have hfz4_0 := blk_frozen BK101.out 0; have hfz4_1 := blk_frozen BK101.out 1; have hfz4_2 := blk_frozen BK101.out 2))
    go_ret
    exact ⟨by first | rfl | (simp [errW_none, errW_some] <;> rfl) | (simp [*, errW_none, errW_some] <;> rfl), by repeat (first | (with_reducible first | exact HB.out | apply below_alloc | apply pw_below_drewN | apply below_drew1 | refine below_set ?_ GE101.out) | exact HB.out)⟩
  · rw [if_neg c2] at H
    have c2b0 : (a0_0 == 1) = false := beq_eq_false_iff_ne.mpr c2
    have c2b1 : (a0_0 != 1) = true := bne_iff_ne.mpr c2
    by_cases c5 : a0_0 = 2
    · rw [if_pos c5] at H
      have c5b0 : (a0_0 == 2) = true := beq_iff_eq.mpr c5
      have c5b1 : (a0_0 != 2) = false := bne_eq_false_iff_eq.mpr c5
      clear c5
      by_cases c6 : 7 + a0_1.size ≤ 9223372036854775807
      · rw [if_pos c6] at H
        have c6b0 := eq_true c6
        have c6b1 : decide (7 + a0_1.size ≤ 9223372036854775807) = true := decide_eq_true c6
        try have c6b2 : (9223372036854775807 < 7 + a0_1.size) = False := eq_false (Nat.not_lt.2 c6)
        by_cases c7 : ((⟨#[104, 116, 116, 112, 58, 47, 47]⟩ : ByteArray) ++ a0_1).size + a0_2.size ≤ 9223372036854775807
        · rw [if_pos c7] at H
          have c7b0 := eq_true c7
          have c7b1 : decide (((⟨#[104, 116, 116, 112, 58, 47, 47]⟩ : ByteArray) ++ a0_1).size + a0_2.size ≤ 9223372036854775807) = true := decide_eq_true c7
          try have c7b2 : (9223372036854775807 < ((⟨#[104, 116, 116, 112, 58, 47, 47]⟩ : ByteArray) ++ a0_1).size + a0_2.size) = False := eq_false (Nat.not_lt.2 c7)
          obtain rfl := Option.some.inj H
          go_enter Tryd.func14, Tryd.ntmps14
          go_wp2_with (first | ((with_reducible refine gate_dst (N := 1) rfl ?_); refine box_event ?hg (N := 1) ?hd (cs := #[.int .i64 a0_0, .string a0_1, .string a0_2]) (t := 32) ?hr ?_; (case hd => rfl); (case hg => rfl); (case hr => first | (go_simp; done) | (go_simp; rfl)); intro gb101 hg w8 hbox hb; have n0_ := Aside0.mk (below_step (by repeat (first | (with_reducible first | exact HB.out | apply below_alloc | apply pw_below_drewN | apply below_drew1) | exact HB.out)) hb); have n1_ := Aside0.mk (hbox); have n2_ := Aside0.mk ((by rw [hg]; exact (below_size (by repeat (first | (with_reducible first | exact HB.out | apply below_alloc | apply pw_below_drewN | apply below_drew1) | exact HB.out))) : w.heap.size ≤ gb101)); have n3_ := Aside0.mk ((by rw [hg]; exact (below_size (by repeat (first | (with_reducible first | exact HB.out | apply below_alloc | apply pw_below_drewN | apply below_drew1) | exact HB.out))) : w.heap.size ≤ gb101)); clear HB; have HB := n0_; have BK101 := n1_; have GW101 := n2_; have GE101 := n3_; clear n0_ n1_ n2_ n3_; clear hb hbox hg; have hcz9_0 : w8.cell? ⟨gb101, 0, none⟩ = some (.int .i64 a0_0) := (blk_cell BK101.out 0).trans rfl; have hcz9_1 : w8.cell? ⟨gb101, 1, none⟩ = some (.string a0_1) := (blk_cell BK101.out 1).trans rfl; have hcz9_2 : w8.cell? ⟨gb101, 2, none⟩ = some (.string a0_2) := (blk_cell BK101.out 2).trans rfl; have hfz9_0 := blk_frozen BK101.out 0; have hfz9_1 := blk_frozen BK101.out 1; have hfz9_2 := blk_frozen BK101.out 2))
          go_ret
          exact ⟨by first | rfl | (simp [errW_none, errW_some] <;> rfl) | (simp [*, errW_none, errW_some] <;> rfl), by repeat (first | (with_reducible first | exact HB.out | apply below_alloc | apply pw_below_drewN | apply below_drew1 | refine below_set ?_ GE101.out) | exact HB.out)⟩
        · rw [if_neg c7] at H
          exact absurd H (by simp)
      · rw [if_neg c6] at H
        exact absurd H (by simp)
    · rw [if_neg c5] at H
      have c5b0 : (a0_0 == 2) = false := beq_eq_false_iff_ne.mpr c5
      have c5b1 : (a0_0 != 2) = true := bne_iff_ne.mpr c5
      by_cases c10 : a0_0 = 3
      · rw [if_pos c10] at H
        have c10b0 : (a0_0 == 3) = true := beq_iff_eq.mpr c10
        have c10b1 : (a0_0 != 3) = false := bne_eq_false_iff_eq.mpr c10
        clear c10
        obtain rfl := Option.some.inj H
        go_enter Tryd.func14, Tryd.ntmps14
        go_wp2_with (first | ((with_reducible refine gate_dst (N := 1) rfl ?_); refine box_event ?hg (N := 1) ?hd (cs := #[.int .i64 a0_0, .string a0_1, .string a0_2]) (t := 32) ?hr ?_; (case hd => rfl); (case hg => rfl); (case hr => first | (go_simp; done) | (go_simp; rfl)); intro gb101 hg w11 hbox hb; have n0_ := Aside0.mk (below_step (by repeat (first | (with_reducible first | exact HB.out | apply below_alloc | apply pw_below_drewN | apply below_drew1) | exact HB.out)) hb); have n1_ := Aside0.mk (hbox); have n2_ := Aside0.mk ((by rw [hg]; exact (below_size (by repeat (first | (with_reducible first | exact HB.out | apply below_alloc | apply pw_below_drewN | apply below_drew1) | exact HB.out))) : w.heap.size ≤ gb101)); have n3_ := Aside0.mk ((by rw [hg]; exact (below_size (by repeat (first | (with_reducible first | exact HB.out | apply below_alloc | apply pw_below_drewN | apply below_drew1) | exact HB.out))) : w.heap.size ≤ gb101)); clear HB; have HB := n0_; have BK101 := n1_; have GW101 := n2_; have GE101 := n3_; clear n0_ n1_ n2_ n3_; clear hb hbox hg; have hcz12_0 : w11.cell? ⟨gb101, 0, none⟩ = some (.int .i64 a0_0) := (blk_cell BK101.out 0).trans rfl; have hcz12_1 : w11.cell? ⟨gb101, 1, none⟩ = some (.string a0_1) := (blk_cell BK101.out 1).trans rfl; have hcz12_2 : w11.cell? ⟨gb101, 2, none⟩ = some (.string a0_2) := (blk_cell BK101.out 2).trans rfl; have hfz12_0 := blk_frozen BK101.out 0; have hfz12_1 := blk_frozen BK101.out 1; have hfz12_2 := blk_frozen BK101.out 2))
        go_ret
        exact ⟨by first | rfl | (simp [errW_none, errW_some] <;> rfl) | (simp [*, errW_none, errW_some] <;> rfl), by repeat (first | (with_reducible first | exact HB.out | apply below_alloc | apply pw_below_drewN | apply below_drew1 | refine below_set ?_ GE101.out) | exact HB.out)⟩
      · rw [if_neg c10] at H
        have c10b0 : (a0_0 == 3) = false := beq_eq_false_iff_ne.mpr c10
        have c10b1 : (a0_0 != 3) = true := bne_iff_ne.mpr c10
        by_cases c13 : a0_0 = 4
        · rw [if_pos c13] at H
          have c13b0 : (a0_0 == 4) = true := beq_iff_eq.mpr c13
          have c13b1 : (a0_0 != 4) = false := bne_eq_false_iff_eq.mpr c13
          clear c13
          obtain rfl := Option.some.inj H
          go_enter Tryd.func14, Tryd.ntmps14
          go_wp2_with (first | ((with_reducible refine gate_dst (N := 1) rfl ?_); refine box_event ?hg (N := 1) ?hd (cs := #[.int .i64 a0_0, .string a0_1, .string a0_2]) (t := 32) ?hr ?_; (case hd => rfl); (case hg => rfl); (case hr => first | (go_simp; done) | (go_simp; rfl)); intro gb101 hg w14 hbox hb; have n0_ := Aside0.mk (below_step (by repeat (first | (with_reducible first | exact HB.out | apply below_alloc | apply pw_below_drewN | apply below_drew1) | exact HB.out)) hb); have n1_ := Aside0.mk (hbox); have n2_ := Aside0.mk ((by rw [hg]; exact (below_size (by repeat (first | (with_reducible first | exact HB.out | apply below_alloc | apply pw_below_drewN | apply below_drew1) | exact HB.out))) : w.heap.size ≤ gb101)); have n3_ := Aside0.mk ((by rw [hg]; exact (below_size (by repeat (first | (with_reducible first | exact HB.out | apply below_alloc | apply pw_below_drewN | apply below_drew1) | exact HB.out))) : w.heap.size ≤ gb101)); clear HB; have HB := n0_; have BK101 := n1_; have GW101 := n2_; have GE101 := n3_; clear n0_ n1_ n2_ n3_; clear hb hbox hg; have hcz15_0 : w14.cell? ⟨gb101, 0, none⟩ = some (.int .i64 a0_0) := (blk_cell BK101.out 0).trans rfl; have hcz15_1 : w14.cell? ⟨gb101, 1, none⟩ = some (.string a0_1) := (blk_cell BK101.out 1).trans rfl; have hcz15_2 : w14.cell? ⟨gb101, 2, none⟩ = some (.string a0_2) := (blk_cell BK101.out 2).trans rfl; have hfz15_0 := blk_frozen BK101.out 0; have hfz15_1 := blk_frozen BK101.out 1; have hfz15_2 := blk_frozen BK101.out 2))
          go_ret
          exact ⟨by first | rfl | (simp [errW_none, errW_some] <;> rfl) | (simp [*, errW_none, errW_some] <;> rfl), by repeat (first | (with_reducible first | exact HB.out | apply below_alloc | apply pw_below_drewN | apply below_drew1 | refine below_set ?_ GE101.out) | exact HB.out)⟩
        · rw [if_neg c13] at H
          have c13b0 : (a0_0 == 4) = false := beq_eq_false_iff_ne.mpr c13
          have c13b1 : (a0_0 != 4) = true := bne_iff_ne.mpr c13
          obtain rfl := Option.some.inj H
          go_enter Tryd.func14, Tryd.ntmps14
          go_wp2_with (first | ((with_reducible refine gate_dst (N := 1) rfl ?_); refine box_event ?hg (N := 1) ?hd (cs := #[.int .i64 a0_0, .string a0_1, .string a0_2]) (t := 32) ?hr ?_; (case hd => rfl); (case hg => rfl); (case hr => first | (go_simp; done) | (go_simp; rfl)); intro gb101 hg w16 hbox hb; have n0_ := Aside0.mk (below_step (by repeat (first | (with_reducible first | exact HB.out | apply below_alloc | apply pw_below_drewN | apply below_drew1) | exact HB.out)) hb); have n1_ := Aside0.mk (hbox); have n2_ := Aside0.mk ((by rw [hg]; exact (below_size (by repeat (first | (with_reducible first | exact HB.out | apply below_alloc | apply pw_below_drewN | apply below_drew1) | exact HB.out))) : w.heap.size ≤ gb101)); have n3_ := Aside0.mk ((by rw [hg]; exact (below_size (by repeat (first | (with_reducible first | exact HB.out | apply below_alloc | apply pw_below_drewN | apply below_drew1) | exact HB.out))) : w.heap.size ≤ gb101)); clear HB; have HB := n0_; have BK101 := n1_; have GW101 := n2_; have GE101 := n3_; clear n0_ n1_ n2_ n3_; clear hb hbox hg; have hcz17_0 : w16.cell? ⟨gb101, 0, none⟩ = some (.int .i64 a0_0) := (blk_cell BK101.out 0).trans rfl; have hcz17_1 : w16.cell? ⟨gb101, 1, none⟩ = some (.string a0_1) := (blk_cell BK101.out 1).trans rfl; have hcz17_2 : w16.cell? ⟨gb101, 2, none⟩ = some (.string a0_2) := (blk_cell BK101.out 2).trans rfl; have hfz17_0 := blk_frozen BK101.out 0; have hfz17_1 := blk_frozen BK101.out 1; have hfz17_2 := blk_frozen BK101.out 2))
          go_ret
          exact ⟨by first | rfl | (simp [errW_none, errW_some] <;> rfl) | (simp [*, errW_none, errW_some] <;> rfl), by repeat (first | (with_reducible first | exact HB.out | apply below_alloc | apply pw_below_drewN | apply below_drew1 | refine below_set ?_ GE101.out) | exact HB.out)⟩

end Go.Proofs.YtdjmgmiaognncaaDoor.X
namespace Go.Proofs.YtdjmgmiaognncaaDoor.X
open Go.RowKit Go.Proofs.YtdjmgmiaognncaaDoorW.PrintWords Go.Proofs.YtdjmgmiaognncaaDoorW.PrintLast Go.Proofs.YtdjmgmiaognncaaDoorW.PrintMore
attribute [local go_sem] max2_int min2_int max_two min_two max_three min_three max_four min_four   -- for this text's walks alone
set_option linter.unusedVariables false
set_option linter.unusedSimpArgs false

/-! ### stringslite_HasPrefix: function 71 -/
def stringslite_HasPrefix.f (a0 : ByteArray) (a1 : ByteArray) : Option (Bool) := if (a0.size : Int) ≥ (a1.size : Int) then (if 0 ≤ (a1.size : Int) then (if (a1.size : Int) ≤ (a0.size : Int) then (some ((a0.extract 0 ((a1.size : Int) : Int).toNat).toList == a1.toList)) else (none)) else (none)) else (some false)
set_option maxHeartbeats 8000000 in
set_option maxRecDepth 100000 in
theorem stringslite_HasPrefix.calls (a0 : ByteArray) (a1 : ByteArray) (r : Bool) (w : World) (h : stringslite_HasPrefix.f a0 a1 = some r) :
    Calls Tryd.prog 71 #[.string a0, .string a1] w fun e w' => e = .returned (.bool r) ∧ Drawn0 w w' := by
  have H : (if (a0.size : Int) ≥ (a1.size : Int) then (if 0 ≤ (a1.size : Int) then (if (a1.size : Int) ≤ (a0.size : Int) then (some ((a0.extract 0 ((a1.size : Int) : Int).toNat).toList == a1.toList)) else (none)) else (none)) else (some false)) = some r := h
  clear h
  by_cases c3 : (a0.size : Int) ≥ (a1.size : Int)
  · rw [if_pos c3] at H
    have c3b0 : decide ((a1.size : Int) ≤ (a0.size : Int)) = true := decide_eq_true c3
    have c3b1 : decide (a1.size ≤ a0.size) = true := decide_eq_true (Int.ofNat_le.mp c3)
    clear c3
    by_cases c4 : 0 ≤ (a1.size : Int)
    · rw [if_pos c4] at H
      have c4b0 := eq_true c4
      have c4b1 : decide (0 ≤ (a1.size : Int)) = true := decide_eq_true c4
      clear c4
      by_cases c5 : (a1.size : Int) ≤ (a0.size : Int)
      · rw [if_pos c5] at H
        have c5b0 := eq_true c5
        have c5b1 : decide ((a1.size : Int) ≤ (a0.size : Int)) = true := decide_eq_true c5
        clear c5
        obtain rfl := Option.some.inj H
        go_enter Tryd.func71, Tryd.ntmps71
        go_wp2
        go_ret
        exact ⟨by first | rfl | (simp; done) | (simp [*]; done), by repeat (first | exact Drawn0.refl _ | apply Drawn0.step)⟩
      · rw [if_neg c5] at H
        exact absurd H (by simp)
    · rw [if_neg c4] at H
      exact absurd H (by simp)
  · rw [if_neg c3] at H
    have c3b0 : decide ((a1.size : Int) ≤ (a0.size : Int)) = false := decide_eq_false c3
    have c3b1 : decide (a1.size ≤ a0.size) = false := decide_eq_false (fun h => c3 (Int.ofNat_le.mpr h))
    clear c3
    obtain rfl := Option.some.inj H
    go_enter Tryd.func71, Tryd.ntmps71
    go_wp2
    go_ret
    exact ⟨by first | rfl | (simp; done) | (simp [*]; done), by repeat (first | exact Drawn0.refl _ | apply Drawn0.step)⟩

end Go.Proofs.YtdjmgmiaognncaaDoor.X
namespace Go.Proofs.YtdjmgmiaognncaaDoor.X
open Go.RowKit Go.Proofs.YtdjmgmiaognncaaDoorW.PrintWords Go.Proofs.YtdjmgmiaognncaaDoorW.PrintLast Go.Proofs.YtdjmgmiaognncaaDoorW.PrintMore
attribute [local go_sem] max2_int min2_int max_two min_two max_three min_three max_four min_four   -- for this text's walks alone
set_option linter.unusedVariables false
set_option linter.unusedSimpArgs false

/-! ### strings_HasPrefix: function 40 -/
def strings_HasPrefix.f (a0 : ByteArray) (a1 : ByteArray) : Option (Bool) := (stringslite_HasPrefix.f a0 a1).bind fun t101 => (some t101)
set_option maxHeartbeats 8000000 in
set_option maxRecDepth 100000 in
theorem strings_HasPrefix.calls (a0 : ByteArray) (a1 : ByteArray) (r : Bool) (w : World) (h : strings_HasPrefix.f a0 a1 = some r) :
    Calls Tryd.prog 40 #[.string a0, .string a1] w fun e w' => e = .returned (.bool r) ∧ Drawn0 w w' := by
  have H : ((stringslite_HasPrefix.f a0 a1).bind fun t101 => (some t101)) = some r := h
  clear h
  replace H := Option.bind_eq_some_iff.mp H
  obtain ⟨t101, A30, H⟩ := H
  replace H : (some t101) = some r := H
  have A3 := Aside0.mk A30
  clear A30
  obtain rfl := Option.some.inj H
  go_enter Tryd.func40, Tryd.ntmps40
  go_wp2_with (first | ((with_reducible refine gate_callee (f := 71) rfl ?_); refine goesL_ (some 7) rfl rfl Tryd.func71 (by kernel_rfl) rfl #[.string a0, .string a1] rfl (by (try simp only [List.map_toArray, List.map_cons, List.map_nil]); first | done | rfl | (simp only [List.length_drop, List.length_take]; rfl)) ?_; (with_reducible refine (stringslite_HasPrefix.calls a0 a1 t101 _ A3.out).mono ?_); rintro e w' ⟨rfl, ⟨nd, rfl⟩⟩; refine ⟨_, rfl, ?_⟩))
  go_ret
  exact ⟨by first | rfl | (simp; done) | (simp [*]; done), by repeat (first | exact Drawn0.refl _ | apply Drawn0.step)⟩

end Go.Proofs.YtdjmgmiaognncaaDoor.X
namespace Go.Proofs.YtdjmgmiaognncaaDoor.X
open Go.RowKit Go.Proofs.YtdjmgmiaognncaaDoorW.PrintWords Go.Proofs.YtdjmgmiaognncaaDoorW.PrintLast Go.Proofs.YtdjmgmiaognncaaDoorW.PrintMore
attribute [local go_sem] max2_int min2_int max_two min_two max_three min_three max_four min_four   -- for this text's walks alone
set_option linter.unusedVariables false
set_option linter.unusedSimpArgs false

/-! ### target_Out: function 16 -/
def target_Out.j0 : Nat → Bool → Int → ByteArray → ByteArray → Option (ByteArray)
  | 0, _, _, _, _ => none
  | k + 1, x11, x102000, x102001, x102002 => if x11 = true then (some (⟨#[42]⟩ : ByteArray)) else ((strings_HasPrefix.f x102002 (⟨#[47]⟩ : ByteArray)).bind fun t102 => (if t102 = true then (some x102002) else (if 1 + x102002.size ≤ 9223372036854775807 then (some ((⟨#[47]⟩ : ByteArray) ++ x102002)) else (none))))
def target_Out.f (k : Nat) (a0 : ByteArray) (a1_0 : Int) (a1_1 : ByteArray) (a1_2 : ByteArray) : Option (ByteArray) := if a1_0 = 2 then (if a1_2.toList = ([] : List UInt8) then (target_Out.j0 k (a0.toList == ([79, 80, 84, 73, 79, 78, 83] : List UInt8)) a1_0 a1_1 a1_2) else (target_Out.j0 k false a1_0 a1_1 a1_2)) else ((target_Text.f a1_0 a1_1 a1_2).bind fun t103 => (some t103))
set_option maxHeartbeats 8000000 in
set_option maxRecDepth 100000 in
theorem target_Out.calls (k : Nat) (a0 : ByteArray) (a1_0 : Int) (a1_1 : ByteArray) (a1_2 : ByteArray) (r : ByteArray) (w : World) (h : target_Out.f k a0 a1_0 a1_1 a1_2 = some r) :
    Calls Tryd.prog 16 #[.string a0, .agg #[.int .i64 a1_0, .string a1_1, .string a1_2]] w fun e w' => e = .returned (.string r) ∧ Below w.heap.size w w' := by
  have hu32 := Tryd.underlying32
  have HB := Aside0.mk (Below.refl w.heap.size w)
  have H : (if a1_0 = 2 then (if a1_2.toList = ([] : List UInt8) then (target_Out.j0 k (a0.toList == ([79, 80, 84, 73, 79, 78, 83] : List UInt8)) a1_0 a1_1 a1_2) else (target_Out.j0 k false a1_0 a1_1 a1_2)) else ((target_Text.f a1_0 a1_1 a1_2).bind fun t103 => (some t103))) = some r := h
  clear h
  by_cases c3 : a1_0 = 2
  · rw [if_pos c3] at H
    have c3b0 : (a1_0 == 2) = true := beq_iff_eq.mpr c3
    have c3b1 : (a1_0 != 2) = false := bne_eq_false_iff_eq.mpr c3
    clear c3
    have HC4 := Aside0.mk H
    clear H
    go_enter Tryd.func16, Tryd.ntmps16
    go_upto_region 3 with (first | ((with_reducible refine gate_dst (N := 3) rfl ?_); refine box_event ?hg (N := 3) ?hd (cs := #[.int .i64 a1_0, .string a1_1, .string a1_2]) (t := 32) ?hr ?_; (case hd => rfl); (case hg => rfl); (case hr => first | (go_simp; done) | (go_simp; rfl)); intro gb101 hg w5 hbox hb; have n0_ := Aside0.mk (below_step (by repeat (first | (with_reducible first | exact HB.out | apply below_alloc | apply pw_below_drewN | apply below_drew1) | exact HB.out)) hb); have n1_ := Aside0.mk (hbox); have n2_ := Aside0.mk ((by rw [hg]; exact (below_size (by repeat (first | (with_reducible first | exact HB.out | apply below_alloc | apply pw_below_drewN | apply below_drew1) | exact HB.out))) : w.heap.size ≤ gb101)); have n3_ := Aside0.mk ((by rw [hg]; exact (below_size (by repeat (first | (with_reducible first | exact HB.out | apply below_alloc | apply pw_below_drewN | apply below_drew1) | exact HB.out))) : w.heap.size ≤ gb101)); clear HB; have HB := n0_; have BK101 := n1_; have GW101 := n2_; have GE101 := n3_; clear n0_ n1_ n2_ n3_; clear hb hbox hg; have hcz6_0 : w5.cell? ⟨gb101, 0, none⟩ = some (.int .i64 a1_0) := (blk_cell BK101.out 0).trans rfl; have hcz6_1 : w5.cell? ⟨gb101, 1, none⟩ = some (.string a1_1) := (blk_cell BK101.out 1).trans rfl; have hcz6_2 : w5.cell? ⟨gb101, 2, none⟩ = some (.string a1_2) := (blk_cell BK101.out 2).trans rfl; have hfz6_0 := blk_frozen BK101.out 0; have hfz6_1 := blk_frozen BK101.out 1; have hfz6_2 := blk_frozen BK101.out 2))
    (try simp only [Act.put, List.setIfInBounds_toArray, List.set_cons_zero, List.set_cons_succ])
    go_cut [11] (fun v11 wc => ∃ (kq : Nat) (x11_3 : Bool), v11 = .bool x11_3 ∧ Aside0 (target_Out.j0 kq x11_3 a1_0 a1_1 a1_2 = some r) ∧ Aside0 (kq ≤ k) ∧ Aside0 (wc.heap[gb101]? = some (.cells #[.int .i64 a1_0, .string a1_1, .string a1_2] 32 (0, 0))) ∧ Aside0 (Below w.heap.size w wc))
    case first =>
      have H := HC4.out
      clear HC4
      by_cases c7 : a1_2.toList = ([] : List UInt8)
      · rw [if_pos c7] at H
        have c7b0 : (a1_2.toList == ([] : List UInt8)) = true := beq_iff_eq.mpr c7
        have c7b1 : (a1_2.toList != ([] : List UInt8)) = false := bne_eq_false_iff_eq.mpr c7
        clear c7
        (first | rw [c7b0] | (simp only [i64_w, i32_w]; rw [c7b0]) | skip)
        have H' := Aside0.mk H
        clear H
        have hcz8_0 : w5.cell? ⟨gb101, 0, none⟩ = some (.int .i64 a1_0) := (blk_cell BK101.out 0).trans rfl
        have hcz8_1 : w5.cell? ⟨gb101, 1, none⟩ = some (.string a1_1) := (blk_cell BK101.out 1).trans rfl
        have hcz8_2 : w5.cell? ⟨gb101, 2, none⟩ = some (.string a1_2) := (blk_cell BK101.out 2).trans rfl
        have hfz8_0 := blk_frozen BK101.out 0
        have hfz8_1 := blk_frozen BK101.out 1
        have hfz8_2 := blk_frozen BK101.out 2
        go_wp2
        go_meet
        case rel => exact ⟨_, ((a0.toList == ([79, 80, 84, 73, 79, 78, 83] : List UInt8))), (by first | rfl | (simp; done) | (simp [*]; done)), H', ⟨by first | omega | exact Nat.le_refl _⟩, ⟨by (with_reducible repeat (first | refine blk_drewN ?_ _ | refine blk_drew ?_ | refine blk_alloc ?_ _)); exact BK101.out⟩, ⟨by repeat (first | (with_reducible first | exact HB.out | apply below_alloc | apply pw_below_drewN | apply below_drew1 | refine below_set ?_ GE101.out) | exact HB.out)⟩⟩
      · rw [if_neg c7] at H
        have c7b0 : (a1_2.toList == ([] : List UInt8)) = false := beq_eq_false_iff_ne.mpr c7
        have c7b1 : (a1_2.toList != ([] : List UInt8)) = true := bne_iff_ne.mpr c7
        (first | rw [c7b0] | (simp only [i64_w, i32_w]; rw [c7b0]) | skip)
        have H' := Aside0.mk H
        clear H
        have hcz9_0 : w5.cell? ⟨gb101, 0, none⟩ = some (.int .i64 a1_0) := (blk_cell BK101.out 0).trans rfl
        have hcz9_1 : w5.cell? ⟨gb101, 1, none⟩ = some (.string a1_1) := (blk_cell BK101.out 1).trans rfl
        have hcz9_2 : w5.cell? ⟨gb101, 2, none⟩ = some (.string a1_2) := (blk_cell BK101.out 2).trans rfl
        have hfz9_0 := blk_frozen BK101.out 0
        have hfz9_1 := blk_frozen BK101.out 1
        have hfz9_2 := blk_frozen BK101.out 2
        go_wp2
        go_meet
        case rel => exact ⟨_, (false), (by first | rfl | (simp; done) | (simp [*]; done)), H', ⟨by first | omega | exact Nat.le_refl _⟩, ⟨by (with_reducible repeat (first | refine blk_drewN ?_ _ | refine blk_drew ?_ | refine blk_alloc ?_ _)); exact BK101.out⟩, ⟨by repeat (first | (with_reducible first | exact HB.out | apply below_alloc | apply pw_below_drewN | apply below_drew1 | refine below_set ?_ GE101.out) | exact HB.out)⟩⟩
    case rest =>
      clear HC4
      try clear c1
      try clear p2
      try clear c3
      try clear c3b0
      try clear c3b1
      try clear c7
      try clear c7b0
      try clear c7b1
      try clear hcz6_0
      try clear hcz6_1
      try clear hcz6_2
      try clear hcz8_0
      try clear hcz8_1
      try clear hcz8_2
      try clear hcz9_0
      try clear hcz9_1
      try clear hcz9_2
      try clear hfz6_0
      try clear hfz6_1
      try clear hfz6_2
      try clear hfz8_0
      try clear hfz8_1
      try clear hfz8_2
      try clear hfz9_0
      try clear hfz9_1
      try clear hfz9_2
      obtain ⟨kq, x11_3, rfl, HA, HJ3, BK101, HB⟩ := hcut
      cases kq with
      | zero => exact absurd HA.out (by simp [target_Out.j0])
      | succ kj3 =>
        have H := HA.out
        clear HA
        simp only [target_Out.j0] at H
        by_cases c10 : x11_3 = true
        · subst c10
          have H1 : (some (⟨#[42]⟩ : ByteArray)) = some r := by rw [if_pos rfl] at H; exact H
          clear H
          have H := H1
          clear H1
          obtain rfl := Option.some.inj H
          go_wp2
          go_ret
          exact ⟨by first | rfl | (simp [errW_none, errW_some] <;> rfl) | (simp [*, errW_none, errW_some] <;> rfl), by repeat (first | (with_reducible first | exact HB.out | apply below_alloc | apply pw_below_drewN | apply below_drew1 | refine below_set ?_ GE101.out) | exact HB.out)⟩
        · replace c10 := Bool.eq_false_iff.mpr c10
          subst c10
          have H1 : ((strings_HasPrefix.f a1_2 (⟨#[47]⟩ : ByteArray)).bind fun t102 => (if t102 = true then (some a1_2) else (if 1 + a1_2.size ≤ 9223372036854775807 then (some ((⟨#[47]⟩ : ByteArray) ++ a1_2)) else (none)))) = some r := by rw [if_neg (show ¬ (false = true) by decide)] at H; exact H
          clear H
          have H := H1
          clear H1
          replace H := Option.bind_eq_some_iff.mp H
          obtain ⟨t102, A110, H⟩ := H
          replace H : (if t102 = true then (some a1_2) else (if 1 + a1_2.size ≤ 9223372036854775807 then (some ((⟨#[47]⟩ : ByteArray) ++ a1_2)) else (none))) = some r := H
          have A11 := Aside0.mk A110
          clear A110
          by_cases c12 : t102 = true
          · subst c12
            have H1 : (some a1_2) = some r := by rw [if_pos rfl] at H; exact H
            clear H
            have H := H1
            clear H1
            obtain rfl := Option.some.inj H
            have hcz13_0 : wc.cell? ⟨gb101, 0, none⟩ = some (.int .i64 a1_0) := (blk_cell BK101.out 0).trans rfl
            have hcz13_1 : wc.cell? ⟨gb101, 1, none⟩ = some (.string a1_1) := (blk_cell BK101.out 1).trans rfl
            have hcz13_2 : wc.cell? ⟨gb101, 2, none⟩ = some (.string a1_2) := (blk_cell BK101.out 2).trans rfl
            have hfz13_0 := blk_frozen BK101.out 0
            have hfz13_1 := blk_frozen BK101.out 1
            have hfz13_2 := blk_frozen BK101.out 2
            go_wp2_with (first | ((with_reducible refine gate_callee (f := 40) rfl ?_); refine goesL_ (some 22) rfl rfl Tryd.func40 (by kernel_rfl) rfl #[.string a1_2, .string (⟨#[47]⟩ : ByteArray)] rfl (by (try simp only [List.map_toArray, List.map_cons, List.map_nil]); first | done | rfl | (simp only [List.length_drop, List.length_take]; rfl)) ?_; (with_reducible refine (strings_HasPrefix.calls a1_2 (⟨#[47]⟩ : ByteArray) true _ A11.out).mono ?_); rintro e w' ⟨rfl, ⟨nd, rfl⟩⟩; refine ⟨_, rfl, ?_⟩))
            go_ret
            exact ⟨by first | rfl | (simp [errW_none, errW_some] <;> rfl) | (simp [*, errW_none, errW_some] <;> rfl), by repeat (first | (with_reducible first | exact HB.out | apply below_alloc | apply pw_below_drewN | apply below_drew1 | refine below_set ?_ GE101.out) | exact HB.out)⟩
          · replace c12 := Bool.eq_false_iff.mpr c12
            subst c12
            have H1 : (if 1 + a1_2.size ≤ 9223372036854775807 then (some ((⟨#[47]⟩ : ByteArray) ++ a1_2)) else (none)) = some r := by rw [if_neg (show ¬ (false = true) by decide)] at H; exact H
            clear H
            have H := H1
            clear H1
            by_cases c14 : 1 + a1_2.size ≤ 9223372036854775807
            · rw [if_pos c14] at H
              have c14b0 := eq_true c14
              have c14b1 : decide (1 + a1_2.size ≤ 9223372036854775807) = true := decide_eq_true c14
              try have c14b2 : (9223372036854775807 < 1 + a1_2.size) = False := eq_false (Nat.not_lt.2 c14)
              obtain rfl := Option.some.inj H
              have hcz15_0 : wc.cell? ⟨gb101, 0, none⟩ = some (.int .i64 a1_0) := (blk_cell BK101.out 0).trans rfl
              have hcz15_1 : wc.cell? ⟨gb101, 1, none⟩ = some (.string a1_1) := (blk_cell BK101.out 1).trans rfl
              have hcz15_2 : wc.cell? ⟨gb101, 2, none⟩ = some (.string a1_2) := (blk_cell BK101.out 2).trans rfl
              have hfz15_0 := blk_frozen BK101.out 0
              have hfz15_1 := blk_frozen BK101.out 1
              have hfz15_2 := blk_frozen BK101.out 2
              go_wp2_with (first | ((with_reducible refine gate_callee (f := 40) rfl ?_); refine goesL_ (some 22) rfl rfl Tryd.func40 (by kernel_rfl) rfl #[.string a1_2, .string (⟨#[47]⟩ : ByteArray)] rfl (by (try simp only [List.map_toArray, List.map_cons, List.map_nil]); first | done | rfl | (simp only [List.length_drop, List.length_take]; rfl)) ?_; (with_reducible refine (strings_HasPrefix.calls a1_2 (⟨#[47]⟩ : ByteArray) false _ A11.out).mono ?_); rintro e w' ⟨rfl, ⟨nd, rfl⟩⟩; refine ⟨_, rfl, ?_⟩))
              go_ret
              exact ⟨by first | rfl | (simp [errW_none, errW_some] <;> rfl) | (simp [*, errW_none, errW_some] <;> rfl), by repeat (first | (with_reducible first | exact HB.out | apply below_alloc | apply pw_below_drewN | apply below_drew1 | refine below_set ?_ GE101.out) | exact HB.out)⟩
            · rw [if_neg c14] at H
              exact absurd H (by simp)
  · rw [if_neg c3] at H
    have c3b0 : (a1_0 == 2) = false := beq_eq_false_iff_ne.mpr c3
    have c3b1 : (a1_0 != 2) = true := bne_iff_ne.mpr c3
    replace H := Option.bind_eq_some_iff.mp H
    obtain ⟨t103, A160, H⟩ := H
    replace H : (some t103) = some r := H
    have A16 := Aside0.mk A160
    clear A160
    obtain rfl := Option.some.inj H
    go_enter Tryd.func16, Tryd.ntmps16
    go_wp2_with (first | ((with_reducible refine gate_dst (N := 3) rfl ?_); refine box_event ?hg (N := 3) ?hd (cs := #[.int .i64 a1_0, .string a1_1, .string a1_2]) (t := 32) ?hr ?_; (case hd => rfl); (case hg => rfl); (case hr => first | (go_simp; done) | (go_simp; rfl)); intro gb101 hg w17 hbox hb; have n0_ := Aside0.mk (below_step (by repeat (first | (with_reducible first | exact HB.out | apply below_alloc | apply pw_below_drewN | apply below_drew1) | exact HB.out)) hb); have n1_ := Aside0.mk (hbox); have n2_ := Aside0.mk ((by rw [hg]; exact (below_size (by repeat (first | (with_reducible first | exact HB.out | apply below_alloc | apply pw_below_drewN | apply below_drew1) | exact HB.out))) : w.heap.size ≤ gb101)); have n3_ := Aside0.mk ((by rw [hg]; exact (below_size (by repeat (first | (with_reducible first | exact HB.out | apply below_alloc | apply pw_below_drewN | apply below_drew1) | exact HB.out))) : w.heap.size ≤ gb101)); clear HB; have HB := n0_; have BK101 := n1_; have GW101 := n2_; have GE101 := n3_; clear n0_ n1_ n2_ n3_; clear hb hbox hg; have hcz18_0 : w17.cell? ⟨gb101, 0, none⟩ = some (.int .i64 a1_0) := (blk_cell BK101.out 0).trans rfl; have hcz18_1 : w17.cell? ⟨gb101, 1, none⟩ = some (.string a1_1) := (blk_cell BK101.out 1).trans rfl; have hcz18_2 : w17.cell? ⟨gb101, 2, none⟩ = some (.string a1_2) := (blk_cell BK101.out 2).trans rfl; have hfz18_0 := blk_frozen BK101.out 0; have hfz18_1 := blk_frozen BK101.out 1; have hfz18_2 := blk_frozen BK101.out 2) | ((with_reducible refine gate_callee (f := 14) rfl ?_); refine goesL_ (some 10) rfl rfl Tryd.func14 (by kernel_rfl) rfl #[.agg #[.int .i64 a1_0, .string a1_1, .string a1_2]] rfl (by (try simp only [List.map_toArray, List.map_cons, List.map_nil]); first | done | rfl | (simp only [List.length_drop, List.length_take]; rfl)) ?_; (with_reducible refine (target_Text.calls a1_0 a1_1 a1_2 t103 _ A16.out).mono ?_); rintro e w19 ⟨rfl, hb⟩; refine ⟨_, rfl, ?_⟩; have n0_ := Aside0.mk (blk_below (g := gb101) (o := .cells #[.int .i64 a1_0, .string a1_1, .string a1_2] 32 (0, 0)) (by (with_reducible repeat (first | refine blk_drewN ?_ _ | refine blk_drew ?_ | refine blk_alloc ?_ _)); exact BK101.out) hb); have n1_ := Aside0.mk (below_step (by repeat (first | (with_reducible first | exact HB.out | apply below_alloc | apply pw_below_drewN | apply below_drew1 | refine below_set ?_ GE101.out) | exact HB.out)) hb); clear BK101; clear HB; have BK101 := n0_; have HB := n1_; clear n0_ n1_; (try clear hb); (try clear hb2); (try clear hk); (try clear hi)))
    go_ret
    exact ⟨by first | rfl | (simp [errW_none, errW_some] <;> rfl) | (simp [*, errW_none, errW_some] <;> rfl), by repeat (first | (with_reducible first | exact HB.out | apply below_alloc | apply pw_below_drewN | apply below_drew1 | refine below_set ?_ GE101.out) | exact HB.out)⟩

end Go.Proofs.YtdjmgmiaognncaaDoor.X
namespace Go.Proofs.YtdjmgmiaognncaaDoor.X
open Go.RowKit Go.Proofs.YtdjmgmiaognncaaDoorW.PrintWords Go.Proofs.YtdjmgmiaognncaaDoorW.PrintLast Go.Proofs.YtdjmgmiaognncaaDoorW.PrintMore
attribute [local go_sem] max2_int min2_int max_two min_two max_three min_three max_four min_four   -- for this text's walks alone
set_option linter.unusedVariables false
set_option linter.unusedSimpArgs false

theorem eqA32 (d : Nat) (w : World) (x0 y0 : Int) (x1 y1 : ByteArray) (x2 y2 : ByteArray) :
    (Op.equalIn (d + 2) 32 (.agg #[.int .i64 x0, .string x1, .string x2]) (.agg #[.int .i64 y0, .string y1, .string y2])).run Tryd.prog w = .ok (x0 == y0 && (x1.toList == y1.toList && (x2.toList == y2.toList))) w := by
  refine eqA_of Tryd.underlying32 (by kernel_rfl) ?_
  refine eqf_cons (by rfl) (by go_simp; rfl) (by go_simp; rfl) (by go_simp) ?_
  refine eqf_cons (by rfl) (by go_simp; rfl) (by go_simp; rfl) (by go_simp) ?_
  exact eqf_last (by rfl) (by go_simp; rfl) (by go_simp; rfl) (by go_simp)
end Go.Proofs.YtdjmgmiaognncaaDoor.X
namespace Go.Proofs.YtdjmgmiaognncaaDoor.X
open Go.RowKit Go.Proofs.YtdjmgmiaognncaaDoorW.PrintWords Go.Proofs.YtdjmgmiaognncaaDoorW.PrintLast Go.Proofs.YtdjmgmiaognncaaDoorW.PrintMore
attribute [local go_sem] max2_int min2_int max_two min_two max_three min_three max_four min_four   -- for this text's walks alone
set_option linter.unusedVariables false
set_option linter.unusedSimpArgs false

attribute [local go_sem high] eqA32
/-! ### abutmentlaw12_lives: function 13 -/
def abutmentlaw12_lives.f (k : Nat)  : Option (Bool) := (target_Parse.f (⟨#[71, 69, 84]⟩ : ByteArray) (⟨#[104, 116, 116, 112, 58, 47, 47, 97, 46, 98, 47, 99, 63, 100]⟩ : ByteArray)).bind fun bt101 => (if (bt101.1 == 2 && (bt101.2.1.toList == ([97, 46, 98] : List UInt8) && (bt101.2.2.1.toList == ([47, 99, 63, 100] : List UInt8)))) = true then (if bt101.2.2.2 = 0 then ((target_Out.f k (⟨#[71, 69, 84]⟩ : ByteArray) bt101.1 bt101.2.1 bt101.2.2.1).bind fun t106 => (if t106.toList = ([47, 99, 63, 100] : List UInt8) then ((target_Out.f k (⟨#[79, 80, 84, 73, 79, 78, 83]⟩ : ByteArray) 2 (⟨#[97, 46, 98]⟩ : ByteArray) (⟨#[]⟩ : ByteArray)).bind fun t107 => (some (t107.toList == ([42] : List UInt8)))) else (some false))) else (some false)) else (some false))
set_option maxHeartbeats 8000000 in
set_option maxRecDepth 100000 in
theorem abutmentlaw12_lives.calls (k : Nat)  (r : Bool) (w : World) (h : abutmentlaw12_lives.f k  = some r) :
    Calls Tryd.prog 13 #[] w fun e w' => e = .returned (.bool r) ∧ Below w.heap.size w w' := by
  have hu32 := Tryd.underlying32
  have HB := Aside0.mk (Below.refl w.heap.size w)
  have H : ((target_Parse.f (⟨#[71, 69, 84]⟩ : ByteArray) (⟨#[104, 116, 116, 112, 58, 47, 47, 97, 46, 98, 47, 99, 63, 100]⟩ : ByteArray)).bind fun bt101 => (if (bt101.1 == 2 && (bt101.2.1.toList == ([97, 46, 98] : List UInt8) && (bt101.2.2.1.toList == ([47, 99, 63, 100] : List UInt8)))) = true then (if bt101.2.2.2 = 0 then ((target_Out.f k (⟨#[71, 69, 84]⟩ : ByteArray) bt101.1 bt101.2.1 bt101.2.2.1).bind fun t106 => (if t106.toList = ([47, 99, 63, 100] : List UInt8) then ((target_Out.f k (⟨#[79, 80, 84, 73, 79, 78, 83]⟩ : ByteArray) 2 (⟨#[97, 46, 98]⟩ : ByteArray) (⟨#[]⟩ : ByteArray)).bind fun t107 => (some (t107.toList == ([42] : List UInt8)))) else (some false))) else (some false)) else (some false))) = some r := h
  clear h
  replace H := Option.bind_eq_some_iff.mp H
  obtain ⟨⟨t101, t102, t103, t104⟩, A10, H⟩ := H
  replace H : (if (t101 == 2 && (t102.toList == ([97, 46, 98] : List UInt8) && (t103.toList == ([47, 99, 63, 100] : List UInt8)))) = true then (if t104 = 0 then ((target_Out.f k (⟨#[71, 69, 84]⟩ : ByteArray) t101 t102 t103).bind fun t106 => (if t106.toList = ([47, 99, 63, 100] : List UInt8) then ((target_Out.f k (⟨#[79, 80, 84, 73, 79, 78, 83]⟩ : ByteArray) 2 (⟨#[97, 46, 98]⟩ : ByteArray) (⟨#[]⟩ : ByteArray)).bind fun t107 => (some (t107.toList == ([42] : List UInt8)))) else (some false))) else (some false)) else (some false)) = some r := H
  have A1 := Aside0.mk A10
  clear A10
  by_cases c2 : (t101 == 2 && (t102.toList == ([97, 46, 98] : List UInt8) && (t103.toList == ([47, 99, 63, 100] : List UInt8)))) = true
  · rw [if_pos c2] at H
    have c2b0 : (t101 == 2 && (t102.toList == ([97, 46, 98] : List UInt8) && (t103.toList == ([47, 99, 63, 100] : List UInt8)))) = true := c2
    (try (have c2b1 : decide (t101 = 2 && (t102.toList == ([97, 46, 98] : List UInt8) && (t103.toList == ([47, 99, 63, 100] : List UInt8)))) = true := by simpa using c2))
    (try (have c2b2 : (t101 == 2 && (t102.toList == ([97, 46, 98] : List UInt8) && (t103.toList == ([47, 99, 63, 100] : List UInt8)))) = true := by simpa using c2))
    clear c2
    by_cases c3 : t104 = 0
    · rw [if_pos c3] at H
      have c3b0 : (t104 == 0) = true := beq_iff_eq.mpr c3
      have c3b1 : (t104 != 0) = false := bne_eq_false_iff_eq.mpr c3
      clear c3
      replace H := Option.bind_eq_some_iff.mp H
      obtain ⟨t106, A40, H⟩ := H
      replace H : (if t106.toList = ([47, 99, 63, 100] : List UInt8) then ((target_Out.f k (⟨#[79, 80, 84, 73, 79, 78, 83]⟩ : ByteArray) 2 (⟨#[97, 46, 98]⟩ : ByteArray) (⟨#[]⟩ : ByteArray)).bind fun t107 => (some (t107.toList == ([42] : List UInt8)))) else (some false)) = some r := H
      have A4 := Aside0.mk A40
      clear A40
      by_cases c5 : t106.toList = ([47, 99, 63, 100] : List UInt8)
      · rw [if_pos c5] at H
        have c5b0 : (t106.toList == ([47, 99, 63, 100] : List UInt8)) = true := beq_iff_eq.mpr c5
        have c5b1 : (t106.toList != ([47, 99, 63, 100] : List UInt8)) = false := bne_eq_false_iff_eq.mpr c5
        clear c5
        replace H := Option.bind_eq_some_iff.mp H
        obtain ⟨t107, A60, H⟩ := H
        replace H : (some (t107.toList == ([42] : List UInt8))) = some r := H
        have A6 := Aside0.mk A60
        clear A60
        obtain rfl := Option.some.inj H
        go_enter Tryd.func13, Tryd.ntmps13
        go_wp2_with (first | ((with_reducible refine gate_callee (f := 11) rfl ?_); refine goesL_ (some 4) rfl rfl Tryd.func11 (by kernel_rfl) rfl #[.string (⟨#[71, 69, 84]⟩ : ByteArray), .string (⟨#[104, 116, 116, 112, 58, 47, 47, 97, 46, 98, 47, 99, 63, 100]⟩ : ByteArray)] rfl (by (try simp only [List.map_toArray, List.map_cons, List.map_nil]); first | done | rfl | (simp only [List.length_drop, List.length_take]; rfl)) ?_; (with_reducible refine (target_Parse.calls (⟨#[71, 69, 84]⟩ : ByteArray) (⟨#[104, 116, 116, 112, 58, 47, 47, 97, 46, 98, 47, 99, 63, 100]⟩ : ByteArray) t101 t102 t103 t104 _ A1.out).mono ?_); rintro e w7 ⟨rfl, hb⟩; refine ⟨_, rfl, ?_⟩; have n0_ := Aside0.mk (below_step (by repeat (first | (with_reducible first | exact HB.out | apply below_alloc | apply pw_below_drewN | apply below_drew1) | exact HB.out)) hb); clear HB; have HB := n0_; clear n0_; (try clear hb); (try clear hb2); (try clear hk); (try clear hi)) | ((with_reducible refine gate_dst (N := 1) rfl ?_); refine box_event ?hg (N := 1) ?hd (cs := #[.int .i64 0, .string (⟨#[]⟩ : ByteArray), .string (⟨#[]⟩ : ByteArray)]) (t := 32) ?hr ?_; (case hd => rfl); (case hg => rfl); (case hr => first | (go_simp; done) | (go_simp; rfl)); intro gb105 hg w8 hbox hb; have n0_ := Aside0.mk (below_step (by repeat (first | (with_reducible first | exact HB.out | apply below_alloc | apply pw_below_drewN | apply below_drew1) | exact HB.out)) hb); have n1_ := Aside0.mk (hbox); have n2_ := Aside0.mk ((by rw [hg]; exact (below_size (by repeat (first | (with_reducible first | exact HB.out | apply below_alloc | apply pw_below_drewN | apply below_drew1) | exact HB.out))) : w.heap.size ≤ gb105)); have n3_ := Aside0.mk ((by rw [hg]; exact (below_size (by repeat (first | (with_reducible first | exact HB.out | apply below_alloc | apply pw_below_drewN | apply below_drew1) | exact HB.out))) : w.heap.size ≤ gb105)); clear HB; have HB := n0_; have BK105 := n1_; have GW105 := n2_; have GE105 := n3_; clear n0_ n1_ n2_ n3_; clear hb hbox hg; have hcz9_0 : w8.cell? ⟨gb105, 0, none⟩ = some (.int .i64 0) := (blk_cell BK105.out 0).trans rfl; have hcz9_1 : w8.cell? ⟨gb105, 1, none⟩ = some (.string (⟨#[]⟩ : ByteArray)) := (blk_cell BK105.out 1).trans rfl; have hcz9_2 : w8.cell? ⟨gb105, 2, none⟩ = some (.string (⟨#[]⟩ : ByteArray)) := (blk_cell BK105.out 2).trans rfl; have hfz9_0 := blk_frozen BK105.out 0; have hfz9_1 := blk_frozen BK105.out 1; have hfz9_2 := blk_frozen BK105.out 2) | (go_at_call 16; (with_reducible refine (target_Out.calls k (⟨#[71, 69, 84]⟩ : ByteArray) t101 t102 t103 t106 _ A4.out).mono ?_); rintro e w10 ⟨rfl, hb⟩; have n0_ := Aside0.mk (blk_below (g := gb105) (o := .cells #[.int .i64 t101, .string t102, .string t103] 32 (0, 0)) (by (with_reducible repeat (first | refine blk_drewN ?_ _ | refine blk_drew ?_ | refine blk_alloc ?_ _)); refine blk_put (cs := #[.int .i64 t101, .string t102, .string (⟨#[]⟩ : ByteArray)]) ?_ 2 _ rfl; (with_reducible repeat (first | refine blk_drewN ?_ _ | refine blk_drew ?_ | refine blk_alloc ?_ _)); refine blk_put (cs := #[.int .i64 t101, .string (⟨#[]⟩ : ByteArray), .string (⟨#[]⟩ : ByteArray)]) ?_ 1 _ rfl; (with_reducible repeat (first | refine blk_drewN ?_ _ | refine blk_drew ?_ | refine blk_alloc ?_ _)); refine blk_put (cs := #[.int .i64 0, .string (⟨#[]⟩ : ByteArray), .string (⟨#[]⟩ : ByteArray)]) ?_ 0 _ rfl; (with_reducible repeat (first | refine blk_drewN ?_ _ | refine blk_drew ?_ | refine blk_alloc ?_ _)); exact BK105.out) hb); have n1_ := Aside0.mk (below_step (by repeat (first | (with_reducible first | exact HB.out | apply below_alloc | apply pw_below_drewN | apply below_drew1 | refine below_set ?_ GE105.out) | exact HB.out)) hb); clear BK105; clear HB; have BK105 := n0_; have HB := n1_; clear n0_ n1_; (try clear hb); (try clear hb2); (try clear hk); (try clear hi)) | (go_at_call 16; (with_reducible refine (target_Out.calls k (⟨#[79, 80, 84, 73, 79, 78, 83]⟩ : ByteArray) 2 (⟨#[97, 46, 98]⟩ : ByteArray) (⟨#[]⟩ : ByteArray) t107 _ A6.out).mono ?_); rintro e w11 ⟨rfl, hb⟩; have n0_ := Aside0.mk (blk_below (g := gb105) (o := .cells #[.int .i64 t101, .string t102, .string t103] 32 (0, 0)) (by (with_reducible repeat (first | refine blk_drewN ?_ _ | refine blk_drew ?_ | refine blk_alloc ?_ _)); exact BK105.out) hb); have n1_ := Aside0.mk (below_step (by repeat (first | (with_reducible first | exact HB.out | apply below_alloc | apply pw_below_drewN | apply below_drew1 | refine below_set ?_ GE105.out) | exact HB.out)) hb); clear BK105; clear HB; have BK105 := n0_; have HB := n1_; clear n0_ n1_; (try clear hb); (try clear hb2); (try clear hk); (try clear hi)))
        go_ret
        exact ⟨by first | rfl | (simp [errW_none, errW_some] <;> rfl) | (simp [*, errW_none, errW_some] <;> rfl), by repeat (first | (with_reducible first | exact HB.out | apply below_alloc | apply pw_below_drewN | apply below_drew1 | refine below_set ?_ GE105.out) | exact HB.out)⟩
      · rw [if_neg c5] at H
        have c5b0 : (t106.toList == ([47, 99, 63, 100] : List UInt8)) = false := beq_eq_false_iff_ne.mpr c5
        have c5b1 : (t106.toList != ([47, 99, 63, 100] : List UInt8)) = true := bne_iff_ne.mpr c5
        obtain rfl := Option.some.inj H
        go_enter Tryd.func13, Tryd.ntmps13
        go_wp2_with (first | ((with_reducible refine gate_callee (f := 11) rfl ?_); refine goesL_ (some 4) rfl rfl Tryd.func11 (by kernel_rfl) rfl #[.string (⟨#[71, 69, 84]⟩ : ByteArray), .string (⟨#[104, 116, 116, 112, 58, 47, 47, 97, 46, 98, 47, 99, 63, 100]⟩ : ByteArray)] rfl (by (try simp only [List.map_toArray, List.map_cons, List.map_nil]); first | done | rfl | (simp only [List.length_drop, List.length_take]; rfl)) ?_; (with_reducible refine (target_Parse.calls (⟨#[71, 69, 84]⟩ : ByteArray) (⟨#[104, 116, 116, 112, 58, 47, 47, 97, 46, 98, 47, 99, 63, 100]⟩ : ByteArray) t101 t102 t103 t104 _ A1.out).mono ?_); rintro e w12 ⟨rfl, hb⟩; refine ⟨_, rfl, ?_⟩; have n0_ := Aside0.mk (below_step (by repeat (first | (with_reducible first | exact HB.out | apply below_alloc | apply pw_below_drewN | apply below_drew1) | exact HB.out)) hb); clear HB; have HB := n0_; clear n0_; (try clear hb); (try clear hb2); (try clear hk); (try clear hi)) | ((with_reducible refine gate_dst (N := 1) rfl ?_); refine box_event ?hg (N := 1) ?hd (cs := #[.int .i64 0, .string (⟨#[]⟩ : ByteArray), .string (⟨#[]⟩ : ByteArray)]) (t := 32) ?hr ?_; (case hd => rfl); (case hg => rfl); (case hr => first | (go_simp; done) | (go_simp; rfl)); intro gb105 hg w13 hbox hb; have n0_ := Aside0.mk (below_step (by repeat (first | (with_reducible first | exact HB.out | apply below_alloc | apply pw_below_drewN | apply below_drew1) | exact HB.out)) hb); have n1_ := Aside0.mk (hbox); have n2_ := Aside0.mk ((by rw [hg]; exact (below_size (by repeat (first | (with_reducible first | exact HB.out | apply below_alloc | apply pw_below_drewN | apply below_drew1) | exact HB.out))) : w.heap.size ≤ gb105)); have n3_ := Aside0.mk ((by rw [hg]; exact (below_size (by repeat (first | (with_reducible first | exact HB.out | apply below_alloc | apply pw_below_drewN | apply below_drew1) | exact HB.out))) : w.heap.size ≤ gb105)); clear HB; have HB := n0_; have BK105 := n1_; have GW105 := n2_; have GE105 := n3_; clear n0_ n1_ n2_ n3_; clear hb hbox hg; have hcz14_0 : w13.cell? ⟨gb105, 0, none⟩ = some (.int .i64 0) := (blk_cell BK105.out 0).trans rfl; have hcz14_1 : w13.cell? ⟨gb105, 1, none⟩ = some (.string (⟨#[]⟩ : ByteArray)) := (blk_cell BK105.out 1).trans rfl; have hcz14_2 : w13.cell? ⟨gb105, 2, none⟩ = some (.string (⟨#[]⟩ : ByteArray)) := (blk_cell BK105.out 2).trans rfl; have hfz14_0 := blk_frozen BK105.out 0; have hfz14_1 := blk_frozen BK105.out 1; have hfz14_2 := blk_frozen BK105.out 2) | (go_at_call 16; (with_reducible refine (target_Out.calls k (⟨#[71, 69, 84]⟩ : ByteArray) t101 t102 t103 t106 _ A4.out).mono ?_); rintro e w15 ⟨rfl, hb⟩; have n0_ := Aside0.mk (blk_below (g := gb105) (o := .cells #[.int .i64 t101, .string t102, .string t103] 32 (0, 0)) (by (with_reducible repeat (first | refine blk_drewN ?_ _ | refine blk_drew ?_ | refine blk_alloc ?_ _)); refine blk_put (cs := #[.int .i64 t101, .string t102, .string (⟨#[]⟩ : ByteArray)]) ?_ 2 _ rfl; (with_reducible repeat (first | refine blk_drewN ?_ _ | refine blk_drew ?_ | refine blk_alloc ?_ _)); refine blk_put (cs := #[.int .i64 t101, .string (⟨#[]⟩ : ByteArray), .string (⟨#[]⟩ : ByteArray)]) ?_ 1 _ rfl; (with_reducible repeat (first | refine blk_drewN ?_ _ | refine blk_drew ?_ | refine blk_alloc ?_ _)); refine blk_put (cs := #[.int .i64 0, .string (⟨#[]⟩ : ByteArray), .string (⟨#[]⟩ : ByteArray)]) ?_ 0 _ rfl; (with_reducible repeat (first | refine blk_drewN ?_ _ | refine blk_drew ?_ | refine blk_alloc ?_ _)); exact BK105.out) hb); have n1_ := Aside0.mk (below_step (by repeat (first | (with_reducible first | exact HB.out | apply below_alloc | apply pw_below_drewN | apply below_drew1 | refine below_set ?_ GE105.out) | exact HB.out)) hb); clear BK105; clear HB; have BK105 := n0_; have HB := n1_; clear n0_ n1_; (try clear hb); (try clear hb2); (try clear hk); (try clear hi)))
        go_ret
        exact ⟨by first | rfl | (simp [errW_none, errW_some] <;> rfl) | (simp [*, errW_none, errW_some] <;> rfl), by repeat (first | (with_reducible first | exact HB.out | apply below_alloc | apply pw_below_drewN | apply below_drew1 | refine below_set ?_ GE105.out) | exact HB.out)⟩
    · rw [if_neg c3] at H
      have c3b0 : (t104 == 0) = false := beq_eq_false_iff_ne.mpr c3
      have c3b1 : (t104 != 0) = true := bne_iff_ne.mpr c3
      obtain rfl := Option.some.inj H
      go_enter Tryd.func13, Tryd.ntmps13
      go_wp2_with (first | ((with_reducible refine gate_callee (f := 11) rfl ?_); refine goesL_ (some 4) rfl rfl Tryd.func11 (by kernel_rfl) rfl #[.string (⟨#[71, 69, 84]⟩ : ByteArray), .string (⟨#[104, 116, 116, 112, 58, 47, 47, 97, 46, 98, 47, 99, 63, 100]⟩ : ByteArray)] rfl (by (try simp only [List.map_toArray, List.map_cons, List.map_nil]); first | done | rfl | (simp only [List.length_drop, List.length_take]; rfl)) ?_; (with_reducible refine (target_Parse.calls (⟨#[71, 69, 84]⟩ : ByteArray) (⟨#[104, 116, 116, 112, 58, 47, 47, 97, 46, 98, 47, 99, 63, 100]⟩ : ByteArray) t101 t102 t103 t104 _ A1.out).mono ?_); rintro e w16 ⟨rfl, hb⟩; refine ⟨_, rfl, ?_⟩; have n0_ := Aside0.mk (below_step (by repeat (first | (with_reducible first | exact HB.out | apply below_alloc | apply pw_below_drewN | apply below_drew1) | exact HB.out)) hb); clear HB; have HB := n0_; clear n0_; (try clear hb); (try clear hb2); (try clear hk); (try clear hi)) | ((with_reducible refine gate_dst (N := 1) rfl ?_); refine box_event ?hg (N := 1) ?hd (cs := #[.int .i64 0, .string (⟨#[]⟩ : ByteArray), .string (⟨#[]⟩ : ByteArray)]) (t := 32) ?hr ?_; (case hd => rfl); (case hg => rfl); (case hr => first | (go_simp; done) | (go_simp; rfl)); intro gb105 hg w17 hbox hb; have n0_ := Aside0.mk (below_step (by repeat (first | (with_reducible first | exact HB.out | apply below_alloc | apply pw_below_drewN | apply below_drew1) | exact HB.out)) hb); have n1_ := Aside0.mk (hbox); have n2_ := Aside0.mk ((by rw [hg]; exact (below_size (by repeat (first | (with_reducible first | exact HB.out | apply below_alloc | apply pw_below_drewN | apply below_drew1) | exact HB.out))) : w.heap.size ≤ gb105)); have n3_ := Aside0.mk ((by rw [hg]; exact (below_size (by repeat (first | (with_reducible first | exact HB.out | apply below_alloc | apply pw_below_drewN | apply below_drew1) | exact HB.out))) : w.heap.size ≤ gb105)); clear HB; have HB := n0_; have BK105 := n1_; have GW105 := n2_; have GE105 := n3_; clear n0_ n1_ n2_ n3_; clear hb hbox hg; have hcz18_0 : w17.cell? ⟨gb105, 0, none⟩ = some (.int .i64 0) := (blk_cell BK105.out 0).trans rfl; have hcz18_1 : w17.cell? ⟨gb105, 1, none⟩ = some (.string (⟨#[]⟩ : ByteArray)) := (blk_cell BK105.out 1).trans rfl; have hcz18_2 : w17.cell? ⟨gb105, 2, none⟩ = some (.string (⟨#[]⟩ : ByteArray)) := (blk_cell BK105.out 2).trans rfl; have hfz18_0 := blk_frozen BK105.out 0; have hfz18_1 := blk_frozen BK105.out 1; have hfz18_2 := blk_frozen BK105.out 2))
      go_ret
      exact ⟨by first | rfl | (simp [errW_none, errW_some] <;> rfl) | (simp [*, errW_none, errW_some] <;> rfl), by repeat (first | (with_reducible first | exact HB.out | apply below_alloc | apply pw_below_drewN | apply below_drew1 | refine below_set ?_ GE105.out) | exact HB.out)⟩
  · rw [if_neg c2] at H
    have c2b0 : (t101 == 2 && (t102.toList == ([97, 46, 98] : List UInt8) && (t103.toList == ([47, 99, 63, 100] : List UInt8)))) = false := by simpa using c2
    (try (have c2b1 : decide (t101 = 2 && (t102.toList == ([97, 46, 98] : List UInt8) && (t103.toList == ([47, 99, 63, 100] : List UInt8)))) = false := by simpa using c2))
    (try (have c2b2 : (t101 == 2 && (t102.toList == ([97, 46, 98] : List UInt8) && (t103.toList == ([47, 99, 63, 100] : List UInt8)))) = false := by simpa using c2))
    (try (have c2b3 : ¬ (t101 = 2 && (t102.toList == ([97, 46, 98] : List UInt8) && (t103.toList == ([47, 99, 63, 100] : List UInt8)))) := by simpa using c2))
    clear c2
    obtain rfl := Option.some.inj H
    go_enter Tryd.func13, Tryd.ntmps13
    go_wp2_with (first | ((with_reducible refine gate_callee (f := 11) rfl ?_); refine goesL_ (some 4) rfl rfl Tryd.func11 (by kernel_rfl) rfl #[.string (⟨#[71, 69, 84]⟩ : ByteArray), .string (⟨#[104, 116, 116, 112, 58, 47, 47, 97, 46, 98, 47, 99, 63, 100]⟩ : ByteArray)] rfl (by (try simp only [List.map_toArray, List.map_cons, List.map_nil]); first | done | rfl | (simp only [List.length_drop, List.length_take]; rfl)) ?_; (with_reducible refine (target_Parse.calls (⟨#[71, 69, 84]⟩ : ByteArray) (⟨#[104, 116, 116, 112, 58, 47, 47, 97, 46, 98, 47, 99, 63, 100]⟩ : ByteArray) t101 t102 t103 t104 _ A1.out).mono ?_); rintro e w19 ⟨rfl, hb⟩; refine ⟨_, rfl, ?_⟩; have n0_ := Aside0.mk (below_step (by repeat (first | (with_reducible first | exact HB.out | apply below_alloc | apply pw_below_drewN | apply below_drew1) | exact HB.out)) hb); clear HB; have HB := n0_; clear n0_; (try clear hb); (try clear hb2); (try clear hk); (try clear hi)) | ((with_reducible refine gate_dst (N := 1) rfl ?_); refine box_event ?hg (N := 1) ?hd (cs := #[.int .i64 0, .string (⟨#[]⟩ : ByteArray), .string (⟨#[]⟩ : ByteArray)]) (t := 32) ?hr ?_; (case hd => rfl); (case hg => rfl); (case hr => first | (go_simp; done) | (go_simp; rfl)); intro gb105 hg w20 hbox hb; have n0_ := Aside0.mk (below_step (by repeat (first | (with_reducible first | exact HB.out | apply below_alloc | apply pw_below_drewN | apply below_drew1) | exact HB.out)) hb); have n1_ := Aside0.mk (hbox); have n2_ := Aside0.mk ((by rw [hg]; exact (below_size (by repeat (first | (with_reducible first | exact HB.out | apply below_alloc | apply pw_below_drewN | apply below_drew1) | exact HB.out))) : w.heap.size ≤ gb105)); have n3_ := Aside0.mk ((by rw [hg]; exact (below_size (by repeat (first | (with_reducible first | exact HB.out | apply below_alloc | apply pw_below_drewN | apply below_drew1) | exact HB.out))) : w.heap.size ≤ gb105)); clear HB; have HB := n0_; have BK105 := n1_; have GW105 := n2_; have GE105 := n3_; clear n0_ n1_ n2_ n3_; clear hb hbox hg; have hcz21_0 : w20.cell? ⟨gb105, 0, none⟩ = some (.int .i64 0) := (blk_cell BK105.out 0).trans rfl; have hcz21_1 : w20.cell? ⟨gb105, 1, none⟩ = some (.string (⟨#[]⟩ : ByteArray)) := (blk_cell BK105.out 1).trans rfl; have hcz21_2 : w20.cell? ⟨gb105, 2, none⟩ = some (.string (⟨#[]⟩ : ByteArray)) := (blk_cell BK105.out 2).trans rfl; have hfz21_0 := blk_frozen BK105.out 0; have hfz21_1 := blk_frozen BK105.out 1; have hfz21_2 := blk_frozen BK105.out 2))
    go_ret
    exact ⟨by first | rfl | (simp [errW_none, errW_some] <;> rfl) | (simp [*, errW_none, errW_some] <;> rfl), by repeat (first | (with_reducible first | exact HB.out | apply below_alloc | apply pw_below_drewN | apply below_drew1 | refine below_set ?_ GE105.out) | exact HB.out)⟩

end Go.Proofs.YtdjmgmiaognncaaDoor.X
namespace Go.Proofs.YtdjmgmiaognncaaDoor.X
open Go.RowKit Go.Proofs.YtdjmgmiaognncaaDoorW.PrintWords Go.Proofs.YtdjmgmiaognncaaDoorW.PrintLast Go.Proofs.YtdjmgmiaognncaaDoorW.PrintMore
attribute [local go_sem] max2_int min2_int max_two min_two max_three min_three max_four min_four   -- for this text's walks alone
set_option linter.unusedVariables false
set_option linter.unusedSimpArgs false

/-! ### abutmentref12_Text: function 15 -/
def abutmentref12_Text.f (a0_0 : Int) (a0_1 : ByteArray) (a0_2 : ByteArray) : Option (ByteArray) := if a0_0 = 1 then (some a0_2) else (if a0_0 = 2 then (if 7 + a0_1.size ≤ 9223372036854775807 then (if ((⟨#[104, 116, 116, 112, 58, 47, 47]⟩ : ByteArray) ++ a0_1).size + a0_2.size ≤ 9223372036854775807 then (some (((⟨#[104, 116, 116, 112, 58, 47, 47]⟩ : ByteArray) ++ a0_1) ++ a0_2)) else (none)) else (none)) else (if a0_0 = 3 then (some a0_1) else (if a0_0 = 4 then (some (⟨#[42]⟩ : ByteArray)) else (some (⟨#[]⟩ : ByteArray)))))
set_option maxHeartbeats 8000000 in
set_option maxRecDepth 100000 in
theorem abutmentref12_Text.calls (a0_0 : Int) (a0_1 : ByteArray) (a0_2 : ByteArray) (r : ByteArray) (w : World) (h : abutmentref12_Text.f a0_0 a0_1 a0_2 = some r) :
    Calls Tryd.prog 15 #[.agg #[.int .i64 a0_0, .string a0_1, .string a0_2]] w fun e w' => e = .returned (.string r) ∧ Below w.heap.size w w' := by
  have hu32 := Tryd.underlying32
  have HB := Aside0.mk (Below.refl w.heap.size w)
  have H : (if a0_0 = 1 then (some a0_2) else (if a0_0 = 2 then (if 7 + a0_1.size ≤ 9223372036854775807 then (if ((⟨#[104, 116, 116, 112, 58, 47, 47]⟩ : ByteArray) ++ a0_1).size + a0_2.size ≤ 9223372036854775807 then (some (((⟨#[104, 116, 116, 112, 58, 47, 47]⟩ : ByteArray) ++ a0_1) ++ a0_2)) else (none)) else (none)) else (if a0_0 = 3 then (some a0_1) else (if a0_0 = 4 then (some (⟨#[42]⟩ : ByteArray)) else (some (⟨#[]⟩ : ByteArray)))))) = some r := h
  clear h
  by_cases c2 : a0_0 = 1
  · rw [if_pos c2] at H
    have c2b0 : (a0_0 == 1) = true := beq_iff_eq.mpr c2
    have c2b1 : (a0_0 != 1) = false := bne_eq_false_iff_eq.mpr c2
    clear c2
    obtain rfl := Option.some.inj H
    go_enter Tryd.func15, Tryd.ntmps15
    go_wp2_with (first | ((with_reducible refine gate_dst (N := 1) rfl ?_); refine box_event ?hg (N := 1) ?hd (cs := #[.int .i64 a0_0, .string a0_1, .string a0_2]) (t := 32) ?hr ?_; (case hd => rfl); (case hg => rfl); (case hr => first | (go_simp; done) | (go_simp; rfl)); intro gb101 hg w3 hbox hb; have n0_ := Aside0.mk (below_step (by repeat (first | (with_reducible first | exact HB.out | apply below_alloc | apply pw_below_drewN | apply below_drew1) | exact HB.out)) hb); have n1_ := Aside0.mk (hbox); have n2_ := Aside0.mk ((by rw [hg]; exact (below_size (by repeat (first | (with_reducible first | exact HB.out | apply below_alloc | apply pw_below_drewN | apply below_drew1) | exact HB.out))) : w.heap.size ≤ gb101)); have n3_ := Aside0.mk ((by rw [hg]; exact (below_size (by repeat (first | (with_reducible first | exact HB.out | apply below_alloc | apply pw_below_drewN | apply below_drew1) | exact HB.out))) : w.heap.size ≤ gb101)); clear HB; have HB := n0_; have BK101 := n1_; have GW101 := n2_; have GE101 := n3_; clear n0_ n1_ n2_ n3_; clear hb hbox hg; have hcz4_0 : w3.cell? ⟨gb101, 0, none⟩ = some (.int .i64 a0_0) := (blk_cell BK101.out 0).trans rfl; have hcz4_1 : w3.cell? ⟨gb101, 1, none⟩ = some (.string a0_1) := (blk_cell BK101.out 1).trans rfl; have hcz4_2 : w3.cell? ⟨gb101, 2, none⟩ = some (.string a0_2) := (blk_cell BK101.out 2).trans rfl; have hfz4_0 := blk_frozen BK101.out 0; have hfz4_1 := blk_frozen BK101.out 1; have hfz4_2 := blk_frozen BK101.out 2))
    go_ret
    exact ⟨by first | rfl | (simp [errW_none, errW_some] <;> rfl) | (simp [*, errW_none, errW_some] <;> rfl), by repeat (first | (with_reducible first | exact HB.out | apply below_alloc | apply pw_below_drewN | apply below_drew1 | refine below_set ?_ GE101.out) | exact HB.out)⟩
  · rw [if_neg c2] at H
    have c2b0 : (a0_0 == 1) = false := beq_eq_false_iff_ne.mpr c2
    have c2b1 : (a0_0 != 1) = true := bne_iff_ne.mpr c2
    by_cases c5 : a0_0 = 2
    · rw [if_pos c5] at H
      have c5b0 : (a0_0 == 2) = true := beq_iff_eq.mpr c5
      have c5b1 : (a0_0 != 2) = false := bne_eq_false_iff_eq.mpr c5
      clear c5
      by_cases c6 : 7 + a0_1.size ≤ 9223372036854775807
      · rw [if_pos c6] at H
        have c6b0 := eq_true c6
        have c6b1 : decide (7 + a0_1.size ≤ 9223372036854775807) = true := decide_eq_true c6
        try have c6b2 : (9223372036854775807 < 7 + a0_1.size) = False := eq_false (Nat.not_lt.2 c6)
        by_cases c7 : ((⟨#[104, 116, 116, 112, 58, 47, 47]⟩ : ByteArray) ++ a0_1).size + a0_2.size ≤ 9223372036854775807
        · rw [if_pos c7] at H
          have c7b0 := eq_true c7
          have c7b1 : decide (((⟨#[104, 116, 116, 112, 58, 47, 47]⟩ : ByteArray) ++ a0_1).size + a0_2.size ≤ 9223372036854775807) = true := decide_eq_true c7
          try have c7b2 : (9223372036854775807 < ((⟨#[104, 116, 116, 112, 58, 47, 47]⟩ : ByteArray) ++ a0_1).size + a0_2.size) = False := eq_false (Nat.not_lt.2 c7)
          obtain rfl := Option.some.inj H
          go_enter Tryd.func15, Tryd.ntmps15
          go_wp2_with (first | ((with_reducible refine gate_dst (N := 1) rfl ?_); refine box_event ?hg (N := 1) ?hd (cs := #[.int .i64 a0_0, .string a0_1, .string a0_2]) (t := 32) ?hr ?_; (case hd => rfl); (case hg => rfl); (case hr => first | (go_simp; done) | (go_simp; rfl)); intro gb101 hg w8 hbox hb; have n0_ := Aside0.mk (below_step (by repeat (first | (with_reducible first | exact HB.out | apply below_alloc | apply pw_below_drewN | apply below_drew1) | exact HB.out)) hb); have n1_ := Aside0.mk (hbox); have n2_ := Aside0.mk ((by rw [hg]; exact (below_size (by repeat (first | (with_reducible first | exact HB.out | apply below_alloc | apply pw_below_drewN | apply below_drew1) | exact HB.out))) : w.heap.size ≤ gb101)); have n3_ := Aside0.mk ((by rw [hg]; exact (below_size (by repeat (first | (with_reducible first | exact HB.out | apply below_alloc | apply pw_below_drewN | apply below_drew1) | exact HB.out))) : w.heap.size ≤ gb101)); clear HB; have HB := n0_; have BK101 := n1_; have GW101 := n2_; have GE101 := n3_; clear n0_ n1_ n2_ n3_; clear hb hbox hg; have hcz9_0 : w8.cell? ⟨gb101, 0, none⟩ = some (.int .i64 a0_0) := (blk_cell BK101.out 0).trans rfl; have hcz9_1 : w8.cell? ⟨gb101, 1, none⟩ = some (.string a0_1) := (blk_cell BK101.out 1).trans rfl; have hcz9_2 : w8.cell? ⟨gb101, 2, none⟩ = some (.string a0_2) := (blk_cell BK101.out 2).trans rfl; have hfz9_0 := blk_frozen BK101.out 0; have hfz9_1 := blk_frozen BK101.out 1; have hfz9_2 := blk_frozen BK101.out 2))
          go_ret
          exact ⟨by first | rfl | (simp [errW_none, errW_some] <;> rfl) | (simp [*, errW_none, errW_some] <;> rfl), by repeat (first | (with_reducible first | exact HB.out | apply below_alloc | apply pw_below_drewN | apply below_drew1 | refine below_set ?_ GE101.out) | exact HB.out)⟩
        · rw [if_neg c7] at H
          exact absurd H (by simp)
      · rw [if_neg c6] at H
        exact absurd H (by simp)
    · rw [if_neg c5] at H
      have c5b0 : (a0_0 == 2) = false := beq_eq_false_iff_ne.mpr c5
      have c5b1 : (a0_0 != 2) = true := bne_iff_ne.mpr c5
      by_cases c10 : a0_0 = 3
      · rw [if_pos c10] at H
        have c10b0 : (a0_0 == 3) = true := beq_iff_eq.mpr c10
        have c10b1 : (a0_0 != 3) = false := bne_eq_false_iff_eq.mpr c10
        clear c10
        obtain rfl := Option.some.inj H
        go_enter Tryd.func15, Tryd.ntmps15
        go_wp2_with (first | ((with_reducible refine gate_dst (N := 1) rfl ?_); refine box_event ?hg (N := 1) ?hd (cs := #[.int .i64 a0_0, .string a0_1, .string a0_2]) (t := 32) ?hr ?_; (case hd => rfl); (case hg => rfl); (case hr => first | (go_simp; done) | (go_simp; rfl)); intro gb101 hg w11 hbox hb; have n0_ := Aside0.mk (below_step (by repeat (first | (with_reducible first | exact HB.out | apply below_alloc | apply pw_below_drewN | apply below_drew1) | exact HB.out)) hb); have n1_ := Aside0.mk (hbox); have n2_ := Aside0.mk ((by rw [hg]; exact (below_size (by repeat (first | (with_reducible first | exact HB.out | apply below_alloc | apply pw_below_drewN | apply below_drew1) | exact HB.out))) : w.heap.size ≤ gb101)); have n3_ := Aside0.mk ((by rw [hg]; exact (below_size (by repeat (first | (with_reducible first | exact HB.out | apply below_alloc | apply pw_below_drewN | apply below_drew1) | exact HB.out))) : w.heap.size ≤ gb101)); clear HB; have HB := n0_; have BK101 := n1_; have GW101 := n2_; have GE101 := n3_; clear n0_ n1_ n2_ n3_; clear hb hbox hg; have hcz12_0 : w11.cell? ⟨gb101, 0, none⟩ = some (.int .i64 a0_0) := (blk_cell BK101.out 0).trans rfl; have hcz12_1 : w11.cell? ⟨gb101, 1, none⟩ = some (.string a0_1) := (blk_cell BK101.out 1).trans rfl; have hcz12_2 : w11.cell? ⟨gb101, 2, none⟩ = some (.string a0_2) := (blk_cell BK101.out 2).trans rfl; have hfz12_0 := blk_frozen BK101.out 0; have hfz12_1 := blk_frozen BK101.out 1; have hfz12_2 := blk_frozen BK101.out 2))
        go_ret
        exact ⟨by first | rfl | (simp [errW_none, errW_some] <;> rfl) | (simp [*, errW_none, errW_some] <;> rfl), by repeat (first | (with_reducible first | exact HB.out | apply below_alloc | apply pw_below_drewN | apply below_drew1 | refine below_set ?_ GE101.out) | exact HB.out)⟩
      · rw [if_neg c10] at H
        have c10b0 : (a0_0 == 3) = false := beq_eq_false_iff_ne.mpr c10
        have c10b1 : (a0_0 != 3) = true := bne_iff_ne.mpr c10
        by_cases c13 : a0_0 = 4
        · rw [if_pos c13] at H
          have c13b0 : (a0_0 == 4) = true := beq_iff_eq.mpr c13
          have c13b1 : (a0_0 != 4) = false := bne_eq_false_iff_eq.mpr c13
          clear c13
          obtain rfl := Option.some.inj H
          go_enter Tryd.func15, Tryd.ntmps15
          go_wp2_with (first | ((with_reducible refine gate_dst (N := 1) rfl ?_); refine box_event ?hg (N := 1) ?hd (cs := #[.int .i64 a0_0, .string a0_1, .string a0_2]) (t := 32) ?hr ?_; (case hd => rfl); (case hg => rfl); (case hr => first | (go_simp; done) | (go_simp; rfl)); intro gb101 hg w14 hbox hb; have n0_ := Aside0.mk (below_step (by repeat (first | (with_reducible first | exact HB.out | apply below_alloc | apply pw_below_drewN | apply below_drew1) | exact HB.out)) hb); have n1_ := Aside0.mk (hbox); have n2_ := Aside0.mk ((by rw [hg]; exact (below_size (by repeat (first | (with_reducible first | exact HB.out | apply below_alloc | apply pw_below_drewN | apply below_drew1) | exact HB.out))) : w.heap.size ≤ gb101)); have n3_ := Aside0.mk ((by rw [hg]; exact (below_size (by repeat (first | (with_reducible first | exact HB.out | apply below_alloc | apply pw_below_drewN | apply below_drew1) | exact HB.out))) : w.heap.size ≤ gb101)); clear HB; have HB := n0_; have BK101 := n1_; have GW101 := n2_; have GE101 := n3_; clear n0_ n1_ n2_ n3_; clear hb hbox hg; have hcz15_0 : w14.cell? ⟨gb101, 0, none⟩ = some (.int .i64 a0_0) := (blk_cell BK101.out 0).trans rfl; have hcz15_1 : w14.cell? ⟨gb101, 1, none⟩ = some (.string a0_1) := (blk_cell BK101.out 1).trans rfl; have hcz15_2 : w14.cell? ⟨gb101, 2, none⟩ = some (.string a0_2) := (blk_cell BK101.out 2).trans rfl; have hfz15_0 := blk_frozen BK101.out 0; have hfz15_1 := blk_frozen BK101.out 1; have hfz15_2 := blk_frozen BK101.out 2))
          go_ret
          exact ⟨by first | rfl | (simp [errW_none, errW_some] <;> rfl) | (simp [*, errW_none, errW_some] <;> rfl), by repeat (first | (with_reducible first | exact HB.out | apply below_alloc | apply pw_below_drewN | apply below_drew1 | refine below_set ?_ GE101.out) | exact HB.out)⟩
        · rw [if_neg c13] at H
          have c13b0 : (a0_0 == 4) = false := beq_eq_false_iff_ne.mpr c13
          have c13b1 : (a0_0 != 4) = true := bne_iff_ne.mpr c13
          obtain rfl := Option.some.inj H
          go_enter Tryd.func15, Tryd.ntmps15
          go_wp2_with (first | ((with_reducible refine gate_dst (N := 1) rfl ?_); refine box_event ?hg (N := 1) ?hd (cs := #[.int .i64 a0_0, .string a0_1, .string a0_2]) (t := 32) ?hr ?_; (case hd => rfl); (case hg => rfl); (case hr => first | (go_simp; done) | (go_simp; rfl)); intro gb101 hg w16 hbox hb; have n0_ := Aside0.mk (below_step (by repeat (first | (with_reducible first | exact HB.out | apply below_alloc | apply pw_below_drewN | apply below_drew1) | exact HB.out)) hb); have n1_ := Aside0.mk (hbox); have n2_ := Aside0.mk ((by rw [hg]; exact (below_size (by repeat (first | (with_reducible first | exact HB.out | apply below_alloc | apply pw_below_drewN | apply below_drew1) | exact HB.out))) : w.heap.size ≤ gb101)); have n3_ := Aside0.mk ((by rw [hg]; exact (below_size (by repeat (first | (with_reducible first | exact HB.out | apply below_alloc | apply pw_below_drewN | apply below_drew1) | exact HB.out))) : w.heap.size ≤ gb101)); clear HB; have HB := n0_; have BK101 := n1_; have GW101 := n2_; have GE101 := n3_; clear n0_ n1_ n2_ n3_; clear hb hbox hg; have hcz17_0 : w16.cell? ⟨gb101, 0, none⟩ = some (.int .i64 a0_0) := (blk_cell BK101.out 0).trans rfl; have hcz17_1 : w16.cell? ⟨gb101, 1, none⟩ = some (.string a0_1) := (blk_cell BK101.out 1).trans rfl; have hcz17_2 : w16.cell? ⟨gb101, 2, none⟩ = some (.string a0_2) := (blk_cell BK101.out 2).trans rfl; have hfz17_0 := blk_frozen BK101.out 0; have hfz17_1 := blk_frozen BK101.out 1; have hfz17_2 := blk_frozen BK101.out 2))
          go_ret
          exact ⟨by first | rfl | (simp [errW_none, errW_some] <;> rfl) | (simp [*, errW_none, errW_some] <;> rfl), by repeat (first | (with_reducible first | exact HB.out | apply below_alloc | apply pw_below_drewN | apply below_drew1 | refine below_set ?_ GE101.out) | exact HB.out)⟩

end Go.Proofs.YtdjmgmiaognncaaDoor.X
namespace Go.Proofs.YtdjmgmiaognncaaDoor.X
open Go.RowKit Go.Proofs.YtdjmgmiaognncaaDoorW.PrintWords Go.Proofs.YtdjmgmiaognncaaDoorW.PrintLast Go.Proofs.YtdjmgmiaognncaaDoorW.PrintMore
attribute [local go_sem] max2_int min2_int max_two min_two max_three min_three max_four min_four   -- for this text's walks alone
set_option linter.unusedVariables false
set_option linter.unusedSimpArgs false

/-! ### abutmentref12_Out: function 17 -/
def abutmentref12_Out.j0 : Nat → Bool → Int → ByteArray → ByteArray → Option (ByteArray)
  | 0, _, _, _, _ => none
  | k + 1, x16, x102000, x102001, x102002 => if x16 = true then (some (⟨#[42]⟩ : ByteArray)) else (if x102002.toList = ([] : List UInt8) then (if 1 + x102002.size ≤ 9223372036854775807 then (some ((⟨#[47]⟩ : ByteArray) ++ x102002)) else (none)) else (if 0 < (x102002.size : Int) then (if (bt x102002 0) = 47 then (some x102002) else (if 1 + x102002.size ≤ 9223372036854775807 then (some ((⟨#[47]⟩ : ByteArray) ++ x102002)) else (none))) else (none)))
def abutmentref12_Out.f (k : Nat) (a0 : ByteArray) (a1_0 : Int) (a1_1 : ByteArray) (a1_2 : ByteArray) : Option (ByteArray) := if a1_0 = 2 then (if a1_2.toList = ([] : List UInt8) then (abutmentref12_Out.j0 k (a0.toList == ([79, 80, 84, 73, 79, 78, 83] : List UInt8)) a1_0 a1_1 a1_2) else (abutmentref12_Out.j0 k false a1_0 a1_1 a1_2)) else ((abutmentref12_Text.f a1_0 a1_1 a1_2).bind fun t102 => (some t102))
set_option maxHeartbeats 8000000 in
set_option maxRecDepth 100000 in
theorem abutmentref12_Out.calls (k : Nat) (a0 : ByteArray) (a1_0 : Int) (a1_1 : ByteArray) (a1_2 : ByteArray) (r : ByteArray) (w : World) (h : abutmentref12_Out.f k a0 a1_0 a1_1 a1_2 = some r) :
    Calls Tryd.prog 17 #[.string a0, .agg #[.int .i64 a1_0, .string a1_1, .string a1_2]] w fun e w' => e = .returned (.string r) ∧ Below w.heap.size w w' := by
  have hu32 := Tryd.underlying32
  have HB := Aside0.mk (Below.refl w.heap.size w)
  have H : (if a1_0 = 2 then (if a1_2.toList = ([] : List UInt8) then (abutmentref12_Out.j0 k (a0.toList == ([79, 80, 84, 73, 79, 78, 83] : List UInt8)) a1_0 a1_1 a1_2) else (abutmentref12_Out.j0 k false a1_0 a1_1 a1_2)) else ((abutmentref12_Text.f a1_0 a1_1 a1_2).bind fun t102 => (some t102))) = some r := h
  clear h
  by_cases c3 : a1_0 = 2
  · rw [if_pos c3] at H
    have c3b0 : (a1_0 == 2) = true := beq_iff_eq.mpr c3
    have c3b1 : (a1_0 != 2) = false := bne_eq_false_iff_eq.mpr c3
    clear c3
    have HC4 := Aside0.mk H
    clear H
    go_enter Tryd.func17, Tryd.ntmps17
    go_upto_region 3 with (first | ((with_reducible refine gate_dst (N := 3) rfl ?_); refine box_event ?hg (N := 3) ?hd (cs := #[.int .i64 a1_0, .string a1_1, .string a1_2]) (t := 32) ?hr ?_; (case hd => rfl); (case hg => rfl); (case hr => first | (go_simp; done) | (go_simp; rfl)); intro gb101 hg w5 hbox hb; have n0_ := Aside0.mk (below_step (by repeat (first | (with_reducible first | exact HB.out | apply below_alloc | apply pw_below_drewN | apply below_drew1) | exact HB.out)) hb); have n1_ := Aside0.mk (hbox); have n2_ := Aside0.mk ((by rw [hg]; exact (below_size (by repeat (first | (with_reducible first | exact HB.out | apply below_alloc | apply pw_below_drewN | apply below_drew1) | exact HB.out))) : w.heap.size ≤ gb101)); have n3_ := Aside0.mk ((by rw [hg]; exact (below_size (by repeat (first | (with_reducible first | exact HB.out | apply below_alloc | apply pw_below_drewN | apply below_drew1) | exact HB.out))) : w.heap.size ≤ gb101)); clear HB; have HB := n0_; have BK101 := n1_; have GW101 := n2_; have GE101 := n3_; clear n0_ n1_ n2_ n3_; clear hb hbox hg; have hcz6_0 : w5.cell? ⟨gb101, 0, none⟩ = some (.int .i64 a1_0) := (blk_cell BK101.out 0).trans rfl; have hcz6_1 : w5.cell? ⟨gb101, 1, none⟩ = some (.string a1_1) := (blk_cell BK101.out 1).trans rfl; have hcz6_2 : w5.cell? ⟨gb101, 2, none⟩ = some (.string a1_2) := (blk_cell BK101.out 2).trans rfl; have hfz6_0 := blk_frozen BK101.out 0; have hfz6_1 := blk_frozen BK101.out 1; have hfz6_2 := blk_frozen BK101.out 2))
    (try simp only [Act.put, List.setIfInBounds_toArray, List.set_cons_zero, List.set_cons_succ])
    go_cut [16] (fun v16 wc => ∃ (kq : Nat) (x16_3 : Bool), v16 = .bool x16_3 ∧ Aside0 (abutmentref12_Out.j0 kq x16_3 a1_0 a1_1 a1_2 = some r) ∧ Aside0 (kq ≤ k) ∧ Aside0 (wc.heap[gb101]? = some (.cells #[.int .i64 a1_0, .string a1_1, .string a1_2] 32 (0, 0))) ∧ Aside0 (Below w.heap.size w wc))
    case first =>
      have H := HC4.out
      clear HC4
      by_cases c7 : a1_2.toList = ([] : List UInt8)
      · rw [if_pos c7] at H
        have c7b0 : (a1_2.toList == ([] : List UInt8)) = true := beq_iff_eq.mpr c7
        have c7b1 : (a1_2.toList != ([] : List UInt8)) = false := bne_eq_false_iff_eq.mpr c7
        clear c7
        (first | rw [c7b0] | (simp only [i64_w, i32_w]; rw [c7b0]) | skip)
        have H' := Aside0.mk H
        clear H
        have hcz8_0 : w5.cell? ⟨gb101, 0, none⟩ = some (.int .i64 a1_0) := (blk_cell BK101.out 0).trans rfl
        have hcz8_1 : w5.cell? ⟨gb101, 1, none⟩ = some (.string a1_1) := (blk_cell BK101.out 1).trans rfl
        have hcz8_2 : w5.cell? ⟨gb101, 2, none⟩ = some (.string a1_2) := (blk_cell BK101.out 2).trans rfl
        have hfz8_0 := blk_frozen BK101.out 0
        have hfz8_1 := blk_frozen BK101.out 1
        have hfz8_2 := blk_frozen BK101.out 2
        go_wp2
        go_meet
        case rel => exact ⟨_, ((a0.toList == ([79, 80, 84, 73, 79, 78, 83] : List UInt8))), (by first | rfl | (simp; done) | (simp [*]; done)), H', ⟨by first | omega | exact Nat.le_refl _⟩, ⟨by (with_reducible repeat (first | refine blk_drewN ?_ _ | refine blk_drew ?_ | refine blk_alloc ?_ _)); exact BK101.out⟩, ⟨by repeat (first | (with_reducible first | exact HB.out | apply below_alloc | apply pw_below_drewN | apply below_drew1 | refine below_set ?_ GE101.out) | exact HB.out)⟩⟩
      · rw [if_neg c7] at H
        have c7b0 : (a1_2.toList == ([] : List UInt8)) = false := beq_eq_false_iff_ne.mpr c7
        have c7b1 : (a1_2.toList != ([] : List UInt8)) = true := bne_iff_ne.mpr c7
        (first | rw [c7b0] | (simp only [i64_w, i32_w]; rw [c7b0]) | skip)
        have H' := Aside0.mk H
        clear H
        have hcz9_0 : w5.cell? ⟨gb101, 0, none⟩ = some (.int .i64 a1_0) := (blk_cell BK101.out 0).trans rfl
        have hcz9_1 : w5.cell? ⟨gb101, 1, none⟩ = some (.string a1_1) := (blk_cell BK101.out 1).trans rfl
        have hcz9_2 : w5.cell? ⟨gb101, 2, none⟩ = some (.string a1_2) := (blk_cell BK101.out 2).trans rfl
        have hfz9_0 := blk_frozen BK101.out 0
        have hfz9_1 := blk_frozen BK101.out 1
        have hfz9_2 := blk_frozen BK101.out 2
        go_wp2
        go_meet
        case rel => exact ⟨_, (false), (by first | rfl | (simp; done) | (simp [*]; done)), H', ⟨by first | omega | exact Nat.le_refl _⟩, ⟨by (with_reducible repeat (first | refine blk_drewN ?_ _ | refine blk_drew ?_ | refine blk_alloc ?_ _)); exact BK101.out⟩, ⟨by repeat (first | (with_reducible first | exact HB.out | apply below_alloc | apply pw_below_drewN | apply below_drew1 | refine below_set ?_ GE101.out) | exact HB.out)⟩⟩
    case rest =>
      clear HC4
      try clear c1
      try clear p2
      try clear c3
      try clear c3b0
      try clear c3b1
      try clear c7
      try clear c7b0
      try clear c7b1
      try clear hcz6_0
      try clear hcz6_1
      try clear hcz6_2
      try clear hcz8_0
      try clear hcz8_1
      try clear hcz8_2
      try clear hcz9_0
      try clear hcz9_1
      try clear hcz9_2
      try clear hfz6_0
      try clear hfz6_1
      try clear hfz6_2
      try clear hfz8_0
      try clear hfz8_1
      try clear hfz8_2
      try clear hfz9_0
      try clear hfz9_1
      try clear hfz9_2
      obtain ⟨kq, x16_3, rfl, HA, HJ3, BK101, HB⟩ := hcut
      cases kq with
      | zero => exact absurd HA.out (by simp [abutmentref12_Out.j0])
      | succ kj3 =>
        have H := HA.out
        clear HA
        simp only [abutmentref12_Out.j0] at H
        by_cases c10 : x16_3 = true
        · subst c10
          have H1 : (some (⟨#[42]⟩ : ByteArray)) = some r := by rw [if_pos rfl] at H; exact H
          clear H
          have H := H1
          clear H1
          obtain rfl := Option.some.inj H
          go_wp2
          go_ret
          exact ⟨by first | rfl | (simp [errW_none, errW_some] <;> rfl) | (simp [*, errW_none, errW_some] <;> rfl), by repeat (first | (with_reducible first | exact HB.out | apply below_alloc | apply pw_below_drewN | apply below_drew1 | refine below_set ?_ GE101.out) | exact HB.out)⟩
        · replace c10 := Bool.eq_false_iff.mpr c10
          subst c10
          have H1 : (if a1_2.toList = ([] : List UInt8) then (if 1 + a1_2.size ≤ 9223372036854775807 then (some ((⟨#[47]⟩ : ByteArray) ++ a1_2)) else (none)) else (if 0 < (a1_2.size : Int) then (if (bt a1_2 0) = 47 then (some a1_2) else (if 1 + a1_2.size ≤ 9223372036854775807 then (some ((⟨#[47]⟩ : ByteArray) ++ a1_2)) else (none))) else (none))) = some r := by rw [if_neg (show ¬ (false = true) by decide)] at H; exact H
          clear H
          have H := H1
          clear H1
          by_cases c11 : a1_2.toList = ([] : List UInt8)
          · rw [if_pos c11] at H
            have c11b0 : (a1_2.toList == ([] : List UInt8)) = true := beq_iff_eq.mpr c11
            have c11b1 : (a1_2.toList != ([] : List UInt8)) = false := bne_eq_false_iff_eq.mpr c11
            clear c11
            by_cases c12 : 1 + a1_2.size ≤ 9223372036854775807
            · rw [if_pos c12] at H
              have c12b0 := eq_true c12
              have c12b1 : decide (1 + a1_2.size ≤ 9223372036854775807) = true := decide_eq_true c12
              try have c12b2 : (9223372036854775807 < 1 + a1_2.size) = False := eq_false (Nat.not_lt.2 c12)
              obtain rfl := Option.some.inj H
              have hcz13_0 : wc.cell? ⟨gb101, 0, none⟩ = some (.int .i64 a1_0) := (blk_cell BK101.out 0).trans rfl
              have hcz13_1 : wc.cell? ⟨gb101, 1, none⟩ = some (.string a1_1) := (blk_cell BK101.out 1).trans rfl
              have hcz13_2 : wc.cell? ⟨gb101, 2, none⟩ = some (.string a1_2) := (blk_cell BK101.out 2).trans rfl
              have hfz13_0 := blk_frozen BK101.out 0
              have hfz13_1 := blk_frozen BK101.out 1
              have hfz13_2 := blk_frozen BK101.out 2
              go_wp2
              go_ret
              exact ⟨by first | rfl | (simp [errW_none, errW_some] <;> rfl) | (simp [*, errW_none, errW_some] <;> rfl), by repeat (first | (with_reducible first | exact HB.out | apply below_alloc | apply pw_below_drewN | apply below_drew1 | refine below_set ?_ GE101.out) | exact HB.out)⟩
            · rw [if_neg c12] at H
              exact absurd H (by simp)
          · rw [if_neg c11] at H
            have c11b0 : (a1_2.toList == ([] : List UInt8)) = false := beq_eq_false_iff_ne.mpr c11
            have c11b1 : (a1_2.toList != ([] : List UInt8)) = true := bne_iff_ne.mpr c11
            by_cases c14 : 0 < (a1_2.size : Int)
            · rw [if_pos c14] at H
              have c14b0 : decide (0 < (a1_2.size : Int)) = true := decide_eq_true c14
              have c14b1 : decide (0 < a1_2.size) = true := decide_eq_true (by omega)
              clear c14
              by_cases c16 : (bt a1_2 0) = 47
              · rw [if_pos c16] at H
                have c16b0 : ((bt a1_2 0) == 47) = true := beq_iff_eq.mpr c16
                have c16b1 : ((bt a1_2 0) != 47) = false := bne_eq_false_iff_eq.mpr c16
                clear c16
                obtain rfl := Option.some.inj H
                have hcz17_0 : wc.cell? ⟨gb101, 0, none⟩ = some (.int .i64 a1_0) := (blk_cell BK101.out 0).trans rfl
                have hcz17_1 : wc.cell? ⟨gb101, 1, none⟩ = some (.string a1_1) := (blk_cell BK101.out 1).trans rfl
                have hcz17_2 : wc.cell? ⟨gb101, 2, none⟩ = some (.string a1_2) := (blk_cell BK101.out 2).trans rfl
                have hfz17_0 := blk_frozen BK101.out 0
                have hfz17_1 := blk_frozen BK101.out 1
                have hfz17_2 := blk_frozen BK101.out 2
                have p15 : 0 ≤ (0 : Int) := (by omega)
                have q15 : 0 < a1_2.size := (by have : (0 : Int) < (a1_2.size : Int) := of_decide_eq_true (by first | (with_reducible assumption) | assumption); omega)
                have hx15 : ∀ h : 0 < a1_2.size, ((a1_2[0]'h).toNat : Int) = bt a1_2 0 := bt_at a1_2 0
                clear p15
                have qi15 : (0 < (a1_2.size : Int)) = True := eq_true (of_decide_eq_true (by first | (with_reducible assumption) | assumption))
                replace q15 := eq_true q15
                go_wp2
                go_ret
                exact ⟨by first | rfl | (simp [errW_none, errW_some] <;> rfl) | (simp [*, errW_none, errW_some] <;> rfl), by repeat (first | (with_reducible first | exact HB.out | apply below_alloc | apply pw_below_drewN | apply below_drew1 | refine below_set ?_ GE101.out) | exact HB.out)⟩
              · rw [if_neg c16] at H
                have c16b0 : ((bt a1_2 0) == 47) = false := beq_eq_false_iff_ne.mpr c16
                have c16b1 : ((bt a1_2 0) != 47) = true := bne_iff_ne.mpr c16
                by_cases c18 : 1 + a1_2.size ≤ 9223372036854775807
                · rw [if_pos c18] at H
                  have c18b0 := eq_true c18
                  have c18b1 : decide (1 + a1_2.size ≤ 9223372036854775807) = true := decide_eq_true c18
                  try have c18b2 : (9223372036854775807 < 1 + a1_2.size) = False := eq_false (Nat.not_lt.2 c18)
                  obtain rfl := Option.some.inj H
                  have hcz19_0 : wc.cell? ⟨gb101, 0, none⟩ = some (.int .i64 a1_0) := (blk_cell BK101.out 0).trans rfl
                  have hcz19_1 : wc.cell? ⟨gb101, 1, none⟩ = some (.string a1_1) := (blk_cell BK101.out 1).trans rfl
                  have hcz19_2 : wc.cell? ⟨gb101, 2, none⟩ = some (.string a1_2) := (blk_cell BK101.out 2).trans rfl
                  have hfz19_0 := blk_frozen BK101.out 0
                  have hfz19_1 := blk_frozen BK101.out 1
                  have hfz19_2 := blk_frozen BK101.out 2
                  have p15 : 0 ≤ (0 : Int) := (by omega)
                  have q15 : 0 < a1_2.size := (by have : (0 : Int) < (a1_2.size : Int) := of_decide_eq_true (by first | (with_reducible assumption) | assumption); omega)
                  have hx15 : ∀ h : 0 < a1_2.size, ((a1_2[0]'h).toNat : Int) = bt a1_2 0 := bt_at a1_2 0
                  clear p15
                  have qi15 : (0 < (a1_2.size : Int)) = True := eq_true (of_decide_eq_true (by first | (with_reducible assumption) | assumption))
                  replace q15 := eq_true q15
                  go_wp2
                  go_ret
                  exact ⟨by first | rfl | (simp [errW_none, errW_some] <;> rfl) | (simp [*, errW_none, errW_some] <;> rfl), by repeat (first | (with_reducible first | exact HB.out | apply below_alloc | apply pw_below_drewN | apply below_drew1 | refine below_set ?_ GE101.out) | exact HB.out)⟩
                · rw [if_neg c18] at H
                  exact absurd H (by simp)
            · rw [if_neg c14] at H
              exact absurd H (by simp)
  · rw [if_neg c3] at H
    have c3b0 : (a1_0 == 2) = false := beq_eq_false_iff_ne.mpr c3
    have c3b1 : (a1_0 != 2) = true := bne_iff_ne.mpr c3
    replace H := Option.bind_eq_some_iff.mp H
    obtain ⟨t102, A200, H⟩ := H
    replace H : (some t102) = some r := H
    have A20 := Aside0.mk A200
    clear A200
    obtain rfl := Option.some.inj H
    go_enter Tryd.func17, Tryd.ntmps17
    go_wp2_with (first | ((with_reducible refine gate_dst (N := 3) rfl ?_); refine box_event ?hg (N := 3) ?hd (cs := #[.int .i64 a1_0, .string a1_1, .string a1_2]) (t := 32) ?hr ?_; (case hd => rfl); (case hg => rfl); (case hr => first | (go_simp; done) | (go_simp; rfl)); intro gb101 hg w21 hbox hb; have n0_ := Aside0.mk (below_step (by repeat (first | (with_reducible first | exact HB.out | apply below_alloc | apply pw_below_drewN | apply below_drew1) | exact HB.out)) hb); have n1_ := Aside0.mk (hbox); have n2_ := Aside0.mk ((by rw [hg]; exact (below_size (by repeat (first | (with_reducible first | exact HB.out | apply below_alloc | apply pw_below_drewN | apply below_drew1) | exact HB.out))) : w.heap.size ≤ gb101)); have n3_ := Aside0.mk ((by rw [hg]; exact (below_size (by repeat (first | (with_reducible first | exact HB.out | apply below_alloc | apply pw_below_drewN | apply below_drew1) | exact HB.out))) : w.heap.size ≤ gb101)); clear HB; have HB := n0_; have BK101 := n1_; have GW101 := n2_; have GE101 := n3_; clear n0_ n1_ n2_ n3_; clear hb hbox hg; have hcz22_0 : w21.cell? ⟨gb101, 0, none⟩ = some (.int .i64 a1_0) := (blk_cell BK101.out 0).trans rfl; have hcz22_1 : w21.cell? ⟨gb101, 1, none⟩ = some (.string a1_1) := (blk_cell BK101.out 1).trans rfl; have hcz22_2 : w21.cell? ⟨gb101, 2, none⟩ = some (.string a1_2) := (blk_cell BK101.out 2).trans rfl; have hfz22_0 := blk_frozen BK101.out 0; have hfz22_1 := blk_frozen BK101.out 1; have hfz22_2 := blk_frozen BK101.out 2) | ((with_reducible refine gate_callee (f := 15) rfl ?_); refine goesL_ (some 9) rfl rfl Tryd.func15 (by kernel_rfl) rfl #[.agg #[.int .i64 a1_0, .string a1_1, .string a1_2]] rfl (by (try simp only [List.map_toArray, List.map_cons, List.map_nil]); first | done | rfl | (simp only [List.length_drop, List.length_take]; rfl)) ?_; (with_reducible refine (abutmentref12_Text.calls a1_0 a1_1 a1_2 t102 _ A20.out).mono ?_); rintro e w23 ⟨rfl, hb⟩; refine ⟨_, rfl, ?_⟩; have n0_ := Aside0.mk (blk_below (g := gb101) (o := .cells #[.int .i64 a1_0, .string a1_1, .string a1_2] 32 (0, 0)) (by (with_reducible repeat (first | refine blk_drewN ?_ _ | refine blk_drew ?_ | refine blk_alloc ?_ _)); exact BK101.out) hb); have n1_ := Aside0.mk (below_step (by repeat (first | (with_reducible first | exact HB.out | apply below_alloc | apply pw_below_drewN | apply below_drew1 | refine below_set ?_ GE101.out) | exact HB.out)) hb); clear BK101; clear HB; have BK101 := n0_; have HB := n1_; clear n0_ n1_; (try clear hb); (try clear hb2); (try clear hk); (try clear hi)))
    go_ret
    exact ⟨by first | rfl | (simp [errW_none, errW_some] <;> rfl) | (simp [*, errW_none, errW_some] <;> rfl), by repeat (first | (with_reducible first | exact HB.out | apply below_alloc | apply pw_below_drewN | apply below_drew1 | refine below_set ?_ GE101.out) | exact HB.out)⟩

end Go.Proofs.YtdjmgmiaognncaaDoor.X
