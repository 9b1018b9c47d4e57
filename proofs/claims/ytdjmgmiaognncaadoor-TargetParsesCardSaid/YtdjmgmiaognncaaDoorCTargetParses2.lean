/- Part 2 of the texts behind the claim on TargetParses: contracts of the functions that it reaches, and plain laws about them. No conditions of its own. -/
import Derived.Test.YtdjmgmiaognncaaDoorCTargetParses1
import Derived.Lib.Strings
import Derived.Laws.CopyOwn
import Derived.Laws.Tables
import Derived.Test.YtdjmgmiaognncaaDoorCTargetParsesW2
namespace Go.Proofs.YtdjmgmiaognncaaDoor.X
open Go.RowKit Go.Proofs.YtdjmgmiaognncaaDoorW.PrintWords Go.Proofs.YtdjmgmiaognncaaDoorW.PrintLast Go.Proofs.YtdjmgmiaognncaaDoorW.PrintMore
attribute [local go_sem] max2_int min2_int max_two min_two max_three min_three max_four min_four   -- for this text's walks alone
set_option linter.unusedVariables false
set_option linter.unusedSimpArgs false

/-! ### pure text 0: base -/
theorem snoc_cases {α : Type} (l : List α) : l = [] ∨ ∃ l' c, l = l' ++ [c] := by
  rcases List.eq_nil_or_concat l with h | ⟨l', c, h⟩
  · exact .inl h
  · exact .inr ⟨l', c, by simpa using h⟩
theorem wrap_id (x : Int) (h1 : -9223372036854775808 ≤ x) (h2 : x ≤ 9223372036854775807) : wrap64 x = x := by unfold wrap64; omega
/-- A blank, or a tab. -/
def bl (c : UInt8) : Bool := c == 32 || c == 9
def dropE {α : Type} (p : α → Bool) (l : List α) : List α := (l.reverse.dropWhile p).reverse
theorem dropE_nil {α : Type} (p : α → Bool) : dropE p [] = [] := rfl
theorem dropE_snoc {α : Type} (p : α → Bool) (l : List α) (c : α) : dropE p (l ++ [c]) = if p c = true then dropE p l else l ++ [c] := by
  unfold dropE
  rw [List.reverse_append]
  simp only [List.reverse_cons, List.reverse_nil, List.nil_append, List.singleton_append, List.dropWhile_cons]
  split <;> simp
def trimL (l : List UInt8) : List UInt8 := dropE bl (l.dropWhile bl)
def trimB (s : ByteArray) : ByteArray := ⟨(trimL s.data.toList).toArray⟩
theorem size_list (s : ByteArray) : s.size = s.data.toList.length := Lib.size_eq s
theorem bt_list (s : ByteArray) (i : Nat) (h : i < s.data.toList.length) : bt s (i : Int) = ((s.data.toList[i]'h).toNat : Int) := by
  have h2 : i < s.size := by rw [size_list]; exact h
  have := bt_at s (i : Int) (by simpa using h2)
  rw [← this]
  rfl
theorem u8_eq (c d : UInt8) : ((c.toNat : Int) = (d.toNat : Int)) ↔ c = d := ⟨fun h => UInt8.toNat_inj.1 (by omega), fun h => by rw [h]⟩
theorem bl_int (c : UInt8) : (if (c.toNat : Int) = 32 then some true else some (((c.toNat : Int)) == 9)) = some (bl c) := by
  have h32 : ((c.toNat : Int) = 32) ↔ c = 32 := u8_eq c 32
  have h9 : ((c.toNat : Int) = 9) ↔ c = 9 := u8_eq c 9
  unfold bl
  by_cases e : c = 32
  · rw [if_pos (h32.2 e)]; simp [e]
  · rw [if_neg (fun h => e (h32.1 h))]
    by_cases e2 : c = 9
    · rw [h9.2 e2]; simp [e2]
    · have e3 : ((c.toNat : Int) == 9) = false := beq_eq_false_iff_ne.2 (fun h => e2 (h9.1 h))
      simp [e, e2, e3]
theorem ext_list (s : ByteArray) (a b : Nat) : s.extract a b = ⟨((s.data.toList.drop a).take (b - a)).toArray⟩ := Lib.extract_eq s a b
theorem take_snoc' {α : Type} (l : List α) (i : Nat) (h : i < l.length) : l.take (i + 1) = l.take i ++ [l[i]] := by
  rw [List.take_succ_eq_append_getElem h]
/-- A letter A to Z as a to z. -/
def lowU (c : UInt8) : UInt8 := if 65 ≤ c.toNat ∧ c.toNat ≤ 90 then c + 32 else c
def lowL (l : List UInt8) : List UInt8 := l.map lowU
def lowB (s : ByteArray) : ByteArray := ⟨(lowL s.data.toList).toArray⟩
def foldB (a b : ByteArray) : Bool := lowL a.data.toList == lowL b.data.toList
theorem lowU_int (c : UInt8) : ((lowU c).toNat : Int) = if 65 ≤ (c.toNat : Int) ∧ (c.toNat : Int) ≤ 90 then (c.toNat : Int) + 32 else (c.toNat : Int) := by
  unfold lowU
  by_cases h : 65 ≤ c.toNat ∧ c.toNat ≤ 90
  · rw [if_pos h, if_pos (by omega), UInt8.toNat_add]
    have : (32 : UInt8).toNat = 32 := rfl
    omega
  · rw [if_neg h, if_neg (by omega)]
theorem dropWhile_len {α : Type} (p : α → Bool) (l : List α) : (l.dropWhile p).length ≤ l.length := (List.dropWhile_suffix p).length_le
theorem dropE_len {α : Type} (p : α → Bool) (l : List α) : (dropE p l).length ≤ l.length := by
  unfold dropE
  have := dropWhile_len p l.reverse
  simpa using this
theorem trimB_size (s : ByteArray) : (trimB s).size ≤ s.size := by
  rw [size_list, size_list]
  unfold trimB trimL
  exact Nat.le_trans (dropE_len _ _) (dropWhile_len _ _)


end Go.Proofs.YtdjmgmiaognncaaDoor.X
namespace Go.Proofs.YtdjmgmiaognncaaDoor.X
open Go.RowKit Go.Proofs.YtdjmgmiaognncaaDoorW.PrintWords Go.Proofs.YtdjmgmiaognncaaDoorW.PrintLast Go.Proofs.YtdjmgmiaognncaaDoorW.PrintMore
attribute [local go_sem] max2_int min2_int max_two min_two max_three min_three max_four min_four   -- for this text's walks alone
set_option linter.unusedVariables false
set_option linter.unusedSimpArgs false

/-! ### target_Parse: function 11 -/
def parseOk (s : ByteArray) : Bool := octetVisible s && !decide (0 ≤ Lib.indexByte s.data.toList 35)
def retB (q : Int × ByteArray × ByteArray × Bool) : Int × ByteArray × ByteArray × Int := if q.2.2.2 = true then (q.1, q.2.1, q.2.2.1, 0) else (0, ⟨#[]⟩, ⟨#[]⟩, 11)
def target_Parse.f (a0 : ByteArray) (a1 : ByteArray) : Option (Int × ByteArray × ByteArray × Int) := if a1.size ≤ 140737488351232 then (if a1.toList = [] then some (0, ⟨#[]⟩, ⟨#[]⟩, 2) else if parseOk a1 = false then some (0, ⟨#[]⟩, ⟨#[]⟩, 11)
  else if a0.toList = [67, 79, 78, 78, 69, 67, 84] then (target_connect.f 1000000000 a1).bind fun q => some (retB q)
  else if bt a1 0 = 47 then some (1, ⟨#[]⟩, a1, 0)
  else if a1.toList = [42] then (if a0.toList = [79, 80, 84, 73, 79, 78, 83] then some (4, ⟨#[]⟩, ⟨#[]⟩, 0) else some (0, ⟨#[]⟩, ⟨#[]⟩, 11))
  else (target_absolute.f a1).bind fun q => some (retB q)) else none
set_option maxHeartbeats 8000000 in
set_option maxRecDepth 100000 in
theorem parse_empty (a0 a1 : ByteArray) (w : World) (he : (a1.toList == []) = true) :
    Calls Tryd.prog 11 #[.string a0, .string a1] w fun e w' => e = .returned (.tuple #[.agg #[.int .i64 0, .string (⟨#[]⟩ : ByteArray), .string (⟨#[]⟩ : ByteArray)], .int .i64 2]) ∧ Below w.heap.size w w' := by
  have he2 : a1.toList.isEmpty = true := by rw [List.isEmpty_iff]; exact beq_iff_eq.1 he

  go_enter Tryd.func11, Tryd.ntmps11
  go_upto_region 1 with (fail)
  generalize hX : World.alloc _ _ = X
  have HS := Aside0.mk (show X.heap[w.heap.size]? = some (.cells #[.string a1] 9 (0, 0)) by rw [← hX]; exact blk_alloc (blk_new _ _) _)
  have HR := Aside0.mk (show X.heap[w.heap.size + 1]? = some (.cells #[.int .i64 0, .string (⟨#[]⟩ : ByteArray), .string (⟨#[]⟩ : ByteArray)] 32 (0, 0)) by rw [← hX]; have h := blk_new (w.alloc (.cells #[.string a1] 9)) (.cells #[.int .i64 0, .string (⟨#[]⟩ : ByteArray), .string (⟨#[]⟩ : ByteArray)] 32); simpa using h)
  have BX := Aside0.mk (show Below w.heap.size w X by rw [← hX]; exact below_alloc (below_alloc (Below.refl _ w) _) _)
  clear hX
  have c0 : X.cell? ⟨w.heap.size, 0, none⟩ = some (.string a1) := blk_cell HS.out 0

  go_wp2_with (refine wpList_store_row rfl 32 (.tmp 4) (.tmp 11) rfl (w.heap.size + 1) #[.int .i64 0, .string (⟨#[]⟩ : ByteArray), .string (⟨#[]⟩ : ByteArray)] rfl rfl _ _ HR.out (by kernel_rfl) rfl (by simp [Value.oneCell']) ?_)

  refine bodyPost_ret (results_ct rfl _ _ (w.heap.size + 1) 32 #[.int .i64 0, .string (⟨#[]⟩ : ByteArray), .string (⟨#[]⟩ : ByteArray)] (0, 0) _ rfl (by exact setRow_heap _ _ _ _ _ _ HR.out) Tryd.underlying32 rfl (by kernel_rfl)) rfl ?_
  exact ⟨rfl, below_setRow BX.out (Nat.le_succ _) _⟩
theorem try_after {w Z W1 V : World} {O TT R : Nat} {c b : Bool} {x y z : Value} {cr : Array Value} {r1 : Int} {r2 r3 : ByteArray} (BZ : Below w.heap.size w Z) (hb : Below Z.heap.size Z W1) (hV : V = (W1.setRow TT #[.int .i64 r1, .string r2, .string r3]).setCell ⟨O, 0, none⟩ (.bool b)) (HO : Z.heap[O]? = some (.cells #[.bool c] 4 (0, 0))) (HT : Z.heap[TT]? = some (.cells #[x, y, z] 32 (0, 0))) (HR : Z.heap[R]? = some (.cells cr 32 (0, 0))) (h1 : O ≠ TT) (h2 : O ≠ R) (h3 : R ≠ TT) (hBT : w.heap.size ≤ TT) (hBO : w.heap.size ≤ O) :
    V.heap[O]? = some (.cells #[.bool b] 4 (0, 0)) ∧ V.heap[TT]? = some (.cells #[.int .i64 r1, .string r2, .string r3] 32 (0, 0)) ∧ V.heap[R]? = some (.cells cr 32 (0, 0)) ∧ Below w.heap.size w V := by
  subst hV
  have hO1 := (setRow_other W1 TT O #[.int .i64 r1, .string r2, .string r3] h1).trans (blk_below HO hb)
  have hT1 := setRow_heap W1 TT _ #[.int .i64 r1, .string r2, .string r3] _ _ (blk_below HT hb)
  have hR1 := (setRow_other W1 TT R #[.int .i64 r1, .string r2, .string r3] h3).trans (blk_below HR hb)
  exact ⟨blk_put hO1 0 _ rfl, blk_far hT1 (fun h => h1 h.symm) _, blk_far hR1 (fun h => h2 h.symm) _, (below_setRow (below_step BZ hb) hBT _).setCell hBO _⟩
set_option maxHeartbeats 8000000 in
set_option maxRecDepth 100000 in
theorem parse_v_connect (a0 a1 : ByteArray) (w : World) (he : (a1.toList == []) = false)(HV : ∀ W, Calls Tryd.prog 31 #[.string a1] W fun e w' => e = .returned (.bool false) ∧ Below W.heap.size W w')(m1 : (a0.toList == [67, 79, 78, 78, 69, 67, 84]) = true) :
    Calls Tryd.prog 11 #[.string a0, .string a1] w fun e w' => e = .returned (.tuple #[.agg #[.int .i64 0, .string (⟨#[]⟩ : ByteArray), .string (⟨#[]⟩ : ByteArray)], .int .i64 11]) ∧ Below w.heap.size w w' := by
  have he2 : a1.toList.isEmpty = false := by rw [Bool.eq_false_iff]; intro hh; rw [List.isEmpty_iff] at hh; rw [hh] at he; cases he
  have hpos : 0 < a1.size := by
    rcases Nat.eq_zero_or_pos a1.size with h0 | h0
    · rw [Lib.toList_data] at he2
      have := size_list a1
      rw [h0] at this
      rw [List.isEmpty_eq_false_iff] at he2
      exact absurd (List.eq_nil_of_length_eq_zero this.symm) he2
    · exact h0

  have i0 : ((0 : Int) < (a1.size : Int)) = True := eq_true (by omega)
  have i1 : (0 < a1.size) = True := eq_true hpos
  have i2 : ((a1[0]'hpos).toNat : Int) = bt a1 0 := bt_at a1 0 hpos

  go_enter Tryd.func11, Tryd.ntmps11
  go_upto_region 1 with (fail)
  generalize hX : World.alloc _ _ = X
  have HS := Aside0.mk (show X.heap[w.heap.size]? = some (.cells #[.string a1] 9 (0, 0)) by rw [← hX]; exact blk_alloc (blk_new _ _) _)
  have HR := Aside0.mk (show X.heap[w.heap.size + 1]? = some (.cells #[.int .i64 0, .string (⟨#[]⟩ : ByteArray), .string (⟨#[]⟩ : ByteArray)] 32 (0, 0)) by rw [← hX]; have h := blk_new (w.alloc (.cells #[.string a1] 9)) (.cells #[.int .i64 0, .string (⟨#[]⟩ : ByteArray), .string (⟨#[]⟩ : ByteArray)] 32); simpa using h)
  have BX := Aside0.mk (show Below w.heap.size w X by rw [← hX]; exact below_alloc (below_alloc (Below.refl _ w) _) _)
  clear hX
  have c0 : X.cell? ⟨w.heap.size, 0, none⟩ = some (.string a1) := blk_cell HS.out 0

  go_upto_region 4 with (fail)
  generalize hY : World.alloc X _ = Y
  have HT := Aside0.mk (show Y.heap[X.heap.size]? = some (.cells #[.int .i64 0, .string (⟨#[]⟩ : ByteArray), .string (⟨#[]⟩ : ByteArray)] 32 (0, 0)) by rw [← hY]; exact blk_new _ _)
  have HS1 := Aside0.mk (show Y.heap[w.heap.size]? = some (.cells #[.string a1] 9 (0, 0)) by rw [← hY]; exact blk_alloc HS.out _)
  have HR1 := Aside0.mk (show Y.heap[w.heap.size + 1]? = some (.cells #[.int .i64 0, .string (⟨#[]⟩ : ByteArray), .string (⟨#[]⟩ : ByteArray)] 32 (0, 0)) by rw [← hY]; exact blk_alloc HR.out _)
  have BY := Aside0.mk (show Below w.heap.size w Y by rw [← hY]; exact below_alloc BX.out _)
  have HRT := Aside0.mk (show w.heap.size + 1 ≠ X.heap.size by have := blk_lt HR.out; omega)
  clear hY c0 HS HR
  have hxs := below_size BX.out
  have HXS := Aside0.mk hxs
  clear hxs BX
  generalize X.heap.size = TT at *
  have c0 : Y.cell? ⟨w.heap.size, 0, none⟩ = some (.string a1) := blk_cell HS1.out 0
  go_upto_region 5 with (first
    | (go_at_call 31; (with_reducible refine (HV _).mono ?_); rintro e w1 ⟨rfl, hb⟩; have HT2 := Aside0.mk (blk_below HT.out hb); have HS2 := Aside0.mk (blk_below HS1.out hb); have HR2 := Aside0.mk (blk_below HR1.out hb); have B2 := Aside0.mk (below_step BY.out hb); have c1 := blk_cell HS2.out 0; clear hb HT HS1 HR1 BY c0)
    | (go_at_call 32; (with_reducible refine (Tryd.strings_Contains_one a1 35 _).mono ?_); rintro e w' ⟨rfl, hw⟩; rw [hw]; clear hw))
  generalize hO : w1.heap.size = O at *
  have HO := Aside0.mk hO
  clear hO

  generalize hZ : World.alloc w1 _ = Z
  have HO3 := Aside0.mk (show Z.heap[O]? = some (.cells #[.bool false] 4 (0, 0)) by rw [← hZ, ← HO.out]; exact blk_new _ _)
  have HT3 := Aside0.mk (show Z.heap[TT]? = some (.cells #[.int .i64 0, .string (⟨#[]⟩ : ByteArray), .string (⟨#[]⟩ : ByteArray)] 32 (0, 0)) by rw [← hZ]; exact blk_alloc HT2.out _)
  have HS3 := Aside0.mk (show Z.heap[w.heap.size]? = some (.cells #[.string a1] 9 (0, 0)) by rw [← hZ]; exact blk_alloc HS2.out _)
  have HR3 := Aside0.mk (show Z.heap[w.heap.size + 1]? = some (.cells #[.int .i64 0, .string (⟨#[]⟩ : ByteArray), .string (⟨#[]⟩ : ByteArray)] 32 (0, 0)) by rw [← hZ]; exact blk_alloc HR2.out _)
  have BZ := Aside0.mk (show Below w.heap.size w Z by rw [← hZ]; exact below_alloc B2.out _)
  have HOT := Aside0.mk (show O ≠ TT by have h1 := blk_lt HT2.out; have h2 := HO.out; intro h3; omega)
  have HOR := Aside0.mk (show O ≠ w.heap.size + 1 by have h1 := blk_lt HR2.out; have h2 := HO.out; intro h3; omega)
  have HBO := Aside0.mk (show w.heap.size ≤ O by have h1 := blk_lt HR2.out; have h2 := HO.out; omega)
  clear hZ HO HT2 HS2 HR2 B2 c1
  have cO : Z.cell? ⟨O, 0, none⟩ = some (.bool false) := blk_cell HO3.out 0
  have cS : Z.cell? ⟨w.heap.size, 0, none⟩ = some (.string a1) := blk_cell HS3.out 0

  go_upto_region 13 with (go_at_call 33; (with_reducible refine (try_off 34 _ O _ TT HO3).mono ?_); rintro e w' ⟨rfl, rfl⟩)

  go_wp2_with (refine wpList_store_row rfl 32 (.tmp 4) (.tmp 44) rfl (w.heap.size + 1) #[.int .i64 0, .string (⟨#[]⟩ : ByteArray), .string (⟨#[]⟩ : ByteArray)] rfl rfl _ _ HR3.out (by kernel_rfl) rfl (by simp [Value.oneCell']) ?_)

  refine bodyPost_ret (results_ct rfl _ _ (w.heap.size + 1) 32 #[.int .i64 0, .string (⟨#[]⟩ : ByteArray), .string (⟨#[]⟩ : ByteArray)] (0, 0) _ rfl (by exact setRow_heap _ _ _ _ _ _ HR3.out) Tryd.underlying32 rfl (by kernel_rfl)) rfl ?_
  exact ⟨rfl, below_setRow BZ.out (Nat.le_succ _) _⟩
set_option maxHeartbeats 8000000 in
set_option maxRecDepth 100000 in
theorem parse_v_absolute (a0 a1 : ByteArray) (w : World) (he : (a1.toList == []) = false)(HV : ∀ W, Calls Tryd.prog 31 #[.string a1] W fun e w' => e = .returned (.bool false) ∧ Below W.heap.size W w')(m1 : (a0.toList == [67, 79, 78, 78, 69, 67, 84]) = false)(s1 : (bt a1 0 == 47) = false)(s2 : (a1.toList == [42]) = false) :
    Calls Tryd.prog 11 #[.string a0, .string a1] w fun e w' => e = .returned (.tuple #[.agg #[.int .i64 0, .string (⟨#[]⟩ : ByteArray), .string (⟨#[]⟩ : ByteArray)], .int .i64 11]) ∧ Below w.heap.size w w' := by
  have he2 : a1.toList.isEmpty = false := by rw [Bool.eq_false_iff]; intro hh; rw [List.isEmpty_iff] at hh; rw [hh] at he; cases he
  have hpos : 0 < a1.size := by
    rcases Nat.eq_zero_or_pos a1.size with h0 | h0
    · rw [Lib.toList_data] at he2
      have := size_list a1
      rw [h0] at this
      rw [List.isEmpty_eq_false_iff] at he2
      exact absurd (List.eq_nil_of_length_eq_zero this.symm) he2
    · exact h0

  have i0 : ((0 : Int) < (a1.size : Int)) = True := eq_true (by omega)
  have i1 : (0 < a1.size) = True := eq_true hpos
  have i2 : ((a1[0]'hpos).toNat : Int) = bt a1 0 := bt_at a1 0 hpos

  go_enter Tryd.func11, Tryd.ntmps11
  go_upto_region 1 with (fail)
  generalize hX : World.alloc _ _ = X
  have HS := Aside0.mk (show X.heap[w.heap.size]? = some (.cells #[.string a1] 9 (0, 0)) by rw [← hX]; exact blk_alloc (blk_new _ _) _)
  have HR := Aside0.mk (show X.heap[w.heap.size + 1]? = some (.cells #[.int .i64 0, .string (⟨#[]⟩ : ByteArray), .string (⟨#[]⟩ : ByteArray)] 32 (0, 0)) by rw [← hX]; have h := blk_new (w.alloc (.cells #[.string a1] 9)) (.cells #[.int .i64 0, .string (⟨#[]⟩ : ByteArray), .string (⟨#[]⟩ : ByteArray)] 32); simpa using h)
  have BX := Aside0.mk (show Below w.heap.size w X by rw [← hX]; exact below_alloc (below_alloc (Below.refl _ w) _) _)
  clear hX
  have c0 : X.cell? ⟨w.heap.size, 0, none⟩ = some (.string a1) := blk_cell HS.out 0

  go_upto_region 4 with (fail)
  generalize hY : World.alloc X _ = Y
  have HT := Aside0.mk (show Y.heap[X.heap.size]? = some (.cells #[.int .i64 0, .string (⟨#[]⟩ : ByteArray), .string (⟨#[]⟩ : ByteArray)] 32 (0, 0)) by rw [← hY]; exact blk_new _ _)
  have HS1 := Aside0.mk (show Y.heap[w.heap.size]? = some (.cells #[.string a1] 9 (0, 0)) by rw [← hY]; exact blk_alloc HS.out _)
  have HR1 := Aside0.mk (show Y.heap[w.heap.size + 1]? = some (.cells #[.int .i64 0, .string (⟨#[]⟩ : ByteArray), .string (⟨#[]⟩ : ByteArray)] 32 (0, 0)) by rw [← hY]; exact blk_alloc HR.out _)
  have BY := Aside0.mk (show Below w.heap.size w Y by rw [← hY]; exact below_alloc BX.out _)
  have HRT := Aside0.mk (show w.heap.size + 1 ≠ X.heap.size by have := blk_lt HR.out; omega)
  clear hY c0 HS HR
  have hxs := below_size BX.out
  have HXS := Aside0.mk hxs
  clear hxs BX
  generalize X.heap.size = TT at *
  have c0 : Y.cell? ⟨w.heap.size, 0, none⟩ = some (.string a1) := blk_cell HS1.out 0
  go_upto_region 5 with (first
    | (go_at_call 31; (with_reducible refine (HV _).mono ?_); rintro e w1 ⟨rfl, hb⟩; have HT2 := Aside0.mk (blk_below HT.out hb); have HS2 := Aside0.mk (blk_below HS1.out hb); have HR2 := Aside0.mk (blk_below HR1.out hb); have B2 := Aside0.mk (below_step BY.out hb); have c1 := blk_cell HS2.out 0; clear hb HT HS1 HR1 BY c0)
    | (go_at_call 32; (with_reducible refine (Tryd.strings_Contains_one a1 35 _).mono ?_); rintro e w' ⟨rfl, hw⟩; rw [hw]; clear hw))
  generalize hO : w1.heap.size = O at *
  have HO := Aside0.mk hO
  clear hO

  generalize hZ : World.alloc w1 _ = Z
  have HO3 := Aside0.mk (show Z.heap[O]? = some (.cells #[.bool false] 4 (0, 0)) by rw [← hZ, ← HO.out]; exact blk_new _ _)
  have HT3 := Aside0.mk (show Z.heap[TT]? = some (.cells #[.int .i64 0, .string (⟨#[]⟩ : ByteArray), .string (⟨#[]⟩ : ByteArray)] 32 (0, 0)) by rw [← hZ]; exact blk_alloc HT2.out _)
  have HS3 := Aside0.mk (show Z.heap[w.heap.size]? = some (.cells #[.string a1] 9 (0, 0)) by rw [← hZ]; exact blk_alloc HS2.out _)
  have HR3 := Aside0.mk (show Z.heap[w.heap.size + 1]? = some (.cells #[.int .i64 0, .string (⟨#[]⟩ : ByteArray), .string (⟨#[]⟩ : ByteArray)] 32 (0, 0)) by rw [← hZ]; exact blk_alloc HR2.out _)
  have BZ := Aside0.mk (show Below w.heap.size w Z by rw [← hZ]; exact below_alloc B2.out _)
  have HOT := Aside0.mk (show O ≠ TT by have h1 := blk_lt HT2.out; have h2 := HO.out; intro h3; omega)
  have HOR := Aside0.mk (show O ≠ w.heap.size + 1 by have h1 := blk_lt HR2.out; have h2 := HO.out; intro h3; omega)
  have HBO := Aside0.mk (show w.heap.size ≤ O by have h1 := blk_lt HR2.out; have h2 := HO.out; omega)
  clear hZ HO HT2 HS2 HR2 B2 c1
  have cO : Z.cell? ⟨O, 0, none⟩ = some (.bool false) := blk_cell HO3.out 0
  have cS : Z.cell? ⟨w.heap.size, 0, none⟩ = some (.string a1) := blk_cell HS3.out 0

  go_upto_region 13 with (go_at_call 33; (with_reducible refine (try_off 35 _ O _ TT HO3).mono ?_); rintro e w' ⟨rfl, rfl⟩)

  go_wp2_with (refine wpList_store_row rfl 32 (.tmp 4) (.tmp 44) rfl (w.heap.size + 1) #[.int .i64 0, .string (⟨#[]⟩ : ByteArray), .string (⟨#[]⟩ : ByteArray)] rfl rfl _ _ HR3.out (by kernel_rfl) rfl (by simp [Value.oneCell']) ?_)

  refine bodyPost_ret (results_ct rfl _ _ (w.heap.size + 1) 32 #[.int .i64 0, .string (⟨#[]⟩ : ByteArray), .string (⟨#[]⟩ : ByteArray)] (0, 0) _ rfl (by exact setRow_heap _ _ _ _ _ _ HR3.out) Tryd.underlying32 rfl (by kernel_rfl)) rfl ?_
  exact ⟨rfl, below_setRow BZ.out (Nat.le_succ _) _⟩
set_option maxHeartbeats 8000000 in
set_option maxRecDepth 100000 in
theorem parse_v_slash (a0 a1 : ByteArray) (w : World) (he : (a1.toList == []) = false)(HV : ∀ W, Calls Tryd.prog 31 #[.string a1] W fun e w' => e = .returned (.bool false) ∧ Below W.heap.size W w')(m1 : (a0.toList == [67, 79, 78, 78, 69, 67, 84]) = false)(s1 : (bt a1 0 == 47) = true) :
    Calls Tryd.prog 11 #[.string a0, .string a1] w fun e w' => e = .returned (.tuple #[.agg #[.int .i64 0, .string (⟨#[]⟩ : ByteArray), .string (⟨#[]⟩ : ByteArray)], .int .i64 11]) ∧ Below w.heap.size w w' := by
  have he2 : a1.toList.isEmpty = false := by rw [Bool.eq_false_iff]; intro hh; rw [List.isEmpty_iff] at hh; rw [hh] at he; cases he
  have hpos : 0 < a1.size := by
    rcases Nat.eq_zero_or_pos a1.size with h0 | h0
    · rw [Lib.toList_data] at he2
      have := size_list a1
      rw [h0] at this
      rw [List.isEmpty_eq_false_iff] at he2
      exact absurd (List.eq_nil_of_length_eq_zero this.symm) he2
    · exact h0

  have i0 : ((0 : Int) < (a1.size : Int)) = True := eq_true (by omega)
  have i1 : (0 < a1.size) = True := eq_true hpos
  have i2 : ((a1[0]'hpos).toNat : Int) = bt a1 0 := bt_at a1 0 hpos

  go_enter Tryd.func11, Tryd.ntmps11
  go_upto_region 1 with (fail)
  generalize hX : World.alloc _ _ = X
  have HS := Aside0.mk (show X.heap[w.heap.size]? = some (.cells #[.string a1] 9 (0, 0)) by rw [← hX]; exact blk_alloc (blk_new _ _) _)
  have HR := Aside0.mk (show X.heap[w.heap.size + 1]? = some (.cells #[.int .i64 0, .string (⟨#[]⟩ : ByteArray), .string (⟨#[]⟩ : ByteArray)] 32 (0, 0)) by rw [← hX]; have h := blk_new (w.alloc (.cells #[.string a1] 9)) (.cells #[.int .i64 0, .string (⟨#[]⟩ : ByteArray), .string (⟨#[]⟩ : ByteArray)] 32); simpa using h)
  have BX := Aside0.mk (show Below w.heap.size w X by rw [← hX]; exact below_alloc (below_alloc (Below.refl _ w) _) _)
  clear hX
  have c0 : X.cell? ⟨w.heap.size, 0, none⟩ = some (.string a1) := blk_cell HS.out 0

  go_upto_region 4 with (fail)
  generalize hY : World.alloc X _ = Y
  have HT := Aside0.mk (show Y.heap[X.heap.size]? = some (.cells #[.int .i64 0, .string (⟨#[]⟩ : ByteArray), .string (⟨#[]⟩ : ByteArray)] 32 (0, 0)) by rw [← hY]; exact blk_new _ _)
  have HS1 := Aside0.mk (show Y.heap[w.heap.size]? = some (.cells #[.string a1] 9 (0, 0)) by rw [← hY]; exact blk_alloc HS.out _)
  have HR1 := Aside0.mk (show Y.heap[w.heap.size + 1]? = some (.cells #[.int .i64 0, .string (⟨#[]⟩ : ByteArray), .string (⟨#[]⟩ : ByteArray)] 32 (0, 0)) by rw [← hY]; exact blk_alloc HR.out _)
  have BY := Aside0.mk (show Below w.heap.size w Y by rw [← hY]; exact below_alloc BX.out _)
  have HRT := Aside0.mk (show w.heap.size + 1 ≠ X.heap.size by have := blk_lt HR.out; omega)
  clear hY c0 HS HR
  have hxs := below_size BX.out
  have HXS := Aside0.mk hxs
  clear hxs BX
  generalize X.heap.size = TT at *
  have c0 : Y.cell? ⟨w.heap.size, 0, none⟩ = some (.string a1) := blk_cell HS1.out 0
  go_upto_region 5 with (first
    | (go_at_call 31; (with_reducible refine (HV _).mono ?_); rintro e w1 ⟨rfl, hb⟩; have HT2 := Aside0.mk (blk_below HT.out hb); have HS2 := Aside0.mk (blk_below HS1.out hb); have HR2 := Aside0.mk (blk_below HR1.out hb); have B2 := Aside0.mk (below_step BY.out hb); have c1 := blk_cell HS2.out 0; clear hb HT HS1 HR1 BY c0)
    | (go_at_call 32; (with_reducible refine (Tryd.strings_Contains_one a1 35 _).mono ?_); rintro e w' ⟨rfl, hw⟩; rw [hw]; clear hw))
  generalize hO : w1.heap.size = O at *
  have HO := Aside0.mk hO
  clear hO

  generalize hZ : World.alloc w1 _ = Z
  have HO3 := Aside0.mk (show Z.heap[O]? = some (.cells #[.bool false] 4 (0, 0)) by rw [← hZ, ← HO.out]; exact blk_new _ _)
  have HT3 := Aside0.mk (show Z.heap[TT]? = some (.cells #[.int .i64 0, .string (⟨#[]⟩ : ByteArray), .string (⟨#[]⟩ : ByteArray)] 32 (0, 0)) by rw [← hZ]; exact blk_alloc HT2.out _)
  have HS3 := Aside0.mk (show Z.heap[w.heap.size]? = some (.cells #[.string a1] 9 (0, 0)) by rw [← hZ]; exact blk_alloc HS2.out _)
  have HR3 := Aside0.mk (show Z.heap[w.heap.size + 1]? = some (.cells #[.int .i64 0, .string (⟨#[]⟩ : ByteArray), .string (⟨#[]⟩ : ByteArray)] 32 (0, 0)) by rw [← hZ]; exact blk_alloc HR2.out _)
  have BZ := Aside0.mk (show Below w.heap.size w Z by rw [← hZ]; exact below_alloc B2.out _)
  have HOT := Aside0.mk (show O ≠ TT by have h1 := blk_lt HT2.out; have h2 := HO.out; intro h3; omega)
  have HOR := Aside0.mk (show O ≠ w.heap.size + 1 by have h1 := blk_lt HR2.out; have h2 := HO.out; intro h3; omega)
  have HBO := Aside0.mk (show w.heap.size ≤ O by have h1 := blk_lt HR2.out; have h2 := HO.out; omega)
  clear hZ HO HT2 HS2 HR2 B2 c1
  have cO : Z.cell? ⟨O, 0, none⟩ = some (.bool false) := blk_cell HO3.out 0
  have cS : Z.cell? ⟨w.heap.size, 0, none⟩ = some (.string a1) := blk_cell HS3.out 0

  go_upto_region 13 with (refine wpList_store_row rfl 32 (.tmp 6) (.tmp 32) rfl TT #[.int .i64 1, .string (⟨#[]⟩ : ByteArray), .string a1] rfl rfl _ _ HT3.out (by kernel_rfl) rfl (by simp [Value.oneCell']) ?_)

  generalize hV : World.setRow Z TT #[.int .i64 1, .string (⟨#[]⟩ : ByteArray), .string a1] = V
  have HO4 := Aside0.mk (show V.heap[O]? = some (.cells #[.bool false] 4 (0, 0)) by rw [← hV]; exact (setRow_other Z TT O _ HOT.out).trans HO3.out)
  have HT4 := Aside0.mk (show V.heap[TT]? = some (.cells #[.int .i64 1, .string (⟨#[]⟩ : ByteArray), .string a1] 32 (0, 0)) by rw [← hV]; exact setRow_heap _ _ _ _ _ _ HT3.out)
  have HR4 := Aside0.mk (show V.heap[w.heap.size + 1]? = some (.cells #[.int .i64 0, .string (⟨#[]⟩ : ByteArray), .string (⟨#[]⟩ : ByteArray)] 32 (0, 0)) by rw [← hV]; exact (setRow_other Z TT _ _ HRT.out).trans HR3.out)
  have BV := Aside0.mk (show Below w.heap.size w V by rw [← hV]; exact below_setRow BZ.out HXS.out _)
  clear hV cO cS
  have cO := blk_cell HO4.out 0

  go_wp2_with (refine wpList_store_row rfl 32 (.tmp 4) (.tmp 44) rfl (w.heap.size + 1) #[.int .i64 0, .string (⟨#[]⟩ : ByteArray), .string (⟨#[]⟩ : ByteArray)] rfl rfl _ _ HR4.out (by kernel_rfl) rfl (by simp [Value.oneCell']) ?_)

  refine bodyPost_ret (results_ct rfl _ _ (w.heap.size + 1) 32 #[.int .i64 0, .string (⟨#[]⟩ : ByteArray), .string (⟨#[]⟩ : ByteArray)] (0, 0) _ rfl (by exact setRow_heap _ _ _ _ _ _ HR4.out) Tryd.underlying32 rfl (by kernel_rfl)) rfl ?_
  exact ⟨rfl, below_setRow BV.out (Nat.le_succ _) _⟩
set_option maxHeartbeats 8000000 in
set_option maxRecDepth 100000 in
theorem parse_v_star (a0 a1 : ByteArray) (w : World) (he : (a1.toList == []) = false)(HV : ∀ W, Calls Tryd.prog 31 #[.string a1] W fun e w' => e = .returned (.bool false) ∧ Below W.heap.size W w')(m1 : (a0.toList == [67, 79, 78, 78, 69, 67, 84]) = false)(s1 : (bt a1 0 == 47) = false)(s2 : (a1.toList == [42]) = true) :
    Calls Tryd.prog 11 #[.string a0, .string a1] w fun e w' => e = .returned (.tuple #[.agg #[.int .i64 0, .string (⟨#[]⟩ : ByteArray), .string (⟨#[]⟩ : ByteArray)], .int .i64 11]) ∧ Below w.heap.size w w' := by
  have he2 : a1.toList.isEmpty = false := by rw [Bool.eq_false_iff]; intro hh; rw [List.isEmpty_iff] at hh; rw [hh] at he; cases he
  have hpos : 0 < a1.size := by
    rcases Nat.eq_zero_or_pos a1.size with h0 | h0
    · rw [Lib.toList_data] at he2
      have := size_list a1
      rw [h0] at this
      rw [List.isEmpty_eq_false_iff] at he2
      exact absurd (List.eq_nil_of_length_eq_zero this.symm) he2
    · exact h0

  have i0 : ((0 : Int) < (a1.size : Int)) = True := eq_true (by omega)
  have i1 : (0 < a1.size) = True := eq_true hpos
  have i2 : ((a1[0]'hpos).toNat : Int) = bt a1 0 := bt_at a1 0 hpos

  go_enter Tryd.func11, Tryd.ntmps11
  go_upto_region 1 with (fail)
  generalize hX : World.alloc _ _ = X
  have HS := Aside0.mk (show X.heap[w.heap.size]? = some (.cells #[.string a1] 9 (0, 0)) by rw [← hX]; exact blk_alloc (blk_new _ _) _)
  have HR := Aside0.mk (show X.heap[w.heap.size + 1]? = some (.cells #[.int .i64 0, .string (⟨#[]⟩ : ByteArray), .string (⟨#[]⟩ : ByteArray)] 32 (0, 0)) by rw [← hX]; have h := blk_new (w.alloc (.cells #[.string a1] 9)) (.cells #[.int .i64 0, .string (⟨#[]⟩ : ByteArray), .string (⟨#[]⟩ : ByteArray)] 32); simpa using h)
  have BX := Aside0.mk (show Below w.heap.size w X by rw [← hX]; exact below_alloc (below_alloc (Below.refl _ w) _) _)
  clear hX
  have c0 : X.cell? ⟨w.heap.size, 0, none⟩ = some (.string a1) := blk_cell HS.out 0

  go_upto_region 4 with (fail)
  generalize hY : World.alloc X _ = Y
  have HT := Aside0.mk (show Y.heap[X.heap.size]? = some (.cells #[.int .i64 0, .string (⟨#[]⟩ : ByteArray), .string (⟨#[]⟩ : ByteArray)] 32 (0, 0)) by rw [← hY]; exact blk_new _ _)
  have HS1 := Aside0.mk (show Y.heap[w.heap.size]? = some (.cells #[.string a1] 9 (0, 0)) by rw [← hY]; exact blk_alloc HS.out _)
  have HR1 := Aside0.mk (show Y.heap[w.heap.size + 1]? = some (.cells #[.int .i64 0, .string (⟨#[]⟩ : ByteArray), .string (⟨#[]⟩ : ByteArray)] 32 (0, 0)) by rw [← hY]; exact blk_alloc HR.out _)
  have BY := Aside0.mk (show Below w.heap.size w Y by rw [← hY]; exact below_alloc BX.out _)
  have HRT := Aside0.mk (show w.heap.size + 1 ≠ X.heap.size by have := blk_lt HR.out; omega)
  clear hY c0 HS HR
  have hxs := below_size BX.out
  have HXS := Aside0.mk hxs
  clear hxs BX
  generalize X.heap.size = TT at *
  have c0 : Y.cell? ⟨w.heap.size, 0, none⟩ = some (.string a1) := blk_cell HS1.out 0
  go_upto_region 5 with (first
    | (go_at_call 31; (with_reducible refine (HV _).mono ?_); rintro e w1 ⟨rfl, hb⟩; have HT2 := Aside0.mk (blk_below HT.out hb); have HS2 := Aside0.mk (blk_below HS1.out hb); have HR2 := Aside0.mk (blk_below HR1.out hb); have B2 := Aside0.mk (below_step BY.out hb); have c1 := blk_cell HS2.out 0; clear hb HT HS1 HR1 BY c0)
    | (go_at_call 32; (with_reducible refine (Tryd.strings_Contains_one a1 35 _).mono ?_); rintro e w' ⟨rfl, hw⟩; rw [hw]; clear hw))
  generalize hO : w1.heap.size = O at *
  have HO := Aside0.mk hO
  clear hO

  generalize hZ : World.alloc w1 _ = Z
  have HO3 := Aside0.mk (show Z.heap[O]? = some (.cells #[.bool false] 4 (0, 0)) by rw [← hZ, ← HO.out]; exact blk_new _ _)
  have HT3 := Aside0.mk (show Z.heap[TT]? = some (.cells #[.int .i64 0, .string (⟨#[]⟩ : ByteArray), .string (⟨#[]⟩ : ByteArray)] 32 (0, 0)) by rw [← hZ]; exact blk_alloc HT2.out _)
  have HS3 := Aside0.mk (show Z.heap[w.heap.size]? = some (.cells #[.string a1] 9 (0, 0)) by rw [← hZ]; exact blk_alloc HS2.out _)
  have HR3 := Aside0.mk (show Z.heap[w.heap.size + 1]? = some (.cells #[.int .i64 0, .string (⟨#[]⟩ : ByteArray), .string (⟨#[]⟩ : ByteArray)] 32 (0, 0)) by rw [← hZ]; exact blk_alloc HR2.out _)
  have BZ := Aside0.mk (show Below w.heap.size w Z by rw [← hZ]; exact below_alloc B2.out _)
  have HOT := Aside0.mk (show O ≠ TT by have h1 := blk_lt HT2.out; have h2 := HO.out; intro h3; omega)
  have HOR := Aside0.mk (show O ≠ w.heap.size + 1 by have h1 := blk_lt HR2.out; have h2 := HO.out; intro h3; omega)
  have HBO := Aside0.mk (show w.heap.size ≤ O by have h1 := blk_lt HR2.out; have h2 := HO.out; omega)
  clear hZ HO HT2 HS2 HR2 B2 c1
  have cO : Z.cell? ⟨O, 0, none⟩ = some (.bool false) := blk_cell HO3.out 0
  have cS : Z.cell? ⟨w.heap.size, 0, none⟩ = some (.string a1) := blk_cell HS3.out 0

  have HO5 := Aside0.mk ((setRow_other Z TT O #[.int .i64 4, .string (⟨#[]⟩ : ByteArray), .string (⟨#[]⟩ : ByteArray)] HOT.out).trans HO3.out)
  have d0 := blk_cell HO5.out 0
  have d1 := blk_frozen HO5.out 0

  go_upto_region 13 with (refine wpList_store_row rfl 32 (.tmp 6) (.tmp 36) rfl TT #[.int .i64 4, .string (⟨#[]⟩ : ByteArray), .string (⟨#[]⟩ : ByteArray)] rfl rfl _ _ HT3.out (by kernel_rfl) rfl (by simp [Value.oneCell']) ?_)

  generalize hV : World.setCell (World.setRow Z TT #[.int .i64 4, .string (⟨#[]⟩ : ByteArray), .string (⟨#[]⟩ : ByteArray)]) ⟨O, 0, none⟩ (.bool false) = V
  have HO4 := Aside0.mk (show V.heap[O]? = some (.cells #[.bool false] 4 (0, 0)) by rw [← hV]; exact blk_put ((setRow_other Z TT O _ HOT.out).trans HO3.out) 0 _ rfl)
  have HT4 := Aside0.mk (show V.heap[TT]? = some (.cells #[.int .i64 4, .string (⟨#[]⟩ : ByteArray), .string (⟨#[]⟩ : ByteArray)] 32 (0, 0)) by rw [← hV]; exact blk_far (setRow_heap _ _ _ _ _ _ HT3.out) (fun h => HOT.out h.symm) _)
  have HR4 := Aside0.mk (show V.heap[w.heap.size + 1]? = some (.cells #[.int .i64 0, .string (⟨#[]⟩ : ByteArray), .string (⟨#[]⟩ : ByteArray)] 32 (0, 0)) by rw [← hV]; exact blk_far ((setRow_other Z TT _ _ HRT.out).trans HR3.out) (fun h => HOR.out h.symm) _)
  have BV := Aside0.mk (show Below w.heap.size w V by rw [← hV]; exact (below_setRow BZ.out HXS.out _).setCell HBO.out _)
  clear hV cO cS
  have cO := blk_cell HO4.out 0

  go_wp2_with (refine wpList_store_row rfl 32 (.tmp 4) (.tmp 44) rfl (w.heap.size + 1) #[.int .i64 0, .string (⟨#[]⟩ : ByteArray), .string (⟨#[]⟩ : ByteArray)] rfl rfl _ _ HR4.out (by kernel_rfl) rfl (by simp [Value.oneCell']) ?_)

  refine bodyPost_ret (results_ct rfl _ _ (w.heap.size + 1) 32 #[.int .i64 0, .string (⟨#[]⟩ : ByteArray), .string (⟨#[]⟩ : ByteArray)] (0, 0) _ rfl (by exact setRow_heap _ _ _ _ _ _ HR4.out) Tryd.underlying32 rfl (by kernel_rfl)) rfl ?_
  exact ⟨rfl, below_setRow BV.out (Nat.le_succ _) _⟩
set_option maxHeartbeats 8000000 in
set_option maxRecDepth 100000 in
theorem parse_c_connect (a0 a1 : ByteArray) (w : World) (he : (a1.toList == []) = false)(hc : decide (0 ≤ Lib.indexByte a1.data.toList 35) = true) (HV : ∀ W, Calls Tryd.prog 31 #[.string a1] W fun e w' => e = .returned (.bool true) ∧ Below W.heap.size W w')(m1 : (a0.toList == [67, 79, 78, 78, 69, 67, 84]) = true) :
    Calls Tryd.prog 11 #[.string a0, .string a1] w fun e w' => e = .returned (.tuple #[.agg #[.int .i64 0, .string (⟨#[]⟩ : ByteArray), .string (⟨#[]⟩ : ByteArray)], .int .i64 11]) ∧ Below w.heap.size w w' := by
  have he2 : a1.toList.isEmpty = false := by rw [Bool.eq_false_iff]; intro hh; rw [List.isEmpty_iff] at hh; rw [hh] at he; cases he
  have hpos : 0 < a1.size := by
    rcases Nat.eq_zero_or_pos a1.size with h0 | h0
    · rw [Lib.toList_data] at he2
      have := size_list a1
      rw [h0] at this
      rw [List.isEmpty_eq_false_iff] at he2
      exact absurd (List.eq_nil_of_length_eq_zero this.symm) he2
    · exact h0

  have i0 : ((0 : Int) < (a1.size : Int)) = True := eq_true (by omega)
  have i1 : (0 < a1.size) = True := eq_true hpos
  have i2 : ((a1[0]'hpos).toNat : Int) = bt a1 0 := bt_at a1 0 hpos

  go_enter Tryd.func11, Tryd.ntmps11
  go_upto_region 1 with (fail)
  generalize hX : World.alloc _ _ = X
  have HS := Aside0.mk (show X.heap[w.heap.size]? = some (.cells #[.string a1] 9 (0, 0)) by rw [← hX]; exact blk_alloc (blk_new _ _) _)
  have HR := Aside0.mk (show X.heap[w.heap.size + 1]? = some (.cells #[.int .i64 0, .string (⟨#[]⟩ : ByteArray), .string (⟨#[]⟩ : ByteArray)] 32 (0, 0)) by rw [← hX]; have h := blk_new (w.alloc (.cells #[.string a1] 9)) (.cells #[.int .i64 0, .string (⟨#[]⟩ : ByteArray), .string (⟨#[]⟩ : ByteArray)] 32); simpa using h)
  have BX := Aside0.mk (show Below w.heap.size w X by rw [← hX]; exact below_alloc (below_alloc (Below.refl _ w) _) _)
  clear hX
  have c0 : X.cell? ⟨w.heap.size, 0, none⟩ = some (.string a1) := blk_cell HS.out 0

  go_upto_region 4 with (fail)
  generalize hY : World.alloc X _ = Y
  have HT := Aside0.mk (show Y.heap[X.heap.size]? = some (.cells #[.int .i64 0, .string (⟨#[]⟩ : ByteArray), .string (⟨#[]⟩ : ByteArray)] 32 (0, 0)) by rw [← hY]; exact blk_new _ _)
  have HS1 := Aside0.mk (show Y.heap[w.heap.size]? = some (.cells #[.string a1] 9 (0, 0)) by rw [← hY]; exact blk_alloc HS.out _)
  have HR1 := Aside0.mk (show Y.heap[w.heap.size + 1]? = some (.cells #[.int .i64 0, .string (⟨#[]⟩ : ByteArray), .string (⟨#[]⟩ : ByteArray)] 32 (0, 0)) by rw [← hY]; exact blk_alloc HR.out _)
  have BY := Aside0.mk (show Below w.heap.size w Y by rw [← hY]; exact below_alloc BX.out _)
  have HRT := Aside0.mk (show w.heap.size + 1 ≠ X.heap.size by have := blk_lt HR.out; omega)
  clear hY c0 HS HR
  have hxs := below_size BX.out
  have HXS := Aside0.mk hxs
  clear hxs BX
  generalize X.heap.size = TT at *
  have c0 : Y.cell? ⟨w.heap.size, 0, none⟩ = some (.string a1) := blk_cell HS1.out 0
  go_upto_region 5 with (first
    | (go_at_call 31; (with_reducible refine (HV _).mono ?_); rintro e w1 ⟨rfl, hb⟩; have HT2 := Aside0.mk (blk_below HT.out hb); have HS2 := Aside0.mk (blk_below HS1.out hb); have HR2 := Aside0.mk (blk_below HR1.out hb); have B2 := Aside0.mk (below_step BY.out hb); have c1 := blk_cell HS2.out 0; clear hb HT HS1 HR1 BY c0)
    | (go_at_call 32; (with_reducible refine (Tryd.strings_Contains_one a1 35 _).mono ?_); rintro e w' ⟨rfl, hw⟩; rw [hw]; clear hw))
  generalize hO : w1.heap.size = O at *
  have HO := Aside0.mk hO
  clear hO

  generalize hZ : World.alloc w1 _ = Z
  have HO3 := Aside0.mk (show Z.heap[O]? = some (.cells #[.bool false] 4 (0, 0)) by rw [← hZ, ← HO.out]; exact blk_new _ _)
  have HT3 := Aside0.mk (show Z.heap[TT]? = some (.cells #[.int .i64 0, .string (⟨#[]⟩ : ByteArray), .string (⟨#[]⟩ : ByteArray)] 32 (0, 0)) by rw [← hZ]; exact blk_alloc HT2.out _)
  have HS3 := Aside0.mk (show Z.heap[w.heap.size]? = some (.cells #[.string a1] 9 (0, 0)) by rw [← hZ]; exact blk_alloc HS2.out _)
  have HR3 := Aside0.mk (show Z.heap[w.heap.size + 1]? = some (.cells #[.int .i64 0, .string (⟨#[]⟩ : ByteArray), .string (⟨#[]⟩ : ByteArray)] 32 (0, 0)) by rw [← hZ]; exact blk_alloc HR2.out _)
  have BZ := Aside0.mk (show Below w.heap.size w Z by rw [← hZ]; exact below_alloc B2.out _)
  have HOT := Aside0.mk (show O ≠ TT by have h1 := blk_lt HT2.out; have h2 := HO.out; intro h3; omega)
  have HOR := Aside0.mk (show O ≠ w.heap.size + 1 by have h1 := blk_lt HR2.out; have h2 := HO.out; intro h3; omega)
  have HBO := Aside0.mk (show w.heap.size ≤ O by have h1 := blk_lt HR2.out; have h2 := HO.out; omega)
  clear hZ HO HT2 HS2 HR2 B2 c1
  have cO : Z.cell? ⟨O, 0, none⟩ = some (.bool false) := blk_cell HO3.out 0
  have cS : Z.cell? ⟨w.heap.size, 0, none⟩ = some (.string a1) := blk_cell HS3.out 0

  go_upto_region 13 with (go_at_call 33; (with_reducible refine (try_off 34 _ O _ TT HO3).mono ?_); rintro e w' ⟨rfl, rfl⟩)

  go_wp2_with (refine wpList_store_row rfl 32 (.tmp 4) (.tmp 44) rfl (w.heap.size + 1) #[.int .i64 0, .string (⟨#[]⟩ : ByteArray), .string (⟨#[]⟩ : ByteArray)] rfl rfl _ _ HR3.out (by kernel_rfl) rfl (by simp [Value.oneCell']) ?_)

  refine bodyPost_ret (results_ct rfl _ _ (w.heap.size + 1) 32 #[.int .i64 0, .string (⟨#[]⟩ : ByteArray), .string (⟨#[]⟩ : ByteArray)] (0, 0) _ rfl (by exact setRow_heap _ _ _ _ _ _ HR3.out) Tryd.underlying32 rfl (by kernel_rfl)) rfl ?_
  exact ⟨rfl, below_setRow BZ.out (Nat.le_succ _) _⟩
set_option maxHeartbeats 8000000 in
set_option maxRecDepth 100000 in
theorem parse_c_absolute (a0 a1 : ByteArray) (w : World) (he : (a1.toList == []) = false)(hc : decide (0 ≤ Lib.indexByte a1.data.toList 35) = true) (HV : ∀ W, Calls Tryd.prog 31 #[.string a1] W fun e w' => e = .returned (.bool true) ∧ Below W.heap.size W w')(m1 : (a0.toList == [67, 79, 78, 78, 69, 67, 84]) = false)(s1 : (bt a1 0 == 47) = false)(s2 : (a1.toList == [42]) = false) :
    Calls Tryd.prog 11 #[.string a0, .string a1] w fun e w' => e = .returned (.tuple #[.agg #[.int .i64 0, .string (⟨#[]⟩ : ByteArray), .string (⟨#[]⟩ : ByteArray)], .int .i64 11]) ∧ Below w.heap.size w w' := by
  have he2 : a1.toList.isEmpty = false := by rw [Bool.eq_false_iff]; intro hh; rw [List.isEmpty_iff] at hh; rw [hh] at he; cases he
  have hpos : 0 < a1.size := by
    rcases Nat.eq_zero_or_pos a1.size with h0 | h0
    · rw [Lib.toList_data] at he2
      have := size_list a1
      rw [h0] at this
      rw [List.isEmpty_eq_false_iff] at he2
      exact absurd (List.eq_nil_of_length_eq_zero this.symm) he2
    · exact h0

  have i0 : ((0 : Int) < (a1.size : Int)) = True := eq_true (by omega)
  have i1 : (0 < a1.size) = True := eq_true hpos
  have i2 : ((a1[0]'hpos).toNat : Int) = bt a1 0 := bt_at a1 0 hpos

  go_enter Tryd.func11, Tryd.ntmps11
  go_upto_region 1 with (fail)
  generalize hX : World.alloc _ _ = X
  have HS := Aside0.mk (show X.heap[w.heap.size]? = some (.cells #[.string a1] 9 (0, 0)) by rw [← hX]; exact blk_alloc (blk_new _ _) _)
  have HR := Aside0.mk (show X.heap[w.heap.size + 1]? = some (.cells #[.int .i64 0, .string (⟨#[]⟩ : ByteArray), .string (⟨#[]⟩ : ByteArray)] 32 (0, 0)) by rw [← hX]; have h := blk_new (w.alloc (.cells #[.string a1] 9)) (.cells #[.int .i64 0, .string (⟨#[]⟩ : ByteArray), .string (⟨#[]⟩ : ByteArray)] 32); simpa using h)
  have BX := Aside0.mk (show Below w.heap.size w X by rw [← hX]; exact below_alloc (below_alloc (Below.refl _ w) _) _)
  clear hX
  have c0 : X.cell? ⟨w.heap.size, 0, none⟩ = some (.string a1) := blk_cell HS.out 0

  go_upto_region 4 with (fail)
  generalize hY : World.alloc X _ = Y
  have HT := Aside0.mk (show Y.heap[X.heap.size]? = some (.cells #[.int .i64 0, .string (⟨#[]⟩ : ByteArray), .string (⟨#[]⟩ : ByteArray)] 32 (0, 0)) by rw [← hY]; exact blk_new _ _)
  have HS1 := Aside0.mk (show Y.heap[w.heap.size]? = some (.cells #[.string a1] 9 (0, 0)) by rw [← hY]; exact blk_alloc HS.out _)
  have HR1 := Aside0.mk (show Y.heap[w.heap.size + 1]? = some (.cells #[.int .i64 0, .string (⟨#[]⟩ : ByteArray), .string (⟨#[]⟩ : ByteArray)] 32 (0, 0)) by rw [← hY]; exact blk_alloc HR.out _)
  have BY := Aside0.mk (show Below w.heap.size w Y by rw [← hY]; exact below_alloc BX.out _)
  have HRT := Aside0.mk (show w.heap.size + 1 ≠ X.heap.size by have := blk_lt HR.out; omega)
  clear hY c0 HS HR
  have hxs := below_size BX.out
  have HXS := Aside0.mk hxs
  clear hxs BX
  generalize X.heap.size = TT at *
  have c0 : Y.cell? ⟨w.heap.size, 0, none⟩ = some (.string a1) := blk_cell HS1.out 0
  go_upto_region 5 with (first
    | (go_at_call 31; (with_reducible refine (HV _).mono ?_); rintro e w1 ⟨rfl, hb⟩; have HT2 := Aside0.mk (blk_below HT.out hb); have HS2 := Aside0.mk (blk_below HS1.out hb); have HR2 := Aside0.mk (blk_below HR1.out hb); have B2 := Aside0.mk (below_step BY.out hb); have c1 := blk_cell HS2.out 0; clear hb HT HS1 HR1 BY c0)
    | (go_at_call 32; (with_reducible refine (Tryd.strings_Contains_one a1 35 _).mono ?_); rintro e w' ⟨rfl, hw⟩; rw [hw]; clear hw))
  generalize hO : w1.heap.size = O at *
  have HO := Aside0.mk hO
  clear hO

  generalize hZ : World.alloc w1 _ = Z
  have HO3 := Aside0.mk (show Z.heap[O]? = some (.cells #[.bool false] 4 (0, 0)) by rw [← hZ, ← HO.out]; exact blk_new _ _)
  have HT3 := Aside0.mk (show Z.heap[TT]? = some (.cells #[.int .i64 0, .string (⟨#[]⟩ : ByteArray), .string (⟨#[]⟩ : ByteArray)] 32 (0, 0)) by rw [← hZ]; exact blk_alloc HT2.out _)
  have HS3 := Aside0.mk (show Z.heap[w.heap.size]? = some (.cells #[.string a1] 9 (0, 0)) by rw [← hZ]; exact blk_alloc HS2.out _)
  have HR3 := Aside0.mk (show Z.heap[w.heap.size + 1]? = some (.cells #[.int .i64 0, .string (⟨#[]⟩ : ByteArray), .string (⟨#[]⟩ : ByteArray)] 32 (0, 0)) by rw [← hZ]; exact blk_alloc HR2.out _)
  have BZ := Aside0.mk (show Below w.heap.size w Z by rw [← hZ]; exact below_alloc B2.out _)
  have HOT := Aside0.mk (show O ≠ TT by have h1 := blk_lt HT2.out; have h2 := HO.out; intro h3; omega)
  have HOR := Aside0.mk (show O ≠ w.heap.size + 1 by have h1 := blk_lt HR2.out; have h2 := HO.out; intro h3; omega)
  have HBO := Aside0.mk (show w.heap.size ≤ O by have h1 := blk_lt HR2.out; have h2 := HO.out; omega)
  clear hZ HO HT2 HS2 HR2 B2 c1
  have cO : Z.cell? ⟨O, 0, none⟩ = some (.bool false) := blk_cell HO3.out 0
  have cS : Z.cell? ⟨w.heap.size, 0, none⟩ = some (.string a1) := blk_cell HS3.out 0

  go_upto_region 13 with (go_at_call 33; (with_reducible refine (try_off 35 _ O _ TT HO3).mono ?_); rintro e w' ⟨rfl, rfl⟩)

  go_wp2_with (refine wpList_store_row rfl 32 (.tmp 4) (.tmp 44) rfl (w.heap.size + 1) #[.int .i64 0, .string (⟨#[]⟩ : ByteArray), .string (⟨#[]⟩ : ByteArray)] rfl rfl _ _ HR3.out (by kernel_rfl) rfl (by simp [Value.oneCell']) ?_)

  refine bodyPost_ret (results_ct rfl _ _ (w.heap.size + 1) 32 #[.int .i64 0, .string (⟨#[]⟩ : ByteArray), .string (⟨#[]⟩ : ByteArray)] (0, 0) _ rfl (by exact setRow_heap _ _ _ _ _ _ HR3.out) Tryd.underlying32 rfl (by kernel_rfl)) rfl ?_
  exact ⟨rfl, below_setRow BZ.out (Nat.le_succ _) _⟩
set_option maxHeartbeats 8000000 in
set_option maxRecDepth 100000 in
theorem parse_c_slash (a0 a1 : ByteArray) (w : World) (he : (a1.toList == []) = false)(hc : decide (0 ≤ Lib.indexByte a1.data.toList 35) = true) (HV : ∀ W, Calls Tryd.prog 31 #[.string a1] W fun e w' => e = .returned (.bool true) ∧ Below W.heap.size W w')(m1 : (a0.toList == [67, 79, 78, 78, 69, 67, 84]) = false)(s1 : (bt a1 0 == 47) = true) :
    Calls Tryd.prog 11 #[.string a0, .string a1] w fun e w' => e = .returned (.tuple #[.agg #[.int .i64 0, .string (⟨#[]⟩ : ByteArray), .string (⟨#[]⟩ : ByteArray)], .int .i64 11]) ∧ Below w.heap.size w w' := by
  have he2 : a1.toList.isEmpty = false := by rw [Bool.eq_false_iff]; intro hh; rw [List.isEmpty_iff] at hh; rw [hh] at he; cases he
  have hpos : 0 < a1.size := by
    rcases Nat.eq_zero_or_pos a1.size with h0 | h0
    · rw [Lib.toList_data] at he2
      have := size_list a1
      rw [h0] at this
      rw [List.isEmpty_eq_false_iff] at he2
      exact absurd (List.eq_nil_of_length_eq_zero this.symm) he2
    · exact h0

  have i0 : ((0 : Int) < (a1.size : Int)) = True := eq_true (by omega)
  have i1 : (0 < a1.size) = True := eq_true hpos
  have i2 : ((a1[0]'hpos).toNat : Int) = bt a1 0 := bt_at a1 0 hpos

  go_enter Tryd.func11, Tryd.ntmps11
  go_upto_region 1 with (fail)
  generalize hX : World.alloc _ _ = X
  have HS := Aside0.mk (show X.heap[w.heap.size]? = some (.cells #[.string a1] 9 (0, 0)) by rw [← hX]; exact blk_alloc (blk_new _ _) _)
  have HR := Aside0.mk (show X.heap[w.heap.size + 1]? = some (.cells #[.int .i64 0, .string (⟨#[]⟩ : ByteArray), .string (⟨#[]⟩ : ByteArray)] 32 (0, 0)) by rw [← hX]; have h := blk_new (w.alloc (.cells #[.string a1] 9)) (.cells #[.int .i64 0, .string (⟨#[]⟩ : ByteArray), .string (⟨#[]⟩ : ByteArray)] 32); simpa using h)
  have BX := Aside0.mk (show Below w.heap.size w X by rw [← hX]; exact below_alloc (below_alloc (Below.refl _ w) _) _)
  clear hX
  have c0 : X.cell? ⟨w.heap.size, 0, none⟩ = some (.string a1) := blk_cell HS.out 0

  go_upto_region 4 with (fail)
  generalize hY : World.alloc X _ = Y
  have HT := Aside0.mk (show Y.heap[X.heap.size]? = some (.cells #[.int .i64 0, .string (⟨#[]⟩ : ByteArray), .string (⟨#[]⟩ : ByteArray)] 32 (0, 0)) by rw [← hY]; exact blk_new _ _)
  have HS1 := Aside0.mk (show Y.heap[w.heap.size]? = some (.cells #[.string a1] 9 (0, 0)) by rw [← hY]; exact blk_alloc HS.out _)
  have HR1 := Aside0.mk (show Y.heap[w.heap.size + 1]? = some (.cells #[.int .i64 0, .string (⟨#[]⟩ : ByteArray), .string (⟨#[]⟩ : ByteArray)] 32 (0, 0)) by rw [← hY]; exact blk_alloc HR.out _)
  have BY := Aside0.mk (show Below w.heap.size w Y by rw [← hY]; exact below_alloc BX.out _)
  have HRT := Aside0.mk (show w.heap.size + 1 ≠ X.heap.size by have := blk_lt HR.out; omega)
  clear hY c0 HS HR
  have hxs := below_size BX.out
  have HXS := Aside0.mk hxs
  clear hxs BX
  generalize X.heap.size = TT at *
  have c0 : Y.cell? ⟨w.heap.size, 0, none⟩ = some (.string a1) := blk_cell HS1.out 0
  go_upto_region 5 with (first
    | (go_at_call 31; (with_reducible refine (HV _).mono ?_); rintro e w1 ⟨rfl, hb⟩; have HT2 := Aside0.mk (blk_below HT.out hb); have HS2 := Aside0.mk (blk_below HS1.out hb); have HR2 := Aside0.mk (blk_below HR1.out hb); have B2 := Aside0.mk (below_step BY.out hb); have c1 := blk_cell HS2.out 0; clear hb HT HS1 HR1 BY c0)
    | (go_at_call 32; (with_reducible refine (Tryd.strings_Contains_one a1 35 _).mono ?_); rintro e w' ⟨rfl, hw⟩; rw [hw]; clear hw))
  generalize hO : w1.heap.size = O at *
  have HO := Aside0.mk hO
  clear hO

  generalize hZ : World.alloc w1 _ = Z
  have HO3 := Aside0.mk (show Z.heap[O]? = some (.cells #[.bool false] 4 (0, 0)) by rw [← hZ, ← HO.out]; exact blk_new _ _)
  have HT3 := Aside0.mk (show Z.heap[TT]? = some (.cells #[.int .i64 0, .string (⟨#[]⟩ : ByteArray), .string (⟨#[]⟩ : ByteArray)] 32 (0, 0)) by rw [← hZ]; exact blk_alloc HT2.out _)
  have HS3 := Aside0.mk (show Z.heap[w.heap.size]? = some (.cells #[.string a1] 9 (0, 0)) by rw [← hZ]; exact blk_alloc HS2.out _)
  have HR3 := Aside0.mk (show Z.heap[w.heap.size + 1]? = some (.cells #[.int .i64 0, .string (⟨#[]⟩ : ByteArray), .string (⟨#[]⟩ : ByteArray)] 32 (0, 0)) by rw [← hZ]; exact blk_alloc HR2.out _)
  have BZ := Aside0.mk (show Below w.heap.size w Z by rw [← hZ]; exact below_alloc B2.out _)
  have HOT := Aside0.mk (show O ≠ TT by have h1 := blk_lt HT2.out; have h2 := HO.out; intro h3; omega)
  have HOR := Aside0.mk (show O ≠ w.heap.size + 1 by have h1 := blk_lt HR2.out; have h2 := HO.out; intro h3; omega)
  have HBO := Aside0.mk (show w.heap.size ≤ O by have h1 := blk_lt HR2.out; have h2 := HO.out; omega)
  clear hZ HO HT2 HS2 HR2 B2 c1
  have cO : Z.cell? ⟨O, 0, none⟩ = some (.bool false) := blk_cell HO3.out 0
  have cS : Z.cell? ⟨w.heap.size, 0, none⟩ = some (.string a1) := blk_cell HS3.out 0

  go_upto_region 13 with (refine wpList_store_row rfl 32 (.tmp 6) (.tmp 32) rfl TT #[.int .i64 1, .string (⟨#[]⟩ : ByteArray), .string a1] rfl rfl _ _ HT3.out (by kernel_rfl) rfl (by simp [Value.oneCell']) ?_)

  generalize hV : World.setRow Z TT #[.int .i64 1, .string (⟨#[]⟩ : ByteArray), .string a1] = V
  have HO4 := Aside0.mk (show V.heap[O]? = some (.cells #[.bool false] 4 (0, 0)) by rw [← hV]; exact (setRow_other Z TT O _ HOT.out).trans HO3.out)
  have HT4 := Aside0.mk (show V.heap[TT]? = some (.cells #[.int .i64 1, .string (⟨#[]⟩ : ByteArray), .string a1] 32 (0, 0)) by rw [← hV]; exact setRow_heap _ _ _ _ _ _ HT3.out)
  have HR4 := Aside0.mk (show V.heap[w.heap.size + 1]? = some (.cells #[.int .i64 0, .string (⟨#[]⟩ : ByteArray), .string (⟨#[]⟩ : ByteArray)] 32 (0, 0)) by rw [← hV]; exact (setRow_other Z TT _ _ HRT.out).trans HR3.out)
  have BV := Aside0.mk (show Below w.heap.size w V by rw [← hV]; exact below_setRow BZ.out HXS.out _)
  clear hV cO cS
  have cO := blk_cell HO4.out 0

  go_wp2_with (refine wpList_store_row rfl 32 (.tmp 4) (.tmp 44) rfl (w.heap.size + 1) #[.int .i64 0, .string (⟨#[]⟩ : ByteArray), .string (⟨#[]⟩ : ByteArray)] rfl rfl _ _ HR4.out (by kernel_rfl) rfl (by simp [Value.oneCell']) ?_)

  refine bodyPost_ret (results_ct rfl _ _ (w.heap.size + 1) 32 #[.int .i64 0, .string (⟨#[]⟩ : ByteArray), .string (⟨#[]⟩ : ByteArray)] (0, 0) _ rfl (by exact setRow_heap _ _ _ _ _ _ HR4.out) Tryd.underlying32 rfl (by kernel_rfl)) rfl ?_
  exact ⟨rfl, below_setRow BV.out (Nat.le_succ _) _⟩
set_option maxHeartbeats 8000000 in
set_option maxRecDepth 100000 in
theorem parse_c_star (a0 a1 : ByteArray) (w : World) (he : (a1.toList == []) = false)(hc : decide (0 ≤ Lib.indexByte a1.data.toList 35) = true) (HV : ∀ W, Calls Tryd.prog 31 #[.string a1] W fun e w' => e = .returned (.bool true) ∧ Below W.heap.size W w')(m1 : (a0.toList == [67, 79, 78, 78, 69, 67, 84]) = false)(s1 : (bt a1 0 == 47) = false)(s2 : (a1.toList == [42]) = true) :
    Calls Tryd.prog 11 #[.string a0, .string a1] w fun e w' => e = .returned (.tuple #[.agg #[.int .i64 0, .string (⟨#[]⟩ : ByteArray), .string (⟨#[]⟩ : ByteArray)], .int .i64 11]) ∧ Below w.heap.size w w' := by
  have he2 : a1.toList.isEmpty = false := by rw [Bool.eq_false_iff]; intro hh; rw [List.isEmpty_iff] at hh; rw [hh] at he; cases he
  have hpos : 0 < a1.size := by
    rcases Nat.eq_zero_or_pos a1.size with h0 | h0
    · rw [Lib.toList_data] at he2
      have := size_list a1
      rw [h0] at this
      rw [List.isEmpty_eq_false_iff] at he2
      exact absurd (List.eq_nil_of_length_eq_zero this.symm) he2
    · exact h0

  have i0 : ((0 : Int) < (a1.size : Int)) = True := eq_true (by omega)
  have i1 : (0 < a1.size) = True := eq_true hpos
  have i2 : ((a1[0]'hpos).toNat : Int) = bt a1 0 := bt_at a1 0 hpos

  go_enter Tryd.func11, Tryd.ntmps11
  go_upto_region 1 with (fail)
  generalize hX : World.alloc _ _ = X
  have HS := Aside0.mk (show X.heap[w.heap.size]? = some (.cells #[.string a1] 9 (0, 0)) by rw [← hX]; exact blk_alloc (blk_new _ _) _)
  have HR := Aside0.mk (show X.heap[w.heap.size + 1]? = some (.cells #[.int .i64 0, .string (⟨#[]⟩ : ByteArray), .string (⟨#[]⟩ : ByteArray)] 32 (0, 0)) by rw [← hX]; have h := blk_new (w.alloc (.cells #[.string a1] 9)) (.cells #[.int .i64 0, .string (⟨#[]⟩ : ByteArray), .string (⟨#[]⟩ : ByteArray)] 32); simpa using h)
  have BX := Aside0.mk (show Below w.heap.size w X by rw [← hX]; exact below_alloc (below_alloc (Below.refl _ w) _) _)
  clear hX
  have c0 : X.cell? ⟨w.heap.size, 0, none⟩ = some (.string a1) := blk_cell HS.out 0

  go_upto_region 4 with (fail)
  generalize hY : World.alloc X _ = Y
  have HT := Aside0.mk (show Y.heap[X.heap.size]? = some (.cells #[.int .i64 0, .string (⟨#[]⟩ : ByteArray), .string (⟨#[]⟩ : ByteArray)] 32 (0, 0)) by rw [← hY]; exact blk_new _ _)
  have HS1 := Aside0.mk (show Y.heap[w.heap.size]? = some (.cells #[.string a1] 9 (0, 0)) by rw [← hY]; exact blk_alloc HS.out _)
  have HR1 := Aside0.mk (show Y.heap[w.heap.size + 1]? = some (.cells #[.int .i64 0, .string (⟨#[]⟩ : ByteArray), .string (⟨#[]⟩ : ByteArray)] 32 (0, 0)) by rw [← hY]; exact blk_alloc HR.out _)
  have BY := Aside0.mk (show Below w.heap.size w Y by rw [← hY]; exact below_alloc BX.out _)
  have HRT := Aside0.mk (show w.heap.size + 1 ≠ X.heap.size by have := blk_lt HR.out; omega)
  clear hY c0 HS HR
  have hxs := below_size BX.out
  have HXS := Aside0.mk hxs
  clear hxs BX
  generalize X.heap.size = TT at *
  have c0 : Y.cell? ⟨w.heap.size, 0, none⟩ = some (.string a1) := blk_cell HS1.out 0
  go_upto_region 5 with (first
    | (go_at_call 31; (with_reducible refine (HV _).mono ?_); rintro e w1 ⟨rfl, hb⟩; have HT2 := Aside0.mk (blk_below HT.out hb); have HS2 := Aside0.mk (blk_below HS1.out hb); have HR2 := Aside0.mk (blk_below HR1.out hb); have B2 := Aside0.mk (below_step BY.out hb); have c1 := blk_cell HS2.out 0; clear hb HT HS1 HR1 BY c0)
    | (go_at_call 32; (with_reducible refine (Tryd.strings_Contains_one a1 35 _).mono ?_); rintro e w' ⟨rfl, hw⟩; rw [hw]; clear hw))
  generalize hO : w1.heap.size = O at *
  have HO := Aside0.mk hO
  clear hO

  generalize hZ : World.alloc w1 _ = Z
  have HO3 := Aside0.mk (show Z.heap[O]? = some (.cells #[.bool false] 4 (0, 0)) by rw [← hZ, ← HO.out]; exact blk_new _ _)
  have HT3 := Aside0.mk (show Z.heap[TT]? = some (.cells #[.int .i64 0, .string (⟨#[]⟩ : ByteArray), .string (⟨#[]⟩ : ByteArray)] 32 (0, 0)) by rw [← hZ]; exact blk_alloc HT2.out _)
  have HS3 := Aside0.mk (show Z.heap[w.heap.size]? = some (.cells #[.string a1] 9 (0, 0)) by rw [← hZ]; exact blk_alloc HS2.out _)
  have HR3 := Aside0.mk (show Z.heap[w.heap.size + 1]? = some (.cells #[.int .i64 0, .string (⟨#[]⟩ : ByteArray), .string (⟨#[]⟩ : ByteArray)] 32 (0, 0)) by rw [← hZ]; exact blk_alloc HR2.out _)
  have BZ := Aside0.mk (show Below w.heap.size w Z by rw [← hZ]; exact below_alloc B2.out _)
  have HOT := Aside0.mk (show O ≠ TT by have h1 := blk_lt HT2.out; have h2 := HO.out; intro h3; omega)
  have HOR := Aside0.mk (show O ≠ w.heap.size + 1 by have h1 := blk_lt HR2.out; have h2 := HO.out; intro h3; omega)
  have HBO := Aside0.mk (show w.heap.size ≤ O by have h1 := blk_lt HR2.out; have h2 := HO.out; omega)
  clear hZ HO HT2 HS2 HR2 B2 c1
  have cO : Z.cell? ⟨O, 0, none⟩ = some (.bool false) := blk_cell HO3.out 0
  have cS : Z.cell? ⟨w.heap.size, 0, none⟩ = some (.string a1) := blk_cell HS3.out 0

  have HO5 := Aside0.mk ((setRow_other Z TT O #[.int .i64 4, .string (⟨#[]⟩ : ByteArray), .string (⟨#[]⟩ : ByteArray)] HOT.out).trans HO3.out)
  have d0 := blk_cell HO5.out 0
  have d1 := blk_frozen HO5.out 0

  go_upto_region 13 with (refine wpList_store_row rfl 32 (.tmp 6) (.tmp 36) rfl TT #[.int .i64 4, .string (⟨#[]⟩ : ByteArray), .string (⟨#[]⟩ : ByteArray)] rfl rfl _ _ HT3.out (by kernel_rfl) rfl (by simp [Value.oneCell']) ?_)

  generalize hV : World.setCell (World.setRow Z TT #[.int .i64 4, .string (⟨#[]⟩ : ByteArray), .string (⟨#[]⟩ : ByteArray)]) ⟨O, 0, none⟩ (.bool false) = V
  have HO4 := Aside0.mk (show V.heap[O]? = some (.cells #[.bool false] 4 (0, 0)) by rw [← hV]; exact blk_put ((setRow_other Z TT O _ HOT.out).trans HO3.out) 0 _ rfl)
  have HT4 := Aside0.mk (show V.heap[TT]? = some (.cells #[.int .i64 4, .string (⟨#[]⟩ : ByteArray), .string (⟨#[]⟩ : ByteArray)] 32 (0, 0)) by rw [← hV]; exact blk_far (setRow_heap _ _ _ _ _ _ HT3.out) (fun h => HOT.out h.symm) _)
  have HR4 := Aside0.mk (show V.heap[w.heap.size + 1]? = some (.cells #[.int .i64 0, .string (⟨#[]⟩ : ByteArray), .string (⟨#[]⟩ : ByteArray)] 32 (0, 0)) by rw [← hV]; exact blk_far ((setRow_other Z TT _ _ HRT.out).trans HR3.out) (fun h => HOR.out h.symm) _)
  have BV := Aside0.mk (show Below w.heap.size w V by rw [← hV]; exact (below_setRow BZ.out HXS.out _).setCell HBO.out _)
  clear hV cO cS
  have cO := blk_cell HO4.out 0

  go_wp2_with (refine wpList_store_row rfl 32 (.tmp 4) (.tmp 44) rfl (w.heap.size + 1) #[.int .i64 0, .string (⟨#[]⟩ : ByteArray), .string (⟨#[]⟩ : ByteArray)] rfl rfl _ _ HR4.out (by kernel_rfl) rfl (by simp [Value.oneCell']) ?_)

  refine bodyPost_ret (results_ct rfl _ _ (w.heap.size + 1) 32 #[.int .i64 0, .string (⟨#[]⟩ : ByteArray), .string (⟨#[]⟩ : ByteArray)] (0, 0) _ rfl (by exact setRow_heap _ _ _ _ _ _ HR4.out) Tryd.underlying32 rfl (by kernel_rfl)) rfl ?_
  exact ⟨rfl, below_setRow BV.out (Nat.le_succ _) _⟩
set_option maxHeartbeats 8000000 in
set_option maxRecDepth 100000 in
theorem parse_k_connect_true (a0 a1 : ByteArray) (w : World) (he : (a1.toList == []) = false)(hc : decide (0 ≤ Lib.indexByte a1.data.toList 35) = false) (HV : ∀ W, Calls Tryd.prog 31 #[.string a1] W fun e w' => e = .returned (.bool true) ∧ Below W.heap.size W w')(m1 : (a0.toList == [67, 79, 78, 78, 69, 67, 84]) = true)(r1 : Int) (r2 r3 : ByteArray)(HC : ∀ W, Calls Tryd.prog 34 #[.string a1] W fun e w' => e = .returned (.tuple #[.agg #[.int .i64 r1, .string r2, .string r3], .bool true]) ∧ Below W.heap.size W w') :
    Calls Tryd.prog 11 #[.string a0, .string a1] w fun e w' => e = .returned (.tuple #[.agg #[.int .i64 r1, .string r2, .string r3], .int .i64 0]) ∧ Below w.heap.size w w' := by
  have he2 : a1.toList.isEmpty = false := by rw [Bool.eq_false_iff]; intro hh; rw [List.isEmpty_iff] at hh; rw [hh] at he; cases he
  have hpos : 0 < a1.size := by
    rcases Nat.eq_zero_or_pos a1.size with h0 | h0
    · rw [Lib.toList_data] at he2
      have := size_list a1
      rw [h0] at this
      rw [List.isEmpty_eq_false_iff] at he2
      exact absurd (List.eq_nil_of_length_eq_zero this.symm) he2
    · exact h0

  have i0 : ((0 : Int) < (a1.size : Int)) = True := eq_true (by omega)
  have i1 : (0 < a1.size) = True := eq_true hpos
  have i2 : ((a1[0]'hpos).toNat : Int) = bt a1 0 := bt_at a1 0 hpos

  go_enter Tryd.func11, Tryd.ntmps11
  go_upto_region 1 with (fail)
  generalize hX : World.alloc _ _ = X
  have HS := Aside0.mk (show X.heap[w.heap.size]? = some (.cells #[.string a1] 9 (0, 0)) by rw [← hX]; exact blk_alloc (blk_new _ _) _)
  have HR := Aside0.mk (show X.heap[w.heap.size + 1]? = some (.cells #[.int .i64 0, .string (⟨#[]⟩ : ByteArray), .string (⟨#[]⟩ : ByteArray)] 32 (0, 0)) by rw [← hX]; have h := blk_new (w.alloc (.cells #[.string a1] 9)) (.cells #[.int .i64 0, .string (⟨#[]⟩ : ByteArray), .string (⟨#[]⟩ : ByteArray)] 32); simpa using h)
  have BX := Aside0.mk (show Below w.heap.size w X by rw [← hX]; exact below_alloc (below_alloc (Below.refl _ w) _) _)
  clear hX
  have c0 : X.cell? ⟨w.heap.size, 0, none⟩ = some (.string a1) := blk_cell HS.out 0

  go_upto_region 4 with (fail)
  generalize hY : World.alloc X _ = Y
  have HT := Aside0.mk (show Y.heap[X.heap.size]? = some (.cells #[.int .i64 0, .string (⟨#[]⟩ : ByteArray), .string (⟨#[]⟩ : ByteArray)] 32 (0, 0)) by rw [← hY]; exact blk_new _ _)
  have HS1 := Aside0.mk (show Y.heap[w.heap.size]? = some (.cells #[.string a1] 9 (0, 0)) by rw [← hY]; exact blk_alloc HS.out _)
  have HR1 := Aside0.mk (show Y.heap[w.heap.size + 1]? = some (.cells #[.int .i64 0, .string (⟨#[]⟩ : ByteArray), .string (⟨#[]⟩ : ByteArray)] 32 (0, 0)) by rw [← hY]; exact blk_alloc HR.out _)
  have BY := Aside0.mk (show Below w.heap.size w Y by rw [← hY]; exact below_alloc BX.out _)
  have HRT := Aside0.mk (show w.heap.size + 1 ≠ X.heap.size by have := blk_lt HR.out; omega)
  clear hY c0 HS HR
  have hxs := below_size BX.out
  have HXS := Aside0.mk hxs
  clear hxs BX
  generalize X.heap.size = TT at *
  have c0 : Y.cell? ⟨w.heap.size, 0, none⟩ = some (.string a1) := blk_cell HS1.out 0
  go_upto_region 5 with (first
    | (go_at_call 31; (with_reducible refine (HV _).mono ?_); rintro e w1 ⟨rfl, hb⟩; have HT2 := Aside0.mk (blk_below HT.out hb); have HS2 := Aside0.mk (blk_below HS1.out hb); have HR2 := Aside0.mk (blk_below HR1.out hb); have B2 := Aside0.mk (below_step BY.out hb); have c1 := blk_cell HS2.out 0; clear hb HT HS1 HR1 BY c0)
    | (go_at_call 32; (with_reducible refine (Tryd.strings_Contains_one a1 35 _).mono ?_); rintro e w' ⟨rfl, hw⟩; rw [hw]; clear hw))
  generalize hO : w1.heap.size = O at *
  have HO := Aside0.mk hO
  clear hO

  generalize hZ : World.alloc w1 _ = Z
  have HO3 := Aside0.mk (show Z.heap[O]? = some (.cells #[.bool true] 4 (0, 0)) by rw [← hZ, ← HO.out]; exact blk_new _ _)
  have HT3 := Aside0.mk (show Z.heap[TT]? = some (.cells #[.int .i64 0, .string (⟨#[]⟩ : ByteArray), .string (⟨#[]⟩ : ByteArray)] 32 (0, 0)) by rw [← hZ]; exact blk_alloc HT2.out _)
  have HS3 := Aside0.mk (show Z.heap[w.heap.size]? = some (.cells #[.string a1] 9 (0, 0)) by rw [← hZ]; exact blk_alloc HS2.out _)
  have HR3 := Aside0.mk (show Z.heap[w.heap.size + 1]? = some (.cells #[.int .i64 0, .string (⟨#[]⟩ : ByteArray), .string (⟨#[]⟩ : ByteArray)] 32 (0, 0)) by rw [← hZ]; exact blk_alloc HR2.out _)
  have BZ := Aside0.mk (show Below w.heap.size w Z by rw [← hZ]; exact below_alloc B2.out _)
  have HOT := Aside0.mk (show O ≠ TT by have h1 := blk_lt HT2.out; have h2 := HO.out; intro h3; omega)
  have HOR := Aside0.mk (show O ≠ w.heap.size + 1 by have h1 := blk_lt HR2.out; have h2 := HO.out; intro h3; omega)
  have HBO := Aside0.mk (show w.heap.size ≤ O by have h1 := blk_lt HR2.out; have h2 := HO.out; omega)
  clear hZ HO HT2 HS2 HR2 B2 c1
  have cO : Z.cell? ⟨O, 0, none⟩ = some (.bool true) := blk_cell HO3.out 0
  have cS : Z.cell? ⟨w.heap.size, 0, none⟩ = some (.string a1) := blk_cell HS3.out 0

  go_upto_region 13 with (go_at_call 33; refine (try_connect _ O _ TT a1 r1 r2 r3 true _ _ _ HOT.out HO3 HS3 HT3 HC).mono ?_; rintro e V ⟨rfl, W1, hb, hV⟩; have hA := try_after BZ.out hb hV HO3.out HT3.out HR3.out HOT.out HOR.out HRT.out HXS.out HBO.out; have HO4 := Aside0.mk hA.1; have HT4 := Aside0.mk hA.2.1; have HR4 := Aside0.mk hA.2.2.1; have BV := Aside0.mk hA.2.2.2; clear hA hV hb W1 cO cS; have cO := blk_cell HO4.out 0)

  go_wp2_with (first | (refine wpList_load_row rfl 32 (.tmp 6) rfl TT rfl 32 _ (0, 0) _ HT4.out Tryd.underlying32 rfl (by kernel_rfl) ?_) | (refine wpList_store_row rfl 32 (.tmp 4) (.tmp 45) rfl (w.heap.size + 1) #[.int .i64 r1, .string r2, .string r3] rfl rfl _ _ HR4.out (by kernel_rfl) rfl (by simp [Value.oneCell']) ?_))

  refine bodyPost_ret (results_ct rfl _ _ (w.heap.size + 1) 32 #[.int .i64 r1, .string r2, .string r3] (0, 0) _ rfl (by exact setRow_heap _ _ _ _ _ _ HR4.out) Tryd.underlying32 rfl (by kernel_rfl)) rfl ?_
  exact ⟨rfl, below_setRow BV.out (Nat.le_succ _) _⟩
set_option maxHeartbeats 8000000 in
set_option maxRecDepth 100000 in
theorem parse_k_absolute_true (a0 a1 : ByteArray) (w : World) (he : (a1.toList == []) = false)(hc : decide (0 ≤ Lib.indexByte a1.data.toList 35) = false) (HV : ∀ W, Calls Tryd.prog 31 #[.string a1] W fun e w' => e = .returned (.bool true) ∧ Below W.heap.size W w')(m1 : (a0.toList == [67, 79, 78, 78, 69, 67, 84]) = false)(s1 : (bt a1 0 == 47) = false)(s2 : (a1.toList == [42]) = false)(r1 : Int) (r2 r3 : ByteArray)(HC : ∀ W, Calls Tryd.prog 35 #[.string a1] W fun e w' => e = .returned (.tuple #[.agg #[.int .i64 r1, .string r2, .string r3], .bool true]) ∧ Below W.heap.size W w') :
    Calls Tryd.prog 11 #[.string a0, .string a1] w fun e w' => e = .returned (.tuple #[.agg #[.int .i64 r1, .string r2, .string r3], .int .i64 0]) ∧ Below w.heap.size w w' := by
  have he2 : a1.toList.isEmpty = false := by rw [Bool.eq_false_iff]; intro hh; rw [List.isEmpty_iff] at hh; rw [hh] at he; cases he
  have hpos : 0 < a1.size := by
    rcases Nat.eq_zero_or_pos a1.size with h0 | h0
    · rw [Lib.toList_data] at he2
      have := size_list a1
      rw [h0] at this
      rw [List.isEmpty_eq_false_iff] at he2
      exact absurd (List.eq_nil_of_length_eq_zero this.symm) he2
    · exact h0

  have i0 : ((0 : Int) < (a1.size : Int)) = True := eq_true (by omega)
  have i1 : (0 < a1.size) = True := eq_true hpos
  have i2 : ((a1[0]'hpos).toNat : Int) = bt a1 0 := bt_at a1 0 hpos

  go_enter Tryd.func11, Tryd.ntmps11
  go_upto_region 1 with (fail)
  generalize hX : World.alloc _ _ = X
  have HS := Aside0.mk (show X.heap[w.heap.size]? = some (.cells #[.string a1] 9 (0, 0)) by rw [← hX]; exact blk_alloc (blk_new _ _) _)
  have HR := Aside0.mk (show X.heap[w.heap.size + 1]? = some (.cells #[.int .i64 0, .string (⟨#[]⟩ : ByteArray), .string (⟨#[]⟩ : ByteArray)] 32 (0, 0)) by rw [← hX]; have h := blk_new (w.alloc (.cells #[.string a1] 9)) (.cells #[.int .i64 0, .string (⟨#[]⟩ : ByteArray), .string (⟨#[]⟩ : ByteArray)] 32); simpa using h)
  have BX := Aside0.mk (show Below w.heap.size w X by rw [← hX]; exact below_alloc (below_alloc (Below.refl _ w) _) _)
  clear hX
  have c0 : X.cell? ⟨w.heap.size, 0, none⟩ = some (.string a1) := blk_cell HS.out 0

  go_upto_region 4 with (fail)
  generalize hY : World.alloc X _ = Y
  have HT := Aside0.mk (show Y.heap[X.heap.size]? = some (.cells #[.int .i64 0, .string (⟨#[]⟩ : ByteArray), .string (⟨#[]⟩ : ByteArray)] 32 (0, 0)) by rw [← hY]; exact blk_new _ _)
  have HS1 := Aside0.mk (show Y.heap[w.heap.size]? = some (.cells #[.string a1] 9 (0, 0)) by rw [← hY]; exact blk_alloc HS.out _)
  have HR1 := Aside0.mk (show Y.heap[w.heap.size + 1]? = some (.cells #[.int .i64 0, .string (⟨#[]⟩ : ByteArray), .string (⟨#[]⟩ : ByteArray)] 32 (0, 0)) by rw [← hY]; exact blk_alloc HR.out _)
  have BY := Aside0.mk (show Below w.heap.size w Y by rw [← hY]; exact below_alloc BX.out _)
  have HRT := Aside0.mk (show w.heap.size + 1 ≠ X.heap.size by have := blk_lt HR.out; omega)
  clear hY c0 HS HR
  have hxs := below_size BX.out
  have HXS := Aside0.mk hxs
  clear hxs BX
  generalize X.heap.size = TT at *
  have c0 : Y.cell? ⟨w.heap.size, 0, none⟩ = some (.string a1) := blk_cell HS1.out 0
  go_upto_region 5 with (first
    | (go_at_call 31; (with_reducible refine (HV _).mono ?_); rintro e w1 ⟨rfl, hb⟩; have HT2 := Aside0.mk (blk_below HT.out hb); have HS2 := Aside0.mk (blk_below HS1.out hb); have HR2 := Aside0.mk (blk_below HR1.out hb); have B2 := Aside0.mk (below_step BY.out hb); have c1 := blk_cell HS2.out 0; clear hb HT HS1 HR1 BY c0)
    | (go_at_call 32; (with_reducible refine (Tryd.strings_Contains_one a1 35 _).mono ?_); rintro e w' ⟨rfl, hw⟩; rw [hw]; clear hw))
  generalize hO : w1.heap.size = O at *
  have HO := Aside0.mk hO
  clear hO

  generalize hZ : World.alloc w1 _ = Z
  have HO3 := Aside0.mk (show Z.heap[O]? = some (.cells #[.bool true] 4 (0, 0)) by rw [← hZ, ← HO.out]; exact blk_new _ _)
  have HT3 := Aside0.mk (show Z.heap[TT]? = some (.cells #[.int .i64 0, .string (⟨#[]⟩ : ByteArray), .string (⟨#[]⟩ : ByteArray)] 32 (0, 0)) by rw [← hZ]; exact blk_alloc HT2.out _)
  have HS3 := Aside0.mk (show Z.heap[w.heap.size]? = some (.cells #[.string a1] 9 (0, 0)) by rw [← hZ]; exact blk_alloc HS2.out _)
  have HR3 := Aside0.mk (show Z.heap[w.heap.size + 1]? = some (.cells #[.int .i64 0, .string (⟨#[]⟩ : ByteArray), .string (⟨#[]⟩ : ByteArray)] 32 (0, 0)) by rw [← hZ]; exact blk_alloc HR2.out _)
  have BZ := Aside0.mk (show Below w.heap.size w Z by rw [← hZ]; exact below_alloc B2.out _)
  have HOT := Aside0.mk (show O ≠ TT by have h1 := blk_lt HT2.out; have h2 := HO.out; intro h3; omega)
  have HOR := Aside0.mk (show O ≠ w.heap.size + 1 by have h1 := blk_lt HR2.out; have h2 := HO.out; intro h3; omega)
  have HBO := Aside0.mk (show w.heap.size ≤ O by have h1 := blk_lt HR2.out; have h2 := HO.out; omega)
  clear hZ HO HT2 HS2 HR2 B2 c1
  have cO : Z.cell? ⟨O, 0, none⟩ = some (.bool true) := blk_cell HO3.out 0
  have cS : Z.cell? ⟨w.heap.size, 0, none⟩ = some (.string a1) := blk_cell HS3.out 0

  go_upto_region 13 with (go_at_call 33; refine (try_absolute _ O _ TT a1 r1 r2 r3 true _ _ _ HOT.out HO3 HS3 HT3 HC).mono ?_; rintro e V ⟨rfl, W1, hb, hV⟩; have hA := try_after BZ.out hb hV HO3.out HT3.out HR3.out HOT.out HOR.out HRT.out HXS.out HBO.out; have HO4 := Aside0.mk hA.1; have HT4 := Aside0.mk hA.2.1; have HR4 := Aside0.mk hA.2.2.1; have BV := Aside0.mk hA.2.2.2; clear hA hV hb W1 cO cS; have cO := blk_cell HO4.out 0)

  go_wp2_with (first | (refine wpList_load_row rfl 32 (.tmp 6) rfl TT rfl 32 _ (0, 0) _ HT4.out Tryd.underlying32 rfl (by kernel_rfl) ?_) | (refine wpList_store_row rfl 32 (.tmp 4) (.tmp 45) rfl (w.heap.size + 1) #[.int .i64 r1, .string r2, .string r3] rfl rfl _ _ HR4.out (by kernel_rfl) rfl (by simp [Value.oneCell']) ?_))

  refine bodyPost_ret (results_ct rfl _ _ (w.heap.size + 1) 32 #[.int .i64 r1, .string r2, .string r3] (0, 0) _ rfl (by exact setRow_heap _ _ _ _ _ _ HR4.out) Tryd.underlying32 rfl (by kernel_rfl)) rfl ?_
  exact ⟨rfl, below_setRow BV.out (Nat.le_succ _) _⟩
set_option maxHeartbeats 8000000 in
set_option maxRecDepth 100000 in
theorem parse_k_connect_false (a0 a1 : ByteArray) (w : World) (he : (a1.toList == []) = false)(hc : decide (0 ≤ Lib.indexByte a1.data.toList 35) = false) (HV : ∀ W, Calls Tryd.prog 31 #[.string a1] W fun e w' => e = .returned (.bool true) ∧ Below W.heap.size W w')(m1 : (a0.toList == [67, 79, 78, 78, 69, 67, 84]) = true)(r1 : Int) (r2 r3 : ByteArray)(HC : ∀ W, Calls Tryd.prog 34 #[.string a1] W fun e w' => e = .returned (.tuple #[.agg #[.int .i64 r1, .string r2, .string r3], .bool false]) ∧ Below W.heap.size W w') :
    Calls Tryd.prog 11 #[.string a0, .string a1] w fun e w' => e = .returned (.tuple #[.agg #[.int .i64 0, .string (⟨#[]⟩ : ByteArray), .string (⟨#[]⟩ : ByteArray)], .int .i64 11]) ∧ Below w.heap.size w w' := by
  have he2 : a1.toList.isEmpty = false := by rw [Bool.eq_false_iff]; intro hh; rw [List.isEmpty_iff] at hh; rw [hh] at he; cases he
  have hpos : 0 < a1.size := by
    rcases Nat.eq_zero_or_pos a1.size with h0 | h0
    · rw [Lib.toList_data] at he2
      have := size_list a1
      rw [h0] at this
      rw [List.isEmpty_eq_false_iff] at he2
      exact absurd (List.eq_nil_of_length_eq_zero this.symm) he2
    · exact h0

  have i0 : ((0 : Int) < (a1.size : Int)) = True := eq_true (by omega)
  have i1 : (0 < a1.size) = True := eq_true hpos
  have i2 : ((a1[0]'hpos).toNat : Int) = bt a1 0 := bt_at a1 0 hpos

  go_enter Tryd.func11, Tryd.ntmps11
  go_upto_region 1 with (fail)
  generalize hX : World.alloc _ _ = X
  have HS := Aside0.mk (show X.heap[w.heap.size]? = some (.cells #[.string a1] 9 (0, 0)) by rw [← hX]; exact blk_alloc (blk_new _ _) _)
  have HR := Aside0.mk (show X.heap[w.heap.size + 1]? = some (.cells #[.int .i64 0, .string (⟨#[]⟩ : ByteArray), .string (⟨#[]⟩ : ByteArray)] 32 (0, 0)) by rw [← hX]; have h := blk_new (w.alloc (.cells #[.string a1] 9)) (.cells #[.int .i64 0, .string (⟨#[]⟩ : ByteArray), .string (⟨#[]⟩ : ByteArray)] 32); simpa using h)
  have BX := Aside0.mk (show Below w.heap.size w X by rw [← hX]; exact below_alloc (below_alloc (Below.refl _ w) _) _)
  clear hX
  have c0 : X.cell? ⟨w.heap.size, 0, none⟩ = some (.string a1) := blk_cell HS.out 0

  go_upto_region 4 with (fail)
  generalize hY : World.alloc X _ = Y
  have HT := Aside0.mk (show Y.heap[X.heap.size]? = some (.cells #[.int .i64 0, .string (⟨#[]⟩ : ByteArray), .string (⟨#[]⟩ : ByteArray)] 32 (0, 0)) by rw [← hY]; exact blk_new _ _)
  have HS1 := Aside0.mk (show Y.heap[w.heap.size]? = some (.cells #[.string a1] 9 (0, 0)) by rw [← hY]; exact blk_alloc HS.out _)
  have HR1 := Aside0.mk (show Y.heap[w.heap.size + 1]? = some (.cells #[.int .i64 0, .string (⟨#[]⟩ : ByteArray), .string (⟨#[]⟩ : ByteArray)] 32 (0, 0)) by rw [← hY]; exact blk_alloc HR.out _)
  have BY := Aside0.mk (show Below w.heap.size w Y by rw [← hY]; exact below_alloc BX.out _)
  have HRT := Aside0.mk (show w.heap.size + 1 ≠ X.heap.size by have := blk_lt HR.out; omega)
  clear hY c0 HS HR
  have hxs := below_size BX.out
  have HXS := Aside0.mk hxs
  clear hxs BX
  generalize X.heap.size = TT at *
  have c0 : Y.cell? ⟨w.heap.size, 0, none⟩ = some (.string a1) := blk_cell HS1.out 0
  go_upto_region 5 with (first
    | (go_at_call 31; (with_reducible refine (HV _).mono ?_); rintro e w1 ⟨rfl, hb⟩; have HT2 := Aside0.mk (blk_below HT.out hb); have HS2 := Aside0.mk (blk_below HS1.out hb); have HR2 := Aside0.mk (blk_below HR1.out hb); have B2 := Aside0.mk (below_step BY.out hb); have c1 := blk_cell HS2.out 0; clear hb HT HS1 HR1 BY c0)
    | (go_at_call 32; (with_reducible refine (Tryd.strings_Contains_one a1 35 _).mono ?_); rintro e w' ⟨rfl, hw⟩; rw [hw]; clear hw))
  generalize hO : w1.heap.size = O at *
  have HO := Aside0.mk hO
  clear hO

  generalize hZ : World.alloc w1 _ = Z
  have HO3 := Aside0.mk (show Z.heap[O]? = some (.cells #[.bool true] 4 (0, 0)) by rw [← hZ, ← HO.out]; exact blk_new _ _)
  have HT3 := Aside0.mk (show Z.heap[TT]? = some (.cells #[.int .i64 0, .string (⟨#[]⟩ : ByteArray), .string (⟨#[]⟩ : ByteArray)] 32 (0, 0)) by rw [← hZ]; exact blk_alloc HT2.out _)
  have HS3 := Aside0.mk (show Z.heap[w.heap.size]? = some (.cells #[.string a1] 9 (0, 0)) by rw [← hZ]; exact blk_alloc HS2.out _)
  have HR3 := Aside0.mk (show Z.heap[w.heap.size + 1]? = some (.cells #[.int .i64 0, .string (⟨#[]⟩ : ByteArray), .string (⟨#[]⟩ : ByteArray)] 32 (0, 0)) by rw [← hZ]; exact blk_alloc HR2.out _)
  have BZ := Aside0.mk (show Below w.heap.size w Z by rw [← hZ]; exact below_alloc B2.out _)
  have HOT := Aside0.mk (show O ≠ TT by have h1 := blk_lt HT2.out; have h2 := HO.out; intro h3; omega)
  have HOR := Aside0.mk (show O ≠ w.heap.size + 1 by have h1 := blk_lt HR2.out; have h2 := HO.out; intro h3; omega)
  have HBO := Aside0.mk (show w.heap.size ≤ O by have h1 := blk_lt HR2.out; have h2 := HO.out; omega)
  clear hZ HO HT2 HS2 HR2 B2 c1
  have cO : Z.cell? ⟨O, 0, none⟩ = some (.bool true) := blk_cell HO3.out 0
  have cS : Z.cell? ⟨w.heap.size, 0, none⟩ = some (.string a1) := blk_cell HS3.out 0

  go_upto_region 13 with (go_at_call 33; refine (try_connect _ O _ TT a1 r1 r2 r3 false _ _ _ HOT.out HO3 HS3 HT3 HC).mono ?_; rintro e V ⟨rfl, W1, hb, hV⟩; have hA := try_after BZ.out hb hV HO3.out HT3.out HR3.out HOT.out HOR.out HRT.out HXS.out HBO.out; have HO4 := Aside0.mk hA.1; have HT4 := Aside0.mk hA.2.1; have HR4 := Aside0.mk hA.2.2.1; have BV := Aside0.mk hA.2.2.2; clear hA hV hb W1 cO cS; have cO := blk_cell HO4.out 0)

  go_wp2_with (refine wpList_store_row rfl 32 (.tmp 4) (.tmp 44) rfl (w.heap.size + 1) #[.int .i64 0, .string (⟨#[]⟩ : ByteArray), .string (⟨#[]⟩ : ByteArray)] rfl rfl _ _ HR4.out (by kernel_rfl) rfl (by simp [Value.oneCell']) ?_)

  refine bodyPost_ret (results_ct rfl _ _ (w.heap.size + 1) 32 #[.int .i64 0, .string (⟨#[]⟩ : ByteArray), .string (⟨#[]⟩ : ByteArray)] (0, 0) _ rfl (by exact setRow_heap _ _ _ _ _ _ HR4.out) Tryd.underlying32 rfl (by kernel_rfl)) rfl ?_
  exact ⟨rfl, below_setRow BV.out (Nat.le_succ _) _⟩
set_option maxHeartbeats 8000000 in
set_option maxRecDepth 100000 in
theorem parse_k_absolute_false (a0 a1 : ByteArray) (w : World) (he : (a1.toList == []) = false)(hc : decide (0 ≤ Lib.indexByte a1.data.toList 35) = false) (HV : ∀ W, Calls Tryd.prog 31 #[.string a1] W fun e w' => e = .returned (.bool true) ∧ Below W.heap.size W w')(m1 : (a0.toList == [67, 79, 78, 78, 69, 67, 84]) = false)(s1 : (bt a1 0 == 47) = false)(s2 : (a1.toList == [42]) = false)(r1 : Int) (r2 r3 : ByteArray)(HC : ∀ W, Calls Tryd.prog 35 #[.string a1] W fun e w' => e = .returned (.tuple #[.agg #[.int .i64 r1, .string r2, .string r3], .bool false]) ∧ Below W.heap.size W w') :
    Calls Tryd.prog 11 #[.string a0, .string a1] w fun e w' => e = .returned (.tuple #[.agg #[.int .i64 0, .string (⟨#[]⟩ : ByteArray), .string (⟨#[]⟩ : ByteArray)], .int .i64 11]) ∧ Below w.heap.size w w' := by
  have he2 : a1.toList.isEmpty = false := by rw [Bool.eq_false_iff]; intro hh; rw [List.isEmpty_iff] at hh; rw [hh] at he; cases he
  have hpos : 0 < a1.size := by
    rcases Nat.eq_zero_or_pos a1.size with h0 | h0
    · rw [Lib.toList_data] at he2
      have := size_list a1
      rw [h0] at this
      rw [List.isEmpty_eq_false_iff] at he2
      exact absurd (List.eq_nil_of_length_eq_zero this.symm) he2
    · exact h0

  have i0 : ((0 : Int) < (a1.size : Int)) = True := eq_true (by omega)
  have i1 : (0 < a1.size) = True := eq_true hpos
  have i2 : ((a1[0]'hpos).toNat : Int) = bt a1 0 := bt_at a1 0 hpos

  go_enter Tryd.func11, Tryd.ntmps11
  go_upto_region 1 with (fail)
  generalize hX : World.alloc _ _ = X
  have HS := Aside0.mk (show X.heap[w.heap.size]? = some (.cells #[.string a1] 9 (0, 0)) by rw [← hX]; exact blk_alloc (blk_new _ _) _)
  have HR := Aside0.mk (show X.heap[w.heap.size + 1]? = some (.cells #[.int .i64 0, .string (⟨#[]⟩ : ByteArray), .string (⟨#[]⟩ : ByteArray)] 32 (0, 0)) by rw [← hX]; have h := blk_new (w.alloc (.cells #[.string a1] 9)) (.cells #[.int .i64 0, .string (⟨#[]⟩ : ByteArray), .string (⟨#[]⟩ : ByteArray)] 32); simpa using h)
  have BX := Aside0.mk (show Below w.heap.size w X by rw [← hX]; exact below_alloc (below_alloc (Below.refl _ w) _) _)
  clear hX
  have c0 : X.cell? ⟨w.heap.size, 0, none⟩ = some (.string a1) := blk_cell HS.out 0

  go_upto_region 4 with (fail)
  generalize hY : World.alloc X _ = Y
  have HT := Aside0.mk (show Y.heap[X.heap.size]? = some (.cells #[.int .i64 0, .string (⟨#[]⟩ : ByteArray), .string (⟨#[]⟩ : ByteArray)] 32 (0, 0)) by rw [← hY]; exact blk_new _ _)
  have HS1 := Aside0.mk (show Y.heap[w.heap.size]? = some (.cells #[.string a1] 9 (0, 0)) by rw [← hY]; exact blk_alloc HS.out _)
  have HR1 := Aside0.mk (show Y.heap[w.heap.size + 1]? = some (.cells #[.int .i64 0, .string (⟨#[]⟩ : ByteArray), .string (⟨#[]⟩ : ByteArray)] 32 (0, 0)) by rw [← hY]; exact blk_alloc HR.out _)
  have BY := Aside0.mk (show Below w.heap.size w Y by rw [← hY]; exact below_alloc BX.out _)
  have HRT := Aside0.mk (show w.heap.size + 1 ≠ X.heap.size by have := blk_lt HR.out; omega)
  clear hY c0 HS HR
  have hxs := below_size BX.out
  have HXS := Aside0.mk hxs
  clear hxs BX
  generalize X.heap.size = TT at *
  have c0 : Y.cell? ⟨w.heap.size, 0, none⟩ = some (.string a1) := blk_cell HS1.out 0
  go_upto_region 5 with (first
    | (go_at_call 31; (with_reducible refine (HV _).mono ?_); rintro e w1 ⟨rfl, hb⟩; have HT2 := Aside0.mk (blk_below HT.out hb); have HS2 := Aside0.mk (blk_below HS1.out hb); have HR2 := Aside0.mk (blk_below HR1.out hb); have B2 := Aside0.mk (below_step BY.out hb); have c1 := blk_cell HS2.out 0; clear hb HT HS1 HR1 BY c0)
    | (go_at_call 32; (with_reducible refine (Tryd.strings_Contains_one a1 35 _).mono ?_); rintro e w' ⟨rfl, hw⟩; rw [hw]; clear hw))
  generalize hO : w1.heap.size = O at *
  have HO := Aside0.mk hO
  clear hO

  generalize hZ : World.alloc w1 _ = Z
  have HO3 := Aside0.mk (show Z.heap[O]? = some (.cells #[.bool true] 4 (0, 0)) by rw [← hZ, ← HO.out]; exact blk_new _ _)
  have HT3 := Aside0.mk (show Z.heap[TT]? = some (.cells #[.int .i64 0, .string (⟨#[]⟩ : ByteArray), .string (⟨#[]⟩ : ByteArray)] 32 (0, 0)) by rw [← hZ]; exact blk_alloc HT2.out _)
  have HS3 := Aside0.mk (show Z.heap[w.heap.size]? = some (.cells #[.string a1] 9 (0, 0)) by rw [← hZ]; exact blk_alloc HS2.out _)
  have HR3 := Aside0.mk (show Z.heap[w.heap.size + 1]? = some (.cells #[.int .i64 0, .string (⟨#[]⟩ : ByteArray), .string (⟨#[]⟩ : ByteArray)] 32 (0, 0)) by rw [← hZ]; exact blk_alloc HR2.out _)
  have BZ := Aside0.mk (show Below w.heap.size w Z by rw [← hZ]; exact below_alloc B2.out _)
  have HOT := Aside0.mk (show O ≠ TT by have h1 := blk_lt HT2.out; have h2 := HO.out; intro h3; omega)
  have HOR := Aside0.mk (show O ≠ w.heap.size + 1 by have h1 := blk_lt HR2.out; have h2 := HO.out; intro h3; omega)
  have HBO := Aside0.mk (show w.heap.size ≤ O by have h1 := blk_lt HR2.out; have h2 := HO.out; omega)
  clear hZ HO HT2 HS2 HR2 B2 c1
  have cO : Z.cell? ⟨O, 0, none⟩ = some (.bool true) := blk_cell HO3.out 0
  have cS : Z.cell? ⟨w.heap.size, 0, none⟩ = some (.string a1) := blk_cell HS3.out 0

  go_upto_region 13 with (go_at_call 33; refine (try_absolute _ O _ TT a1 r1 r2 r3 false _ _ _ HOT.out HO3 HS3 HT3 HC).mono ?_; rintro e V ⟨rfl, W1, hb, hV⟩; have hA := try_after BZ.out hb hV HO3.out HT3.out HR3.out HOT.out HOR.out HRT.out HXS.out HBO.out; have HO4 := Aside0.mk hA.1; have HT4 := Aside0.mk hA.2.1; have HR4 := Aside0.mk hA.2.2.1; have BV := Aside0.mk hA.2.2.2; clear hA hV hb W1 cO cS; have cO := blk_cell HO4.out 0)

  go_wp2_with (refine wpList_store_row rfl 32 (.tmp 4) (.tmp 44) rfl (w.heap.size + 1) #[.int .i64 0, .string (⟨#[]⟩ : ByteArray), .string (⟨#[]⟩ : ByteArray)] rfl rfl _ _ HR4.out (by kernel_rfl) rfl (by simp [Value.oneCell']) ?_)

  refine bodyPost_ret (results_ct rfl _ _ (w.heap.size + 1) 32 #[.int .i64 0, .string (⟨#[]⟩ : ByteArray), .string (⟨#[]⟩ : ByteArray)] (0, 0) _ rfl (by exact setRow_heap _ _ _ _ _ _ HR4.out) Tryd.underlying32 rfl (by kernel_rfl)) rfl ?_
  exact ⟨rfl, below_setRow BV.out (Nat.le_succ _) _⟩
set_option maxHeartbeats 8000000 in
set_option maxRecDepth 100000 in
theorem parse_k_slash (a0 a1 : ByteArray) (w : World) (he : (a1.toList == []) = false)(hc : decide (0 ≤ Lib.indexByte a1.data.toList 35) = false) (HV : ∀ W, Calls Tryd.prog 31 #[.string a1] W fun e w' => e = .returned (.bool true) ∧ Below W.heap.size W w')(m1 : (a0.toList == [67, 79, 78, 78, 69, 67, 84]) = false)(s1 : (bt a1 0 == 47) = true) :
    Calls Tryd.prog 11 #[.string a0, .string a1] w fun e w' => e = .returned (.tuple #[.agg #[.int .i64 1, .string (⟨#[]⟩ : ByteArray), .string a1], .int .i64 0]) ∧ Below w.heap.size w w' := by
  have he2 : a1.toList.isEmpty = false := by rw [Bool.eq_false_iff]; intro hh; rw [List.isEmpty_iff] at hh; rw [hh] at he; cases he
  have hpos : 0 < a1.size := by
    rcases Nat.eq_zero_or_pos a1.size with h0 | h0
    · rw [Lib.toList_data] at he2
      have := size_list a1
      rw [h0] at this
      rw [List.isEmpty_eq_false_iff] at he2
      exact absurd (List.eq_nil_of_length_eq_zero this.symm) he2
    · exact h0

  have i0 : ((0 : Int) < (a1.size : Int)) = True := eq_true (by omega)
  have i1 : (0 < a1.size) = True := eq_true hpos
  have i2 : ((a1[0]'hpos).toNat : Int) = bt a1 0 := bt_at a1 0 hpos

  go_enter Tryd.func11, Tryd.ntmps11
  go_upto_region 1 with (fail)
  generalize hX : World.alloc _ _ = X
  have HS := Aside0.mk (show X.heap[w.heap.size]? = some (.cells #[.string a1] 9 (0, 0)) by rw [← hX]; exact blk_alloc (blk_new _ _) _)
  have HR := Aside0.mk (show X.heap[w.heap.size + 1]? = some (.cells #[.int .i64 0, .string (⟨#[]⟩ : ByteArray), .string (⟨#[]⟩ : ByteArray)] 32 (0, 0)) by rw [← hX]; have h := blk_new (w.alloc (.cells #[.string a1] 9)) (.cells #[.int .i64 0, .string (⟨#[]⟩ : ByteArray), .string (⟨#[]⟩ : ByteArray)] 32); simpa using h)
  have BX := Aside0.mk (show Below w.heap.size w X by rw [← hX]; exact below_alloc (below_alloc (Below.refl _ w) _) _)
  clear hX
  have c0 : X.cell? ⟨w.heap.size, 0, none⟩ = some (.string a1) := blk_cell HS.out 0

  go_upto_region 4 with (fail)
  generalize hY : World.alloc X _ = Y
  have HT := Aside0.mk (show Y.heap[X.heap.size]? = some (.cells #[.int .i64 0, .string (⟨#[]⟩ : ByteArray), .string (⟨#[]⟩ : ByteArray)] 32 (0, 0)) by rw [← hY]; exact blk_new _ _)
  have HS1 := Aside0.mk (show Y.heap[w.heap.size]? = some (.cells #[.string a1] 9 (0, 0)) by rw [← hY]; exact blk_alloc HS.out _)
  have HR1 := Aside0.mk (show Y.heap[w.heap.size + 1]? = some (.cells #[.int .i64 0, .string (⟨#[]⟩ : ByteArray), .string (⟨#[]⟩ : ByteArray)] 32 (0, 0)) by rw [← hY]; exact blk_alloc HR.out _)
  have BY := Aside0.mk (show Below w.heap.size w Y by rw [← hY]; exact below_alloc BX.out _)
  have HRT := Aside0.mk (show w.heap.size + 1 ≠ X.heap.size by have := blk_lt HR.out; omega)
  clear hY c0 HS HR
  have hxs := below_size BX.out
  have HXS := Aside0.mk hxs
  clear hxs BX
  generalize X.heap.size = TT at *
  have c0 : Y.cell? ⟨w.heap.size, 0, none⟩ = some (.string a1) := blk_cell HS1.out 0
  go_upto_region 5 with (first
    | (go_at_call 31; (with_reducible refine (HV _).mono ?_); rintro e w1 ⟨rfl, hb⟩; have HT2 := Aside0.mk (blk_below HT.out hb); have HS2 := Aside0.mk (blk_below HS1.out hb); have HR2 := Aside0.mk (blk_below HR1.out hb); have B2 := Aside0.mk (below_step BY.out hb); have c1 := blk_cell HS2.out 0; clear hb HT HS1 HR1 BY c0)
    | (go_at_call 32; (with_reducible refine (Tryd.strings_Contains_one a1 35 _).mono ?_); rintro e w' ⟨rfl, hw⟩; rw [hw]; clear hw))
  generalize hO : w1.heap.size = O at *
  have HO := Aside0.mk hO
  clear hO

  generalize hZ : World.alloc w1 _ = Z
  have HO3 := Aside0.mk (show Z.heap[O]? = some (.cells #[.bool true] 4 (0, 0)) by rw [← hZ, ← HO.out]; exact blk_new _ _)
  have HT3 := Aside0.mk (show Z.heap[TT]? = some (.cells #[.int .i64 0, .string (⟨#[]⟩ : ByteArray), .string (⟨#[]⟩ : ByteArray)] 32 (0, 0)) by rw [← hZ]; exact blk_alloc HT2.out _)
  have HS3 := Aside0.mk (show Z.heap[w.heap.size]? = some (.cells #[.string a1] 9 (0, 0)) by rw [← hZ]; exact blk_alloc HS2.out _)
  have HR3 := Aside0.mk (show Z.heap[w.heap.size + 1]? = some (.cells #[.int .i64 0, .string (⟨#[]⟩ : ByteArray), .string (⟨#[]⟩ : ByteArray)] 32 (0, 0)) by rw [← hZ]; exact blk_alloc HR2.out _)
  have BZ := Aside0.mk (show Below w.heap.size w Z by rw [← hZ]; exact below_alloc B2.out _)
  have HOT := Aside0.mk (show O ≠ TT by have h1 := blk_lt HT2.out; have h2 := HO.out; intro h3; omega)
  have HOR := Aside0.mk (show O ≠ w.heap.size + 1 by have h1 := blk_lt HR2.out; have h2 := HO.out; intro h3; omega)
  have HBO := Aside0.mk (show w.heap.size ≤ O by have h1 := blk_lt HR2.out; have h2 := HO.out; omega)
  clear hZ HO HT2 HS2 HR2 B2 c1
  have cO : Z.cell? ⟨O, 0, none⟩ = some (.bool true) := blk_cell HO3.out 0
  have cS : Z.cell? ⟨w.heap.size, 0, none⟩ = some (.string a1) := blk_cell HS3.out 0

  go_upto_region 13 with (refine wpList_store_row rfl 32 (.tmp 6) (.tmp 32) rfl TT #[.int .i64 1, .string (⟨#[]⟩ : ByteArray), .string a1] rfl rfl _ _ HT3.out (by kernel_rfl) rfl (by simp [Value.oneCell']) ?_)

  generalize hV : World.setRow Z TT #[.int .i64 1, .string (⟨#[]⟩ : ByteArray), .string a1] = V
  have HO4 := Aside0.mk (show V.heap[O]? = some (.cells #[.bool true] 4 (0, 0)) by rw [← hV]; exact (setRow_other Z TT O _ HOT.out).trans HO3.out)
  have HT4 := Aside0.mk (show V.heap[TT]? = some (.cells #[.int .i64 1, .string (⟨#[]⟩ : ByteArray), .string a1] 32 (0, 0)) by rw [← hV]; exact setRow_heap _ _ _ _ _ _ HT3.out)
  have HR4 := Aside0.mk (show V.heap[w.heap.size + 1]? = some (.cells #[.int .i64 0, .string (⟨#[]⟩ : ByteArray), .string (⟨#[]⟩ : ByteArray)] 32 (0, 0)) by rw [← hV]; exact (setRow_other Z TT _ _ HRT.out).trans HR3.out)
  have BV := Aside0.mk (show Below w.heap.size w V by rw [← hV]; exact below_setRow BZ.out HXS.out _)
  clear hV cO cS
  have cO := blk_cell HO4.out 0

  go_wp2_with (first | (refine wpList_load_row rfl 32 (.tmp 6) rfl TT rfl 32 _ (0, 0) _ HT4.out Tryd.underlying32 rfl (by kernel_rfl) ?_) | (refine wpList_store_row rfl 32 (.tmp 4) (.tmp 45) rfl (w.heap.size + 1) #[.int .i64 1, .string (⟨#[]⟩ : ByteArray), .string a1] rfl rfl _ _ HR4.out (by kernel_rfl) rfl (by simp [Value.oneCell']) ?_))

  refine bodyPost_ret (results_ct rfl _ _ (w.heap.size + 1) 32 #[.int .i64 1, .string (⟨#[]⟩ : ByteArray), .string a1] (0, 0) _ rfl (by exact setRow_heap _ _ _ _ _ _ HR4.out) Tryd.underlying32 rfl (by kernel_rfl)) rfl ?_
  exact ⟨rfl, below_setRow BV.out (Nat.le_succ _) _⟩
set_option maxHeartbeats 8000000 in
set_option maxRecDepth 100000 in
theorem parse_k_star_true (a0 a1 : ByteArray) (w : World) (he : (a1.toList == []) = false)(hc : decide (0 ≤ Lib.indexByte a1.data.toList 35) = false) (HV : ∀ W, Calls Tryd.prog 31 #[.string a1] W fun e w' => e = .returned (.bool true) ∧ Below W.heap.size W w')(m1 : (a0.toList == [67, 79, 78, 78, 69, 67, 84]) = false)(s1 : (bt a1 0 == 47) = false)(s2 : (a1.toList == [42]) = true)(m2 : (a0.toList == [79, 80, 84, 73, 79, 78, 83]) = true) :
    Calls Tryd.prog 11 #[.string a0, .string a1] w fun e w' => e = .returned (.tuple #[.agg #[.int .i64 4, .string (⟨#[]⟩ : ByteArray), .string (⟨#[]⟩ : ByteArray)], .int .i64 0]) ∧ Below w.heap.size w w' := by
  have he2 : a1.toList.isEmpty = false := by rw [Bool.eq_false_iff]; intro hh; rw [List.isEmpty_iff] at hh; rw [hh] at he; cases he
  have hpos : 0 < a1.size := by
    rcases Nat.eq_zero_or_pos a1.size with h0 | h0
    · rw [Lib.toList_data] at he2
      have := size_list a1
      rw [h0] at this
      rw [List.isEmpty_eq_false_iff] at he2
      exact absurd (List.eq_nil_of_length_eq_zero this.symm) he2
    · exact h0

  have i0 : ((0 : Int) < (a1.size : Int)) = True := eq_true (by omega)
  have i1 : (0 < a1.size) = True := eq_true hpos
  have i2 : ((a1[0]'hpos).toNat : Int) = bt a1 0 := bt_at a1 0 hpos

  go_enter Tryd.func11, Tryd.ntmps11
  go_upto_region 1 with (fail)
  generalize hX : World.alloc _ _ = X
  have HS := Aside0.mk (show X.heap[w.heap.size]? = some (.cells #[.string a1] 9 (0, 0)) by rw [← hX]; exact blk_alloc (blk_new _ _) _)
  have HR := Aside0.mk (show X.heap[w.heap.size + 1]? = some (.cells #[.int .i64 0, .string (⟨#[]⟩ : ByteArray), .string (⟨#[]⟩ : ByteArray)] 32 (0, 0)) by rw [← hX]; have h := blk_new (w.alloc (.cells #[.string a1] 9)) (.cells #[.int .i64 0, .string (⟨#[]⟩ : ByteArray), .string (⟨#[]⟩ : ByteArray)] 32); simpa using h)
  have BX := Aside0.mk (show Below w.heap.size w X by rw [← hX]; exact below_alloc (below_alloc (Below.refl _ w) _) _)
  clear hX
  have c0 : X.cell? ⟨w.heap.size, 0, none⟩ = some (.string a1) := blk_cell HS.out 0

  go_upto_region 4 with (fail)
  generalize hY : World.alloc X _ = Y
  have HT := Aside0.mk (show Y.heap[X.heap.size]? = some (.cells #[.int .i64 0, .string (⟨#[]⟩ : ByteArray), .string (⟨#[]⟩ : ByteArray)] 32 (0, 0)) by rw [← hY]; exact blk_new _ _)
  have HS1 := Aside0.mk (show Y.heap[w.heap.size]? = some (.cells #[.string a1] 9 (0, 0)) by rw [← hY]; exact blk_alloc HS.out _)
  have HR1 := Aside0.mk (show Y.heap[w.heap.size + 1]? = some (.cells #[.int .i64 0, .string (⟨#[]⟩ : ByteArray), .string (⟨#[]⟩ : ByteArray)] 32 (0, 0)) by rw [← hY]; exact blk_alloc HR.out _)
  have BY := Aside0.mk (show Below w.heap.size w Y by rw [← hY]; exact below_alloc BX.out _)
  have HRT := Aside0.mk (show w.heap.size + 1 ≠ X.heap.size by have := blk_lt HR.out; omega)
  clear hY c0 HS HR
  have hxs := below_size BX.out
  have HXS := Aside0.mk hxs
  clear hxs BX
  generalize X.heap.size = TT at *
  have c0 : Y.cell? ⟨w.heap.size, 0, none⟩ = some (.string a1) := blk_cell HS1.out 0
  go_upto_region 5 with (first
    | (go_at_call 31; (with_reducible refine (HV _).mono ?_); rintro e w1 ⟨rfl, hb⟩; have HT2 := Aside0.mk (blk_below HT.out hb); have HS2 := Aside0.mk (blk_below HS1.out hb); have HR2 := Aside0.mk (blk_below HR1.out hb); have B2 := Aside0.mk (below_step BY.out hb); have c1 := blk_cell HS2.out 0; clear hb HT HS1 HR1 BY c0)
    | (go_at_call 32; (with_reducible refine (Tryd.strings_Contains_one a1 35 _).mono ?_); rintro e w' ⟨rfl, hw⟩; rw [hw]; clear hw))
  generalize hO : w1.heap.size = O at *
  have HO := Aside0.mk hO
  clear hO

  generalize hZ : World.alloc w1 _ = Z
  have HO3 := Aside0.mk (show Z.heap[O]? = some (.cells #[.bool true] 4 (0, 0)) by rw [← hZ, ← HO.out]; exact blk_new _ _)
  have HT3 := Aside0.mk (show Z.heap[TT]? = some (.cells #[.int .i64 0, .string (⟨#[]⟩ : ByteArray), .string (⟨#[]⟩ : ByteArray)] 32 (0, 0)) by rw [← hZ]; exact blk_alloc HT2.out _)
  have HS3 := Aside0.mk (show Z.heap[w.heap.size]? = some (.cells #[.string a1] 9 (0, 0)) by rw [← hZ]; exact blk_alloc HS2.out _)
  have HR3 := Aside0.mk (show Z.heap[w.heap.size + 1]? = some (.cells #[.int .i64 0, .string (⟨#[]⟩ : ByteArray), .string (⟨#[]⟩ : ByteArray)] 32 (0, 0)) by rw [← hZ]; exact blk_alloc HR2.out _)
  have BZ := Aside0.mk (show Below w.heap.size w Z by rw [← hZ]; exact below_alloc B2.out _)
  have HOT := Aside0.mk (show O ≠ TT by have h1 := blk_lt HT2.out; have h2 := HO.out; intro h3; omega)
  have HOR := Aside0.mk (show O ≠ w.heap.size + 1 by have h1 := blk_lt HR2.out; have h2 := HO.out; intro h3; omega)
  have HBO := Aside0.mk (show w.heap.size ≤ O by have h1 := blk_lt HR2.out; have h2 := HO.out; omega)
  clear hZ HO HT2 HS2 HR2 B2 c1
  have cO : Z.cell? ⟨O, 0, none⟩ = some (.bool true) := blk_cell HO3.out 0
  have cS : Z.cell? ⟨w.heap.size, 0, none⟩ = some (.string a1) := blk_cell HS3.out 0

  have HO5 := Aside0.mk ((setRow_other Z TT O #[.int .i64 4, .string (⟨#[]⟩ : ByteArray), .string (⟨#[]⟩ : ByteArray)] HOT.out).trans HO3.out)
  have d0 := blk_cell HO5.out 0
  have d1 := blk_frozen HO5.out 0

  go_upto_region 13 with (refine wpList_store_row rfl 32 (.tmp 6) (.tmp 36) rfl TT #[.int .i64 4, .string (⟨#[]⟩ : ByteArray), .string (⟨#[]⟩ : ByteArray)] rfl rfl _ _ HT3.out (by kernel_rfl) rfl (by simp [Value.oneCell']) ?_)

  generalize hV : World.setCell (World.setRow Z TT #[.int .i64 4, .string (⟨#[]⟩ : ByteArray), .string (⟨#[]⟩ : ByteArray)]) ⟨O, 0, none⟩ (.bool true) = V
  have HO4 := Aside0.mk (show V.heap[O]? = some (.cells #[.bool true] 4 (0, 0)) by rw [← hV]; exact blk_put ((setRow_other Z TT O _ HOT.out).trans HO3.out) 0 _ rfl)
  have HT4 := Aside0.mk (show V.heap[TT]? = some (.cells #[.int .i64 4, .string (⟨#[]⟩ : ByteArray), .string (⟨#[]⟩ : ByteArray)] 32 (0, 0)) by rw [← hV]; exact blk_far (setRow_heap _ _ _ _ _ _ HT3.out) (fun h => HOT.out h.symm) _)
  have HR4 := Aside0.mk (show V.heap[w.heap.size + 1]? = some (.cells #[.int .i64 0, .string (⟨#[]⟩ : ByteArray), .string (⟨#[]⟩ : ByteArray)] 32 (0, 0)) by rw [← hV]; exact blk_far ((setRow_other Z TT _ _ HRT.out).trans HR3.out) (fun h => HOR.out h.symm) _)
  have BV := Aside0.mk (show Below w.heap.size w V by rw [← hV]; exact (below_setRow BZ.out HXS.out _).setCell HBO.out _)
  clear hV cO cS
  have cO := blk_cell HO4.out 0

  go_wp2_with (first | (refine wpList_load_row rfl 32 (.tmp 6) rfl TT rfl 32 _ (0, 0) _ HT4.out Tryd.underlying32 rfl (by kernel_rfl) ?_) | (refine wpList_store_row rfl 32 (.tmp 4) (.tmp 45) rfl (w.heap.size + 1) #[.int .i64 4, .string (⟨#[]⟩ : ByteArray), .string (⟨#[]⟩ : ByteArray)] rfl rfl _ _ HR4.out (by kernel_rfl) rfl (by simp [Value.oneCell']) ?_))

  refine bodyPost_ret (results_ct rfl _ _ (w.heap.size + 1) 32 #[.int .i64 4, .string (⟨#[]⟩ : ByteArray), .string (⟨#[]⟩ : ByteArray)] (0, 0) _ rfl (by exact setRow_heap _ _ _ _ _ _ HR4.out) Tryd.underlying32 rfl (by kernel_rfl)) rfl ?_
  exact ⟨rfl, below_setRow BV.out (Nat.le_succ _) _⟩
set_option maxHeartbeats 8000000 in
set_option maxRecDepth 100000 in
theorem parse_k_star_false (a0 a1 : ByteArray) (w : World) (he : (a1.toList == []) = false)(hc : decide (0 ≤ Lib.indexByte a1.data.toList 35) = false) (HV : ∀ W, Calls Tryd.prog 31 #[.string a1] W fun e w' => e = .returned (.bool true) ∧ Below W.heap.size W w')(m1 : (a0.toList == [67, 79, 78, 78, 69, 67, 84]) = false)(s1 : (bt a1 0 == 47) = false)(s2 : (a1.toList == [42]) = true)(m2 : (a0.toList == [79, 80, 84, 73, 79, 78, 83]) = false) :
    Calls Tryd.prog 11 #[.string a0, .string a1] w fun e w' => e = .returned (.tuple #[.agg #[.int .i64 0, .string (⟨#[]⟩ : ByteArray), .string (⟨#[]⟩ : ByteArray)], .int .i64 11]) ∧ Below w.heap.size w w' := by
  have he2 : a1.toList.isEmpty = false := by rw [Bool.eq_false_iff]; intro hh; rw [List.isEmpty_iff] at hh; rw [hh] at he; cases he
  have hpos : 0 < a1.size := by
    rcases Nat.eq_zero_or_pos a1.size with h0 | h0
    · rw [Lib.toList_data] at he2
      have := size_list a1
      rw [h0] at this
      rw [List.isEmpty_eq_false_iff] at he2
      exact absurd (List.eq_nil_of_length_eq_zero this.symm) he2
    · exact h0

  have i0 : ((0 : Int) < (a1.size : Int)) = True := eq_true (by omega)
  have i1 : (0 < a1.size) = True := eq_true hpos
  have i2 : ((a1[0]'hpos).toNat : Int) = bt a1 0 := bt_at a1 0 hpos

  go_enter Tryd.func11, Tryd.ntmps11
  go_upto_region 1 with (fail)
  generalize hX : World.alloc _ _ = X
  have HS := Aside0.mk (show X.heap[w.heap.size]? = some (.cells #[.string a1] 9 (0, 0)) by rw [← hX]; exact blk_alloc (blk_new _ _) _)
  have HR := Aside0.mk (show X.heap[w.heap.size + 1]? = some (.cells #[.int .i64 0, .string (⟨#[]⟩ : ByteArray), .string (⟨#[]⟩ : ByteArray)] 32 (0, 0)) by rw [← hX]; have h := blk_new (w.alloc (.cells #[.string a1] 9)) (.cells #[.int .i64 0, .string (⟨#[]⟩ : ByteArray), .string (⟨#[]⟩ : ByteArray)] 32); simpa using h)
  have BX := Aside0.mk (show Below w.heap.size w X by rw [← hX]; exact below_alloc (below_alloc (Below.refl _ w) _) _)
  clear hX
  have c0 : X.cell? ⟨w.heap.size, 0, none⟩ = some (.string a1) := blk_cell HS.out 0

  go_upto_region 4 with (fail)
  generalize hY : World.alloc X _ = Y
  have HT := Aside0.mk (show Y.heap[X.heap.size]? = some (.cells #[.int .i64 0, .string (⟨#[]⟩ : ByteArray), .string (⟨#[]⟩ : ByteArray)] 32 (0, 0)) by rw [← hY]; exact blk_new _ _)
  have HS1 := Aside0.mk (show Y.heap[w.heap.size]? = some (.cells #[.string a1] 9 (0, 0)) by rw [← hY]; exact blk_alloc HS.out _)
  have HR1 := Aside0.mk (show Y.heap[w.heap.size + 1]? = some (.cells #[.int .i64 0, .string (⟨#[]⟩ : ByteArray), .string (⟨#[]⟩ : ByteArray)] 32 (0, 0)) by rw [← hY]; exact blk_alloc HR.out _)
  have BY := Aside0.mk (show Below w.heap.size w Y by rw [← hY]; exact below_alloc BX.out _)
  have HRT := Aside0.mk (show w.heap.size + 1 ≠ X.heap.size by have := blk_lt HR.out; omega)
  clear hY c0 HS HR
  have hxs := below_size BX.out
  have HXS := Aside0.mk hxs
  clear hxs BX
  generalize X.heap.size = TT at *
  have c0 : Y.cell? ⟨w.heap.size, 0, none⟩ = some (.string a1) := blk_cell HS1.out 0
  go_upto_region 5 with (first
    | (go_at_call 31; (with_reducible refine (HV _).mono ?_); rintro e w1 ⟨rfl, hb⟩; have HT2 := Aside0.mk (blk_below HT.out hb); have HS2 := Aside0.mk (blk_below HS1.out hb); have HR2 := Aside0.mk (blk_below HR1.out hb); have B2 := Aside0.mk (below_step BY.out hb); have c1 := blk_cell HS2.out 0; clear hb HT HS1 HR1 BY c0)
    | (go_at_call 32; (with_reducible refine (Tryd.strings_Contains_one a1 35 _).mono ?_); rintro e w' ⟨rfl, hw⟩; rw [hw]; clear hw))
  generalize hO : w1.heap.size = O at *
  have HO := Aside0.mk hO
  clear hO

  generalize hZ : World.alloc w1 _ = Z
  have HO3 := Aside0.mk (show Z.heap[O]? = some (.cells #[.bool true] 4 (0, 0)) by rw [← hZ, ← HO.out]; exact blk_new _ _)
  have HT3 := Aside0.mk (show Z.heap[TT]? = some (.cells #[.int .i64 0, .string (⟨#[]⟩ : ByteArray), .string (⟨#[]⟩ : ByteArray)] 32 (0, 0)) by rw [← hZ]; exact blk_alloc HT2.out _)
  have HS3 := Aside0.mk (show Z.heap[w.heap.size]? = some (.cells #[.string a1] 9 (0, 0)) by rw [← hZ]; exact blk_alloc HS2.out _)
  have HR3 := Aside0.mk (show Z.heap[w.heap.size + 1]? = some (.cells #[.int .i64 0, .string (⟨#[]⟩ : ByteArray), .string (⟨#[]⟩ : ByteArray)] 32 (0, 0)) by rw [← hZ]; exact blk_alloc HR2.out _)
  have BZ := Aside0.mk (show Below w.heap.size w Z by rw [← hZ]; exact below_alloc B2.out _)
  have HOT := Aside0.mk (show O ≠ TT by have h1 := blk_lt HT2.out; have h2 := HO.out; intro h3; omega)
  have HOR := Aside0.mk (show O ≠ w.heap.size + 1 by have h1 := blk_lt HR2.out; have h2 := HO.out; intro h3; omega)
  have HBO := Aside0.mk (show w.heap.size ≤ O by have h1 := blk_lt HR2.out; have h2 := HO.out; omega)
  clear hZ HO HT2 HS2 HR2 B2 c1
  have cO : Z.cell? ⟨O, 0, none⟩ = some (.bool true) := blk_cell HO3.out 0
  have cS : Z.cell? ⟨w.heap.size, 0, none⟩ = some (.string a1) := blk_cell HS3.out 0

  have HO5 := Aside0.mk ((setRow_other Z TT O #[.int .i64 4, .string (⟨#[]⟩ : ByteArray), .string (⟨#[]⟩ : ByteArray)] HOT.out).trans HO3.out)
  have d0 := blk_cell HO5.out 0
  have d1 := blk_frozen HO5.out 0

  go_upto_region 13 with (refine wpList_store_row rfl 32 (.tmp 6) (.tmp 36) rfl TT #[.int .i64 4, .string (⟨#[]⟩ : ByteArray), .string (⟨#[]⟩ : ByteArray)] rfl rfl _ _ HT3.out (by kernel_rfl) rfl (by simp [Value.oneCell']) ?_)

  generalize hV : World.setCell (World.setRow Z TT #[.int .i64 4, .string (⟨#[]⟩ : ByteArray), .string (⟨#[]⟩ : ByteArray)]) ⟨O, 0, none⟩ (.bool false) = V
  have HO4 := Aside0.mk (show V.heap[O]? = some (.cells #[.bool false] 4 (0, 0)) by rw [← hV]; exact blk_put ((setRow_other Z TT O _ HOT.out).trans HO3.out) 0 _ rfl)
  have HT4 := Aside0.mk (show V.heap[TT]? = some (.cells #[.int .i64 4, .string (⟨#[]⟩ : ByteArray), .string (⟨#[]⟩ : ByteArray)] 32 (0, 0)) by rw [← hV]; exact blk_far (setRow_heap _ _ _ _ _ _ HT3.out) (fun h => HOT.out h.symm) _)
  have HR4 := Aside0.mk (show V.heap[w.heap.size + 1]? = some (.cells #[.int .i64 0, .string (⟨#[]⟩ : ByteArray), .string (⟨#[]⟩ : ByteArray)] 32 (0, 0)) by rw [← hV]; exact blk_far ((setRow_other Z TT _ _ HRT.out).trans HR3.out) (fun h => HOR.out h.symm) _)
  have BV := Aside0.mk (show Below w.heap.size w V by rw [← hV]; exact (below_setRow BZ.out HXS.out _).setCell HBO.out _)
  clear hV cO cS
  have cO := blk_cell HO4.out 0

  go_wp2_with (refine wpList_store_row rfl 32 (.tmp 4) (.tmp 44) rfl (w.heap.size + 1) #[.int .i64 0, .string (⟨#[]⟩ : ByteArray), .string (⟨#[]⟩ : ByteArray)] rfl rfl _ _ HR4.out (by kernel_rfl) rfl (by simp [Value.oneCell']) ?_)

  refine bodyPost_ret (results_ct rfl _ _ (w.heap.size + 1) 32 #[.int .i64 0, .string (⟨#[]⟩ : ByteArray), .string (⟨#[]⟩ : ByteArray)] (0, 0) _ rfl (by exact setRow_heap _ _ _ _ _ _ HR4.out) Tryd.underlying32 rfl (by kernel_rfl)) rfl ?_
  exact ⟨rfl, below_setRow BV.out (Nat.le_succ _) _⟩
theorem retB_true (q : Int × ByteArray × ByteArray × Bool) (h : q.2.2.2 = true) : retB q = (q.1, q.2.1, q.2.2.1, 0) := by unfold retB; rw [if_pos h]
theorem retB_false (q : Int × ByteArray × ByteArray × Bool) (h : q.2.2.2 = false) : retB q = (0, ⟨#[]⟩, ⟨#[]⟩, 11) := by unfold retB; rw [if_neg (by rw [h]; simp)]
theorem target_Parse.calls (a0 : ByteArray) (a1 : ByteArray) (r1 : Int) (r2 : ByteArray) (r3 : ByteArray) (r4 : Int) (w : World) (h : target_Parse.f a0 a1 = some (r1, r2, r3, r4)) :
    Calls Tryd.prog 11 #[.string a0, .string a1] w fun e w' => e = .returned (.tuple #[.agg #[.int .i64 r1, .string r2, .string r3], .int .i64 r4]) ∧ Below w.heap.size w w' := by
  by_cases hs : a1.size ≤ 140737488351232
  · rw [target_Parse.f, if_pos hs] at h
    by_cases he : a1.toList = []
    · rw [if_pos he] at h
      have h := Option.some.inj h
      simp only [Prod.mk.injEq] at h
      obtain ⟨rfl, rfl, rfl, rfl⟩ := h
      exact parse_empty a0 a1 w (beq_iff_eq.mpr he)
    · rw [if_neg he] at h
      have he2 : (a1.toList == []) = false := beq_eq_false_iff_ne.mpr he
      have HV := fun W => octet_Visible.calls a1 (octetVisible a1) W rfl
      have hbt : ∀ b : Prop, [Decidable b] → ¬ b → decide b = false := fun b _ h => decide_eq_false h
      by_cases hp : parseOk a1 = false
      · rw [if_pos hp] at h
        have h := Option.some.inj h
        simp only [Prod.mk.injEq] at h
        obtain ⟨rfl, rfl, rfl, rfl⟩ := h
        unfold parseOk at hp
        by_cases m1 : a0.toList = [67, 79, 78, 78, 69, 67, 84]
        · have m1b : (a0.toList == [67, 79, 78, 78, 69, 67, 84]) = true := beq_iff_eq.mpr m1
          cases hv : octetVisible a1 with
          | false => rw [hv] at HV; exact parse_v_connect a0 a1 w he2 HV m1b
          | true =>
            rw [hv] at HV hp
            exact parse_c_connect a0 a1 w he2 (by simpa using hp) HV m1b
        · have m1b : (a0.toList == [67, 79, 78, 78, 69, 67, 84]) = false := beq_eq_false_iff_ne.mpr m1
          by_cases s1 : bt a1 0 = 47
          · have s1b : (bt a1 0 == 47) = true := beq_iff_eq.mpr s1
            cases hv : octetVisible a1 with
            | false => rw [hv] at HV; exact parse_v_slash a0 a1 w he2 HV m1b s1b
            | true => rw [hv] at HV hp; exact parse_c_slash a0 a1 w he2 (by simpa using hp) HV m1b s1b
          · have s1b : (bt a1 0 == 47) = false := beq_eq_false_iff_ne.mpr s1
            by_cases s2 : a1.toList = [42]
            · have s2b : (a1.toList == [42]) = true := beq_iff_eq.mpr s2
              cases hv : octetVisible a1 with
              | false => rw [hv] at HV; exact parse_v_star a0 a1 w he2 HV m1b s1b s2b
              | true => rw [hv] at HV hp; exact parse_c_star a0 a1 w he2 (by simpa using hp) HV m1b s1b s2b
            · have s2b : (a1.toList == [42]) = false := beq_eq_false_iff_ne.mpr s2
              cases hv : octetVisible a1 with
              | false => rw [hv] at HV; exact parse_v_absolute a0 a1 w he2 HV m1b s1b s2b
              | true => rw [hv] at HV hp; exact parse_c_absolute a0 a1 w he2 (by simpa using hp) HV m1b s1b s2b
      · rw [if_neg hp] at h
        have hp2 : parseOk a1 = true := by simpa using hp
        unfold parseOk at hp2
        rw [Bool.and_eq_true] at hp2
        obtain ⟨hv, hc⟩ := hp2
        rw [hv] at HV
        have hcb : decide (0 ≤ Lib.indexByte a1.data.toList 35) = false := by simpa using hc
        by_cases m1 : a0.toList = [67, 79, 78, 78, 69, 67, 84]
        · have m1b : (a0.toList == [67, 79, 78, 78, 69, 67, 84]) = true := beq_iff_eq.mpr m1
          rw [if_pos m1] at h
          replace h := Option.bind_eq_some_iff.mp h
          obtain ⟨⟨q1, q2, q3, q4⟩, hq, h⟩ := h
          have h := Option.some.inj h
          have HC := fun W => target_connect.calls 1000000000 a1 q1 q2 q3 q4 W hq
          cases q4 with
          | true =>
            rw [retB_true _ rfl] at h
            simp only [Prod.mk.injEq] at h
            obtain ⟨rfl, rfl, rfl, rfl⟩ := h
            exact parse_k_connect_true a0 a1 w he2 hcb HV m1b _ _ _ HC
          | false =>
            rw [retB_false _ rfl] at h
            simp only [Prod.mk.injEq] at h
            obtain ⟨rfl, rfl, rfl, rfl⟩ := h
            exact parse_k_connect_false a0 a1 w he2 hcb HV m1b _ _ _ HC
        · have m1b : (a0.toList == [67, 79, 78, 78, 69, 67, 84]) = false := beq_eq_false_iff_ne.mpr m1
          rw [if_neg m1] at h
          by_cases s1 : bt a1 0 = 47
          · have s1b : (bt a1 0 == 47) = true := beq_iff_eq.mpr s1
            rw [if_pos s1] at h
            have h := Option.some.inj h
            simp only [Prod.mk.injEq] at h
            obtain ⟨rfl, rfl, rfl, rfl⟩ := h
            exact parse_k_slash a0 a1 w he2 hcb HV m1b s1b
          · have s1b : (bt a1 0 == 47) = false := beq_eq_false_iff_ne.mpr s1
            rw [if_neg s1] at h
            by_cases s2 : a1.toList = [42]
            · have s2b : (a1.toList == [42]) = true := beq_iff_eq.mpr s2
              rw [if_pos s2] at h
              by_cases m2 : a0.toList = [79, 80, 84, 73, 79, 78, 83]
              · have m2b : (a0.toList == [79, 80, 84, 73, 79, 78, 83]) = true := beq_iff_eq.mpr m2
                rw [if_pos m2] at h
                have h := Option.some.inj h
                simp only [Prod.mk.injEq] at h
                obtain ⟨rfl, rfl, rfl, rfl⟩ := h
                exact parse_k_star_true a0 a1 w he2 hcb HV m1b s1b s2b m2b
              · have m2b : (a0.toList == [79, 80, 84, 73, 79, 78, 83]) = false := beq_eq_false_iff_ne.mpr m2
                rw [if_neg m2] at h
                have h := Option.some.inj h
                simp only [Prod.mk.injEq] at h
                obtain ⟨rfl, rfl, rfl, rfl⟩ := h
                exact parse_k_star_false a0 a1 w he2 hcb HV m1b s1b s2b m2b
            · have s2b : (a1.toList == [42]) = false := beq_eq_false_iff_ne.mpr s2
              rw [if_neg s2] at h
              replace h := Option.bind_eq_some_iff.mp h
              obtain ⟨⟨q1, q2, q3, q4⟩, hq, h⟩ := h
              have h := Option.some.inj h
              have HC := fun W => target_absolute.calls a1 q1 q2 q3 q4 W hq
              cases q4 with
              | true =>
                rw [retB_true _ rfl] at h
                simp only [Prod.mk.injEq] at h
                obtain ⟨rfl, rfl, rfl, rfl⟩ := h
                exact parse_k_absolute_true a0 a1 w he2 hcb HV m1b s1b s2b _ _ _ HC
              | false =>
                rw [retB_false _ rfl] at h
                simp only [Prod.mk.injEq] at h
                obtain ⟨rfl, rfl, rfl, rfl⟩ := h
                exact parse_k_absolute_false a0 a1 w he2 hcb HV m1b s1b s2b _ _ _ HC
  · rw [target_Parse.f, if_neg hs] at h
    cases h


end Go.Proofs.YtdjmgmiaognncaaDoor.X
namespace Go.Proofs.YtdjmgmiaognncaaDoor.X
open Go.RowKit Go.Proofs.YtdjmgmiaognncaaDoorW.PrintWords Go.Proofs.YtdjmgmiaognncaaDoorW.PrintLast Go.Proofs.YtdjmgmiaognncaaDoorW.PrintMore
attribute [local go_sem] max2_int min2_int max_two min_two max_three min_three max_four min_four   -- for this text's walks alone
set_option linter.unusedVariables false
set_option linter.unusedSimpArgs false

/-! ### abutmentref01_Visible: function 36 -/
def abutmentref01_Visible.l0 : Nat → ByteArray → Int → Option (Bool)
  | 0, _, _ => none
  | k + 1, x0, x3 => if x3 < (x0.size : Int) then (if 0 ≤ x3 then (if (bt x0 x3) < 33 then (some false) else (if (bt x0 x3) > 126 then (some false) else (abutmentref01_Visible.l0 k x0 (wrap64 (x3 + 1))))) else (none)) else (some (decide ((x0.size : Int) > 0)))
def abutmentref01_Visible.f (k : Nat) (a0 : ByteArray) : Option (Bool) := abutmentref01_Visible.l0 k a0 0
set_option maxHeartbeats 8000000 in
set_option maxRecDepth 100000 in
theorem abutmentref01_Visible.calls (k : Nat) (a0 : ByteArray) (r : Bool) (w : World) (h : abutmentref01_Visible.f k a0 = some r) :
    Calls Tryd.prog 36 #[.string a0] w fun e w' => e = .returned (.bool r) ∧ Drawn0 w w' := by
  have H : (abutmentref01_Visible.l0 k a0 0) = some r := h
  clear h
  have H' := Aside0.mk H
  clear H
  go_enter Tryd.func36, Tryd.ntmps36
  go_wp2
  go_loopg [3] k (fun kq v3 w' => ∃ (x3_1 : Int), v3 = .int .i64 x3_1 ∧ Aside0 (abutmentref01_Visible.l0 kq a0 x3_1 = some r) ∧ Aside0 (kq ≤ k) ∧ Drawn0 w w')
  case atStart => exact ⟨(0), (by first | rfl | (simp; done) | (simp [*]; done)), H', ⟨Nat.le_refl _⟩, by repeat (first | exact Drawn0.refl _ | apply Drawn0.step)⟩
  case round =>
    clear H'
    obtain ⟨x3_1, rfl, HA, HK1, ⟨m1, rfl⟩⟩ := hrel
    cases gk with
    | zero => exact absurd HA.out (by simp [abutmentref01_Visible.l0])
    | succ k1 =>
      have H := HA.out
      clear HA
      simp only [abutmentref01_Visible.l0] at H
      by_cases c2 : x3_1 < (a0.size : Int)
      · rw [if_pos c2] at H
        have c2b0 : decide (x3_1 < (a0.size : Int)) = true := decide_eq_true c2
        clear c2
        by_cases c3 : 0 ≤ x3_1
        · rw [if_pos c3] at H
          have c3b0 : decide (0 ≤ x3_1) = true := decide_eq_true c3
          clear c3
          by_cases c5 : (bt a0 x3_1) < 33
          · rw [if_pos c5] at H
            have c5b0 : decide ((bt a0 x3_1) < 33) = true := decide_eq_true c5
            clear c5
            obtain rfl := Option.some.inj H
            have p4 : 0 ≤ (x3_1 : Int) := of_decide_eq_true (by first | (with_reducible assumption) | assumption)
            have q4 : x3_1 < (a0.size : Int) := of_decide_eq_true (by first | (with_reducible assumption) | assumption)
            have hx4 := bt_at a0 x3_1
            replace p4 := eq_true p4
            replace q4 := eq_true q4
            go_wp2
            go_ret
            exact ⟨by first | rfl | (simp; done) | (simp [*]; done), by repeat (first | exact Drawn0.refl _ | apply Drawn0.step)⟩
          · rw [if_neg c5] at H
            have c5b0 : decide ((bt a0 x3_1) < 33) = false := decide_eq_false c5
            clear c5
            by_cases c7 : (bt a0 x3_1) > 126
            · rw [if_pos c7] at H
              have c7b0 : decide (126 < (bt a0 x3_1)) = true := decide_eq_true c7
              clear c7
              obtain rfl := Option.some.inj H
              have p4 : 0 ≤ (x3_1 : Int) := of_decide_eq_true (by first | (with_reducible assumption) | assumption)
              have q4 : x3_1 < (a0.size : Int) := of_decide_eq_true (by first | (with_reducible assumption) | assumption)
              have hx4 := bt_at a0 x3_1
              replace p4 := eq_true p4
              replace q4 := eq_true q4
              have p6 : 0 ≤ (x3_1 : Int) := of_decide_eq_true (by first | (with_reducible assumption) | assumption)
              have q6 : x3_1 < (a0.size : Int) := of_decide_eq_true (by first | (with_reducible assumption) | assumption)
              have hx6 := bt_at a0 x3_1
              replace p6 := eq_true p6
              replace q6 := eq_true q6
              go_wp2
              go_ret
              exact ⟨by first | rfl | (simp; done) | (simp [*]; done), by repeat (first | exact Drawn0.refl _ | apply Drawn0.step)⟩
            · rw [if_neg c7] at H
              have c7b0 : decide (126 < (bt a0 x3_1)) = false := decide_eq_false c7
              clear c7
              have H' := Aside0.mk H
              clear H
              have p4 : 0 ≤ (x3_1 : Int) := of_decide_eq_true (by first | (with_reducible assumption) | assumption)
              have q4 : x3_1 < (a0.size : Int) := of_decide_eq_true (by first | (with_reducible assumption) | assumption)
              have hx4 := bt_at a0 x3_1
              replace p4 := eq_true p4
              replace q4 := eq_true q4
              have p6 : 0 ≤ (x3_1 : Int) := of_decide_eq_true (by first | (with_reducible assumption) | assumption)
              have q6 : x3_1 < (a0.size : Int) := of_decide_eq_true (by first | (with_reducible assumption) | assumption)
              have hx6 := bt_at a0 x3_1
              replace p6 := eq_true p6
              replace q6 := eq_true q6
              go_wp2
              go_roundg k1
              case measure => have := HK1.out; omega
              case rel => exact ⟨(wrap64 (x3_1 + 1)), (by first | rfl | (simp; done) | (simp [*]; done)), H', ⟨by have := HK1.out; omega⟩, by repeat (first | exact Drawn0.refl _ | apply Drawn0.step)⟩
        · rw [if_neg c3] at H
          exact absurd H (by simp)
      · rw [if_neg c2] at H
        have c2b0 : decide (x3_1 < (a0.size : Int)) = false := decide_eq_false c2
        clear c2
        obtain rfl := Option.some.inj H
        go_wp2
        go_ret
        exact ⟨by first | rfl | (simp; done) | (simp [*]; done), by repeat (first | exact Drawn0.refl _ | apply Drawn0.step)⟩

end Go.Proofs.YtdjmgmiaognncaaDoor.X
namespace Go.Proofs.YtdjmgmiaognncaaDoor.X
open Go.RowKit Go.Proofs.YtdjmgmiaognncaaDoorW.PrintWords Go.Proofs.YtdjmgmiaognncaaDoorW.PrintLast Go.Proofs.YtdjmgmiaognncaaDoorW.PrintMore
attribute [local go_sem] max2_int min2_int max_two min_two max_three min_three max_four min_four   -- for this text's walks alone
set_option linter.unusedVariables false
set_option linter.unusedSimpArgs false

/-! ### abutmentref02_Value: function 44 -/
mutual
def abutmentref02_Value.j0 : Nat → Int → Bool → Option (Int)
  | 0, _, _ => none
  | k + 1, x0, x8 => if x8 = true then (some (wrap64 ((wrap64 (x0)) - 48))) else (if x0 ≥ 65 then (abutmentref02_Value.j1 k x0 (decide (x0 ≤ 70))) else (abutmentref02_Value.j1 k x0 false))
def abutmentref02_Value.j1 : Nat → Int → Bool → Option (Int)
  | 0, _, _ => none
  | k + 1, x0, x17 => if x17 = true then (some (wrap64 ((wrap64 (x0)) - 55))) else (if x0 ≥ 97 then (if x0 ≤ 102 then (some (wrap64 ((wrap64 (x0)) - 87))) else (some 99)) else (some 99))
end
def abutmentref02_Value.f (k : Nat) (a0 : Int) : Option (Int) := if a0 ≥ 48 then (abutmentref02_Value.j0 k a0 (decide (a0 ≤ 57))) else (abutmentref02_Value.j0 k a0 false)
set_option maxHeartbeats 8000000 in
set_option maxRecDepth 100000 in
theorem abutmentref02_Value.calls (k : Nat) (a0 : Int) (r : Int) (w : World) (h : abutmentref02_Value.f k a0 = some r) :
    Calls Tryd.prog 44 #[.int .u8 a0] w fun e w' => e = .returned (.int .i64 r) ∧ Drawn0 w w' := by
  have H : (if a0 ≥ 48 then (abutmentref02_Value.j0 k a0 (decide (a0 ≤ 57))) else (abutmentref02_Value.j0 k a0 false)) = some r := h
  clear h
  have HC2 := Aside0.mk H
  clear H
  go_enter Tryd.func44, Tryd.ntmps44
  go_upto_region 1 with (fail)
  go_cut [8] (fun v8 wc => ∃ (kq : Nat) (x8_1 : Bool), v8 = .bool x8_1 ∧ Aside0 (abutmentref02_Value.j0 kq a0 x8_1 = some r) ∧ Aside0 (kq ≤ k) ∧ Drawn0 w wc)
  case first =>
    have H := HC2.out
    clear HC2
    by_cases c3 : a0 ≥ 48
    · rw [if_pos c3] at H
      have c3b0 : decide (48 ≤ a0) = true := decide_eq_true c3
      clear c3
      (first | rw [c3b0] | (simp only [i64_w, i32_w]; rw [c3b0]) | skip)
      have H' := Aside0.mk H
      clear H
      go_wp2
      go_meet
      case rel => exact ⟨_, (decide (a0 ≤ 57)), (by first | rfl | (simp; done) | (simp [*]; done)), H', ⟨by first | omega | exact Nat.le_refl _⟩, by repeat (first | exact Drawn0.refl _ | apply Drawn0.step)⟩
    · rw [if_neg c3] at H
      have c3b0 : decide (48 ≤ a0) = false := decide_eq_false c3
      clear c3
      (first | rw [c3b0] | (simp only [i64_w, i32_w]; rw [c3b0]) | skip)
      have H' := Aside0.mk H
      clear H
      go_wp2
      go_meet
      case rel => exact ⟨_, (false), (by first | rfl | (simp; done) | (simp [*]; done)), H', ⟨by first | omega | exact Nat.le_refl _⟩, by repeat (first | exact Drawn0.refl _ | apply Drawn0.step)⟩
  case rest =>
    clear HC2
    try clear p2
    try clear c3
    try clear c3b0
    obtain ⟨kq, x8_1, rfl, HA, HJ1, ⟨mc1, rfl⟩⟩ := hcut
    cases kq with
    | zero => exact absurd HA.out (by simp [abutmentref02_Value.j0])
    | succ kj1 =>
      have H := HA.out
      clear HA
      simp only [abutmentref02_Value.j0] at H
      by_cases c4 : x8_1 = true
      · subst c4
        have H1 : (some (wrap64 ((wrap64 (a0)) - 48))) = some r := by rw [if_pos rfl] at H; exact H
        clear H
        have H := H1
        clear H1
        obtain rfl := Option.some.inj H
        go_wp2
        go_ret
        exact ⟨by first | rfl | (simp; done) | (simp [*]; done), by repeat (first | exact Drawn0.refl _ | apply Drawn0.step)⟩
      · replace c4 := Bool.eq_false_iff.mpr c4
        subst c4
        have H1 : (if a0 ≥ 65 then (abutmentref02_Value.j1 kj1 a0 (decide (a0 ≤ 70))) else (abutmentref02_Value.j1 kj1 a0 false)) = some r := by rw [if_neg (show ¬ (false = true) by decide)] at H; exact H
        clear H
        have H := H1
        clear H1
        have HC5 := Aside0.mk H
        clear H
        go_upto_region 3 with (fail)
        go_cut [17] (fun v17 wc => ∃ (kq : Nat) (x17_4 : Bool), v17 = .bool x17_4 ∧ Aside0 (abutmentref02_Value.j1 kq a0 x17_4 = some r) ∧ Aside0 (kq ≤ kj1) ∧ Drawn0 w wc)
        case first =>
          have H := HC5.out
          clear HC5
          by_cases c6 : a0 ≥ 65
          · rw [if_pos c6] at H
            have c6b0 : decide (65 ≤ a0) = true := decide_eq_true c6
            clear c6
            (first | rw [c6b0] | (simp only [i64_w, i32_w]; rw [c6b0]) | skip)
            have H' := Aside0.mk H
            clear H
            go_wp2
            go_meet
            case rel => exact ⟨_, (decide (a0 ≤ 70)), (by first | rfl | (simp; done) | (simp [*]; done)), H', ⟨by have := HJ1.out; first | omega | exact Nat.le_refl _⟩, by repeat (first | exact Drawn0.refl _ | apply Drawn0.step)⟩
          · rw [if_neg c6] at H
            have c6b0 : decide (65 ≤ a0) = false := decide_eq_false c6
            clear c6
            (first | rw [c6b0] | (simp only [i64_w, i32_w]; rw [c6b0]) | skip)
            have H' := Aside0.mk H
            clear H
            go_wp2
            go_meet
            case rel => exact ⟨_, (false), (by first | rfl | (simp; done) | (simp [*]; done)), H', ⟨by have := HJ1.out; first | omega | exact Nat.le_refl _⟩, by repeat (first | exact Drawn0.refl _ | apply Drawn0.step)⟩
        case rest =>
          clear HC5
          try clear c1
          try clear p2
          try clear c3
          try clear c3b0
          try clear c4
          try clear c6
          try clear c6b0
          try clear p6
          try clear p2
          obtain ⟨kq, x17_4, rfl, HA, HJ4, ⟨mc4, rfl⟩⟩ := hcut
          cases kq with
          | zero => exact absurd HA.out (by simp [abutmentref02_Value.j1])
          | succ kj4 =>
            have H := HA.out
            clear HA
            simp only [abutmentref02_Value.j1] at H
            by_cases c7 : x17_4 = true
            · subst c7
              have H1 : (some (wrap64 ((wrap64 (a0)) - 55))) = some r := by rw [if_pos rfl] at H; exact H
              clear H
              have H := H1
              clear H1
              obtain rfl := Option.some.inj H
              go_wp2
              go_ret
              exact ⟨by first | rfl | (simp; done) | (simp [*]; done), by repeat (first | exact Drawn0.refl _ | apply Drawn0.step)⟩
            · replace c7 := Bool.eq_false_iff.mpr c7
              subst c7
              have H1 : (if a0 ≥ 97 then (if a0 ≤ 102 then (some (wrap64 ((wrap64 (a0)) - 87))) else (some 99)) else (some 99)) = some r := by rw [if_neg (show ¬ (false = true) by decide)] at H; exact H
              clear H
              have H := H1
              clear H1
              by_cases c8 : a0 ≥ 97
              · rw [if_pos c8] at H
                have c8b0 : decide (97 ≤ a0) = true := decide_eq_true c8
                clear c8
                by_cases c9 : a0 ≤ 102
                · rw [if_pos c9] at H
                  have c9b0 : decide (a0 ≤ 102) = true := decide_eq_true c9
                  clear c9
                  obtain rfl := Option.some.inj H
                  go_wp2
                  go_ret
                  exact ⟨by first | rfl | (simp; done) | (simp [*]; done), by repeat (first | exact Drawn0.refl _ | apply Drawn0.step)⟩
                · rw [if_neg c9] at H
                  have c9b0 : decide (a0 ≤ 102) = false := decide_eq_false c9
                  clear c9
                  obtain rfl := Option.some.inj H
                  go_wp2
                  go_ret
                  exact ⟨by first | rfl | (simp; done) | (simp [*]; done), by repeat (first | exact Drawn0.refl _ | apply Drawn0.step)⟩
              · rw [if_neg c8] at H
                have c8b0 : decide (97 ≤ a0) = false := decide_eq_false c8
                clear c8
                obtain rfl := Option.some.inj H
                go_wp2
                go_ret
                exact ⟨by first | rfl | (simp; done) | (simp [*]; done), by repeat (first | exact Drawn0.refl _ | apply Drawn0.step)⟩

end Go.Proofs.YtdjmgmiaognncaaDoor.X
namespace Go.Proofs.YtdjmgmiaognncaaDoor.X
open Go.RowKit Go.Proofs.YtdjmgmiaognncaaDoorW.PrintWords Go.Proofs.YtdjmgmiaognncaaDoorW.PrintLast Go.Proofs.YtdjmgmiaognncaaDoorW.PrintMore
attribute [local go_sem] max2_int min2_int max_two min_two max_three min_three max_four min_four   -- for this text's walks alone
set_option linter.unusedVariables false
set_option linter.unusedSimpArgs false

/-! ### abutmentref11_hex: function 70 -/
def abutmentref11_hex.f (k : Nat) (a0 : Int) : Option (Bool) := (abutmentref02_Value.f k a0).bind fun t101 => (some (decide (t101 < 16)))
set_option maxHeartbeats 8000000 in
set_option maxRecDepth 100000 in
theorem abutmentref11_hex.calls (k : Nat) (a0 : Int) (r : Bool) (w : World) (h : abutmentref11_hex.f k a0 = some r) :
    Calls Tryd.prog 70 #[.int .u8 a0] w fun e w' => e = .returned (.bool r) ∧ Drawn0 w w' := by
  have H : ((abutmentref02_Value.f k a0).bind fun t101 => (some (decide (t101 < 16)))) = some r := h
  clear h
  replace H := Option.bind_eq_some_iff.mp H
  obtain ⟨t101, A20, H⟩ := H
  replace H : (some (decide (t101 < 16))) = some r := H
  have A2 := Aside0.mk A20
  clear A20
  obtain rfl := Option.some.inj H
  go_enter Tryd.func70, Tryd.ntmps70
  go_wp2_with (first | ((with_reducible refine gate_callee (f := 44) rfl ?_); refine goesL_ (some 4) rfl rfl Tryd.func44 (by kernel_rfl) rfl #[.int .u8 a0] rfl (by (try simp only [List.map_toArray, List.map_cons, List.map_nil]); first | done | rfl | (simp only [List.length_drop, List.length_take]; rfl)) ?_; (with_reducible refine (abutmentref02_Value.calls k a0 t101 _ A2.out).mono ?_); rintro e w' ⟨rfl, ⟨nd, rfl⟩⟩; refine ⟨_, rfl, ?_⟩))
  go_ret
  exact ⟨by first | rfl | (simp; done) | (simp [*]; done), by repeat (first | exact Drawn0.refl _ | apply Drawn0.step)⟩

end Go.Proofs.YtdjmgmiaognncaaDoor.X
namespace Go.Proofs.YtdjmgmiaognncaaDoor.X
open Go.RowKit Go.Proofs.YtdjmgmiaognncaaDoorW.PrintWords Go.Proofs.YtdjmgmiaognncaaDoorW.PrintLast Go.Proofs.YtdjmgmiaognncaaDoorW.PrintMore
attribute [local go_sem] max2_int min2_int max_two min_two max_three min_three max_four min_four   -- for this text's walks alone
set_option linter.unusedVariables false
set_option linter.unusedSimpArgs false

/-! ### abutmentref11_Name: function 37 -/
mutual
def abutmentref11_Name.j0 : Nat → ByteArray → Int → Bool → Option (Int)
  | 0, _, _, _ => none
  | k + 1, x0, x3, x15 => if x15 = true then (abutmentref11_Name.l0 k x0 1) else (abutmentref11_Name.l1 k x0 x3)
def abutmentref11_Name.l0 : Nat → ByteArray → Int → Option (Int)
  | 0, _, _ => none
  | k + 1, x0, x3 => if x3 < (x0.size : Int) then (if 0 ≤ x3 then ((abutmentref11_hex.f k (bt x0 x3)).bind fun t101 => (if t101 = true then (abutmentref11_Name.l0 k x0 (wrap64 (x3 + 1))) else (if (bt x0 x3) = 58 then (abutmentref11_Name.l0 k x0 (wrap64 (x3 + 1))) else (if (bt x0 x3) = 46 then (abutmentref11_Name.l0 k x0 (wrap64 (x3 + 1))) else (if x3 = 1 then (some 0) else (if x3 = (x0.size : Int) then (some 0) else (if (bt x0 x3) = 93 then (some (wrap64 (x3 + 1))) else (some 0)))))))) else (none)) else (if x3 = 1 then (some 0) else (if x3 = (x0.size : Int) then (some 0) else (if 0 ≤ x3 then (none) else (none))))
def abutmentref11_Name.l1 : Nat → ByteArray → Int → Option (Int)
  | 0, _, _ => none
  | k + 1, x0, x3 => if x3 < (x0.size : Int) then (if 0 ≤ x3 then (if (bt x0 x3) = 37 then (if (wrap64 (x3 + 2)) ≥ (x0.size : Int) then (some 0) else (if 0 ≤ (wrap64 (x3 + 1)) then (if (wrap64 (x3 + 1)) < (x0.size : Int) then ((abutmentref11_hex.f k (bt x0 (wrap64 (x3 + 1)))).bind fun t102 => (if t102 = true then (if 0 ≤ (wrap64 (x3 + 2)) then (if (wrap64 (x3 + 2)) < (x0.size : Int) then ((abutmentref11_hex.f k (bt x0 (wrap64 (x3 + 2)))).bind fun t103 => (if t103 = true then (abutmentref11_Name.l1 k x0 (wrap64 (x3 + 3))) else (some 0))) else (none)) else (none)) else (some 0))) else (none)) else (none))) else (if (bt x0 x3) ≥ 48 then (if (bt x0 x3) ≤ 57 then (abutmentref11_Name.j3 k x0 x3 (bt x0 x3) true) else (if (bt x0 x3) ≥ 65 then (if (bt x0 x3) ≤ 90 then (abutmentref11_Name.j3 k x0 x3 (bt x0 x3) true) else (if (bt x0 x3) ≥ 97 then (abutmentref11_Name.j3 k x0 x3 (bt x0 x3) (decide ((bt x0 x3) ≤ 122))) else (abutmentref11_Name.j3 k x0 x3 (bt x0 x3) false))) else (if (bt x0 x3) ≥ 97 then (abutmentref11_Name.j3 k x0 x3 (bt x0 x3) (decide ((bt x0 x3) ≤ 122))) else (abutmentref11_Name.j3 k x0 x3 (bt x0 x3) false)))) else (if (bt x0 x3) ≥ 65 then (if (bt x0 x3) ≤ 90 then (abutmentref11_Name.j3 k x0 x3 (bt x0 x3) true) else (if (bt x0 x3) ≥ 97 then (abutmentref11_Name.j3 k x0 x3 (bt x0 x3) (decide ((bt x0 x3) ≤ 122))) else (abutmentref11_Name.j3 k x0 x3 (bt x0 x3) false))) else (if (bt x0 x3) ≥ 97 then (abutmentref11_Name.j3 k x0 x3 (bt x0 x3) (decide ((bt x0 x3) ≤ 122))) else (abutmentref11_Name.j3 k x0 x3 (bt x0 x3) false))))) else (none)) else (some x3)
def abutmentref11_Name.j3 : Nat → ByteArray → Int → Int → Bool → Option (Int)
  | 0, _, _, _, _ => none
  | k + 1, x0, x3, x4, x5 => abutmentref11_Name.l2 k x0 x3 x4 x5 (⟨#[45, 46, 95, 126, 33, 36, 38, 39, 40, 41, 42, 43, 44, 59, 61]⟩ : ByteArray) 0
def abutmentref11_Name.l2 : Nat → ByteArray → Int → Int → Bool → ByteArray → Int → Option (Int)
  | 0, _, _, _, _, _, _ => none
  | k + 1, x0, x3, x4, x5, x6, x7 => if x7 < (x6.size : Int) then (if x5 = true then (abutmentref11_Name.l2 k x0 x3 x4 true x6 (wrap64 (x7 + 1))) else (if 0 ≤ x7 then (abutmentref11_Name.l2 k x0 x3 x4 ((bt x6 x7) == x4) x6 (wrap64 (x7 + 1))) else (none))) else (if x5 = true then (abutmentref11_Name.l1 k x0 (wrap64 (x3 + 1))) else (some x3))
end
def abutmentref11_Name.f (k : Nat) (a0 : ByteArray) : Option (Int) := if (a0.size : Int) > 0 then (if 0 < (a0.size : Int) then (abutmentref11_Name.j0 k a0 0 ((bt a0 0) == 91)) else (none)) else (abutmentref11_Name.j0 k a0 0 false)
set_option maxHeartbeats 8000000 in
set_option maxRecDepth 100000 in
theorem abutmentref11_Name.calls (k : Nat) (a0 : ByteArray) (r : Int) (w : World) (h : abutmentref11_Name.f k a0 = some r) :
    Calls Tryd.prog 37 #[.string a0] w fun e w' => e = .returned (.int .i64 r) ∧ Drawn0 w w' := by
  have H : (if (a0.size : Int) > 0 then (if 0 < (a0.size : Int) then (abutmentref11_Name.j0 k a0 0 ((bt a0 0) == 91)) else (none)) else (abutmentref11_Name.j0 k a0 0 false)) = some r := h
  clear h
  have HC2 := Aside0.mk H
  clear H
  go_enter Tryd.func37, Tryd.ntmps37
  go_upto_region 2 with (fail)
  go_cut [15] (fun v15 wc => ∃ (kq : Nat) (x15_1 : Bool), v15 = .bool x15_1 ∧ Aside0 (abutmentref11_Name.j0 kq a0 0 x15_1 = some r) ∧ Aside0 (kq ≤ k) ∧ Drawn0 w wc)
  case first =>
    have H := HC2.out
    clear HC2
    by_cases c3 : (a0.size : Int) > 0
    · rw [if_pos c3] at H
      have c3b0 : decide (0 < (a0.size : Int)) = true := decide_eq_true c3
      have c3b1 : decide (0 < a0.size) = true := decide_eq_true (by omega)
      clear c3
      (first | rw [c3b0] | (simp only [i64_w, i32_w]; rw [c3b0]) | skip)
      by_cases c4 : 0 < (a0.size : Int)
      · rw [if_pos c4] at H
        have c4b0 : decide (0 < (a0.size : Int)) = true := decide_eq_true c4
        have c4b1 : decide (0 < a0.size) = true := decide_eq_true (by omega)
        clear c4
        have H' := Aside0.mk H
        clear H
        have p5 : 0 ≤ (0 : Int) := (by omega)
        have q5 : 0 < a0.size := (by have : (0 : Int) < (a0.size : Int) := of_decide_eq_true (by first | (with_reducible assumption) | assumption); omega)
        have hx5 : ∀ h : 0 < a0.size, ((a0[0]'h).toNat : Int) = bt a0 0 := bt_at a0 0
        clear p5
        have qi5 : (0 < (a0.size : Int)) = True := eq_true (of_decide_eq_true (by first | (with_reducible assumption) | assumption))
        replace q5 := eq_true q5
        go_wp2
        go_meet
        case rel => exact ⟨_, (((bt a0 0) == 91)), (by first | rfl | (simp; done) | (simp [*]; done)), H', ⟨by first | omega | exact Nat.le_refl _⟩, by repeat (first | exact Drawn0.refl _ | apply Drawn0.step)⟩
      · rw [if_neg c4] at H
        exact absurd H (by simp)
    · rw [if_neg c3] at H
      have c3b0 : decide (0 < (a0.size : Int)) = false := decide_eq_false c3
      have c3b1 : decide (0 < a0.size) = false := decide_eq_false (by omega)
      clear c3
      (first | rw [c3b0] | (simp only [i64_w, i32_w]; rw [c3b0]) | skip)
      have H' := Aside0.mk H
      clear H
      go_wp2
      go_meet
      case rel => exact ⟨_, (false), (by first | rfl | (simp; done) | (simp [*]; done)), H', ⟨by first | omega | exact Nat.le_refl _⟩, by repeat (first | exact Drawn0.refl _ | apply Drawn0.step)⟩
  case rest =>
    clear HC2
    try clear p2
    try clear c3
    try clear c3b0
    try clear c3b1
    try clear c4
    try clear c4b0
    try clear c4b1
    try clear p5
    try clear q5
    try clear hx5
    try clear qi5
    try clear p5
    try clear q5
    obtain ⟨kq, x15_1, rfl, HA, HJ1, ⟨mc1, rfl⟩⟩ := hcut
    cases kq with
    | zero => exact absurd HA.out (by simp [abutmentref11_Name.j0])
    | succ kj1 =>
      have H := HA.out
      clear HA
      simp only [abutmentref11_Name.j0] at H
      by_cases c6 : x15_1 = true
      · subst c6
        have H1 : (abutmentref11_Name.l0 kj1 a0 1) = some r := by rw [if_pos rfl] at H; exact H
        clear H
        have H := H1
        clear H1
        have H' := Aside0.mk H
        clear H
        go_wp2
        go_loopg [3] kj1 (fun kq v3 w' => ∃ (x3_2 : Int), v3 = .int .i64 x3_2 ∧ Aside0 (abutmentref11_Name.l0 kq a0 x3_2 = some r) ∧ Aside0 (kq ≤ kj1) ∧ Drawn0 w w')
        case atStart => exact ⟨(1), (by first | rfl | (simp; done) | (simp [*]; done)), H', ⟨Nat.le_refl _⟩, by repeat (first | exact Drawn0.refl _ | apply Drawn0.step)⟩
        case round =>
          clear H'
          try clear c1
          try clear p2
          try clear c3
          try clear c3b0
          try clear c3b1
          try clear c4
          try clear c4b0
          try clear c4b1
          try clear p5
          try clear q5
          try clear hx5
          try clear qi5
          try clear c6
          try clear p2
          try clear p5
          try clear q5
          obtain ⟨x3_2, rfl, HA, HK2, ⟨m2, rfl⟩⟩ := hrel
          cases gk with
          | zero => exact absurd HA.out (by simp [abutmentref11_Name.l0])
          | succ k2 =>
            have H := HA.out
            clear HA
            simp only [abutmentref11_Name.l0] at H
            by_cases c7 : x3_2 < (a0.size : Int)
            · rw [if_pos c7] at H
              have c7b0 : decide (x3_2 < (a0.size : Int)) = true := decide_eq_true c7
              clear c7
              by_cases c8 : 0 ≤ x3_2
              · rw [if_pos c8] at H
                have c8b0 : decide (0 ≤ x3_2) = true := decide_eq_true c8
                clear c8
                replace H := Option.bind_eq_some_iff.mp H
                obtain ⟨t101, A100, H⟩ := H
                replace H : (if t101 = true then (abutmentref11_Name.l0 k2 a0 (wrap64 (x3_2 + 1))) else (if (bt a0 x3_2) = 58 then (abutmentref11_Name.l0 k2 a0 (wrap64 (x3_2 + 1))) else (if (bt a0 x3_2) = 46 then (abutmentref11_Name.l0 k2 a0 (wrap64 (x3_2 + 1))) else (if x3_2 = 1 then (some 0) else (if x3_2 = (a0.size : Int) then (some 0) else (if (bt a0 x3_2) = 93 then (some (wrap64 (x3_2 + 1))) else (some 0))))))) = some r := H
                have A10 := Aside0.mk A100
                clear A100
                by_cases c11 : t101 = true
                · subst c11
                  have H1 : (abutmentref11_Name.l0 k2 a0 (wrap64 (x3_2 + 1))) = some r := by rw [if_pos rfl] at H; exact H
                  clear H
                  have H := H1
                  clear H1
                  have H' := Aside0.mk H
                  clear H
                  have p9 : 0 ≤ (x3_2 : Int) := of_decide_eq_true (by first | (with_reducible assumption) | assumption)
                  have q9 : x3_2 < (a0.size : Int) := of_decide_eq_true (by first | (with_reducible assumption) | assumption)
                  have hx9 := bt_at a0 x3_2
                  replace p9 := eq_true p9
                  replace q9 := eq_true q9
                  go_wp2_with (first | (go_at_call 70; (with_reducible refine (abutmentref11_hex.calls k2 (bt a0 x3_2) true _ A10.out).mono ?_); rintro e w' ⟨rfl, ⟨nd, rfl⟩⟩))
                  go_roundg k2
                  case measure => have := HJ1.out; have := HK2.out; omega
                  case rel => exact ⟨(wrap64 (x3_2 + 1)), (by first | rfl | (simp; done) | (simp [*]; done)), H', ⟨by have := HJ1.out; have := HK2.out; omega⟩, by repeat (first | exact Drawn0.refl _ | apply Drawn0.step)⟩
                · replace c11 := Bool.eq_false_iff.mpr c11
                  subst c11
                  have H1 : (if (bt a0 x3_2) = 58 then (abutmentref11_Name.l0 k2 a0 (wrap64 (x3_2 + 1))) else (if (bt a0 x3_2) = 46 then (abutmentref11_Name.l0 k2 a0 (wrap64 (x3_2 + 1))) else (if x3_2 = 1 then (some 0) else (if x3_2 = (a0.size : Int) then (some 0) else (if (bt a0 x3_2) = 93 then (some (wrap64 (x3_2 + 1))) else (some 0)))))) = some r := by rw [if_neg (show ¬ (false = true) by decide)] at H; exact H
                  clear H
                  have H := H1
                  clear H1
                  by_cases c13 : (bt a0 x3_2) = 58
                  · rw [if_pos c13] at H
                    have c13b0 : ((bt a0 x3_2) == 58) = true := beq_iff_eq.mpr c13
                    have c13b1 : ((bt a0 x3_2) != 58) = false := bne_eq_false_iff_eq.mpr c13
                    clear c13
                    have H' := Aside0.mk H
                    clear H
                    have p9 : 0 ≤ (x3_2 : Int) := of_decide_eq_true (by first | (with_reducible assumption) | assumption)
                    have q9 : x3_2 < (a0.size : Int) := of_decide_eq_true (by first | (with_reducible assumption) | assumption)
                    have hx9 := bt_at a0 x3_2
                    replace p9 := eq_true p9
                    replace q9 := eq_true q9
                    go_wp2_with (first | (go_at_call 70; (with_reducible refine (abutmentref11_hex.calls k2 (bt a0 x3_2) false _ A10.out).mono ?_); rintro e w' ⟨rfl, ⟨nd, rfl⟩⟩; have p12 : 0 ≤ (x3_2 : Int) := of_decide_eq_true (by first | (with_reducible assumption) | assumption); have q12 : x3_2 < (a0.size : Int) := of_decide_eq_true (by first | (with_reducible assumption) | assumption); have hx12 := bt_at a0 x3_2; replace p12 := eq_true p12; replace q12 := eq_true q12))
                    go_roundg k2
                    case measure => have := HJ1.out; have := HK2.out; omega
                    case rel => exact ⟨(wrap64 (x3_2 + 1)), (by first | rfl | (simp; done) | (simp [*]; done)), H', ⟨by have := HJ1.out; have := HK2.out; omega⟩, by repeat (first | exact Drawn0.refl _ | apply Drawn0.step)⟩
                  · rw [if_neg c13] at H
                    have c13b0 : ((bt a0 x3_2) == 58) = false := beq_eq_false_iff_ne.mpr c13
                    have c13b1 : ((bt a0 x3_2) != 58) = true := bne_iff_ne.mpr c13
                    by_cases c15 : (bt a0 x3_2) = 46
                    · rw [if_pos c15] at H
                      have c15b0 : ((bt a0 x3_2) == 46) = true := beq_iff_eq.mpr c15
                      have c15b1 : ((bt a0 x3_2) != 46) = false := bne_eq_false_iff_eq.mpr c15
                      clear c15
                      have H' := Aside0.mk H
                      clear H
                      have p9 : 0 ≤ (x3_2 : Int) := of_decide_eq_true (by first | (with_reducible assumption) | assumption)
                      have q9 : x3_2 < (a0.size : Int) := of_decide_eq_true (by first | (with_reducible assumption) | assumption)
                      have hx9 := bt_at a0 x3_2
                      replace p9 := eq_true p9
                      replace q9 := eq_true q9
                      go_wp2_with (first | (go_at_call 70; (with_reducible refine (abutmentref11_hex.calls k2 (bt a0 x3_2) false _ A10.out).mono ?_); rintro e w' ⟨rfl, ⟨nd, rfl⟩⟩; have p12 : 0 ≤ (x3_2 : Int) := of_decide_eq_true (by first | (with_reducible assumption) | assumption); have q12 : x3_2 < (a0.size : Int) := of_decide_eq_true (by first | (with_reducible assumption) | assumption); have hx12 := bt_at a0 x3_2; replace p12 := eq_true p12; replace q12 := eq_true q12; have p14 : 0 ≤ (x3_2 : Int) := of_decide_eq_true (by first | (with_reducible assumption) | assumption); have q14 : x3_2 < (a0.size : Int) := of_decide_eq_true (by first | (with_reducible assumption) | assumption); have hx14 := bt_at a0 x3_2; replace p14 := eq_true p14; replace q14 := eq_true q14))
                      go_roundg k2
                      case measure => have := HJ1.out; have := HK2.out; omega
                      case rel => exact ⟨(wrap64 (x3_2 + 1)), (by first | rfl | (simp; done) | (simp [*]; done)), H', ⟨by have := HJ1.out; have := HK2.out; omega⟩, by repeat (first | exact Drawn0.refl _ | apply Drawn0.step)⟩
                    · rw [if_neg c15] at H
                      have c15b0 : ((bt a0 x3_2) == 46) = false := beq_eq_false_iff_ne.mpr c15
                      have c15b1 : ((bt a0 x3_2) != 46) = true := bne_iff_ne.mpr c15
                      by_cases c16 : x3_2 = 1
                      · rw [if_pos c16] at H
                        have c16b0 : (x3_2 == 1) = true := beq_iff_eq.mpr c16
                        have c16b1 : (x3_2 != 1) = false := bne_eq_false_iff_eq.mpr c16
                        clear c16
                        obtain rfl := Option.some.inj H
                        have p9 : 0 ≤ (x3_2 : Int) := of_decide_eq_true (by first | (with_reducible assumption) | assumption)
                        have q9 : x3_2 < (a0.size : Int) := of_decide_eq_true (by first | (with_reducible assumption) | assumption)
                        have hx9 := bt_at a0 x3_2
                        replace p9 := eq_true p9
                        replace q9 := eq_true q9
                        go_wp2_with (first | (go_at_call 70; (with_reducible refine (abutmentref11_hex.calls k2 (bt a0 x3_2) false _ A10.out).mono ?_); rintro e w' ⟨rfl, ⟨nd, rfl⟩⟩; have p12 : 0 ≤ (x3_2 : Int) := of_decide_eq_true (by first | (with_reducible assumption) | assumption); have q12 : x3_2 < (a0.size : Int) := of_decide_eq_true (by first | (with_reducible assumption) | assumption); have hx12 := bt_at a0 x3_2; replace p12 := eq_true p12; replace q12 := eq_true q12; have p14 : 0 ≤ (x3_2 : Int) := of_decide_eq_true (by first | (with_reducible assumption) | assumption); have q14 : x3_2 < (a0.size : Int) := of_decide_eq_true (by first | (with_reducible assumption) | assumption); have hx14 := bt_at a0 x3_2; replace p14 := eq_true p14; replace q14 := eq_true q14))
                        go_ret
                        exact ⟨by first | rfl | (simp; done) | (simp [*]; done), by repeat (first | exact Drawn0.refl _ | apply Drawn0.step)⟩
                      · rw [if_neg c16] at H
                        have c16b0 : (x3_2 == 1) = false := beq_eq_false_iff_ne.mpr c16
                        have c16b1 : (x3_2 != 1) = true := bne_iff_ne.mpr c16
                        by_cases c17 : x3_2 = (a0.size : Int)
                        · rw [if_pos c17] at H
                          have c17b0 : (x3_2 == (a0.size : Int)) = true := beq_iff_eq.mpr c17
                          have c17b1 : (x3_2 != (a0.size : Int)) = false := bne_eq_false_iff_eq.mpr c17
                          clear c17
                          obtain rfl := Option.some.inj H
                          have p9 : 0 ≤ (x3_2 : Int) := of_decide_eq_true (by first | (with_reducible assumption) | assumption)
                          have q9 : x3_2 < (a0.size : Int) := of_decide_eq_true (by first | (with_reducible assumption) | assumption)
                          have hx9 := bt_at a0 x3_2
                          replace p9 := eq_true p9
                          replace q9 := eq_true q9
                          go_wp2_with (first | (go_at_call 70; (with_reducible refine (abutmentref11_hex.calls k2 (bt a0 x3_2) false _ A10.out).mono ?_); rintro e w' ⟨rfl, ⟨nd, rfl⟩⟩; have p12 : 0 ≤ (x3_2 : Int) := of_decide_eq_true (by first | (with_reducible assumption) | assumption); have q12 : x3_2 < (a0.size : Int) := of_decide_eq_true (by first | (with_reducible assumption) | assumption); have hx12 := bt_at a0 x3_2; replace p12 := eq_true p12; replace q12 := eq_true q12; have p14 : 0 ≤ (x3_2 : Int) := of_decide_eq_true (by first | (with_reducible assumption) | assumption); have q14 : x3_2 < (a0.size : Int) := of_decide_eq_true (by first | (with_reducible assumption) | assumption); have hx14 := bt_at a0 x3_2; replace p14 := eq_true p14; replace q14 := eq_true q14))
                          go_ret
                          exact ⟨by first | rfl | (simp; done) | (simp [*]; done), by repeat (first | exact Drawn0.refl _ | apply Drawn0.step)⟩
                        · rw [if_neg c17] at H
                          have c17b0 : (x3_2 == (a0.size : Int)) = false := beq_eq_false_iff_ne.mpr c17
                          have c17b1 : (x3_2 != (a0.size : Int)) = true := bne_iff_ne.mpr c17
                          by_cases c19 : (bt a0 x3_2) = 93
                          · rw [if_pos c19] at H
                            have c19b0 : ((bt a0 x3_2) == 93) = true := beq_iff_eq.mpr c19
                            have c19b1 : ((bt a0 x3_2) != 93) = false := bne_eq_false_iff_eq.mpr c19
                            clear c19
                            obtain rfl := Option.some.inj H
                            have p9 : 0 ≤ (x3_2 : Int) := of_decide_eq_true (by first | (with_reducible assumption) | assumption)
                            have q9 : x3_2 < (a0.size : Int) := of_decide_eq_true (by first | (with_reducible assumption) | assumption)
                            have hx9 := bt_at a0 x3_2
                            replace p9 := eq_true p9
                            replace q9 := eq_true q9
                            go_wp2_with (first | (go_at_call 70; (with_reducible refine (abutmentref11_hex.calls k2 (bt a0 x3_2) false _ A10.out).mono ?_); rintro e w' ⟨rfl, ⟨nd, rfl⟩⟩; have p12 : 0 ≤ (x3_2 : Int) := of_decide_eq_true (by first | (with_reducible assumption) | assumption); have q12 : x3_2 < (a0.size : Int) := of_decide_eq_true (by first | (with_reducible assumption) | assumption); have hx12 := bt_at a0 x3_2; replace p12 := eq_true p12; replace q12 := eq_true q12; have p14 : 0 ≤ (x3_2 : Int) := of_decide_eq_true (by first | (with_reducible assumption) | assumption); have q14 : x3_2 < (a0.size : Int) := of_decide_eq_true (by first | (with_reducible assumption) | assumption); have hx14 := bt_at a0 x3_2; replace p14 := eq_true p14; replace q14 := eq_true q14; have p18 : 0 ≤ (x3_2 : Int) := of_decide_eq_true (by first | (with_reducible assumption) | assumption); have q18 : x3_2 < (a0.size : Int) := of_decide_eq_true (by first | (with_reducible assumption) | assumption); have hx18 := bt_at a0 x3_2; replace p18 := eq_true p18; replace q18 := eq_true q18))
                            go_ret
                            exact ⟨by first | rfl | (simp; done) | (simp [*]; done), by repeat (first | exact Drawn0.refl _ | apply Drawn0.step)⟩
                          · rw [if_neg c19] at H
                            have c19b0 : ((bt a0 x3_2) == 93) = false := beq_eq_false_iff_ne.mpr c19
                            have c19b1 : ((bt a0 x3_2) != 93) = true := bne_iff_ne.mpr c19
                            obtain rfl := Option.some.inj H
                            have p9 : 0 ≤ (x3_2 : Int) := of_decide_eq_true (by first | (with_reducible assumption) | assumption)
                            have q9 : x3_2 < (a0.size : Int) := of_decide_eq_true (by first | (with_reducible assumption) | assumption)
                            have hx9 := bt_at a0 x3_2
                            replace p9 := eq_true p9
                            replace q9 := eq_true q9
                            go_wp2_with (first | (go_at_call 70; (with_reducible refine (abutmentref11_hex.calls k2 (bt a0 x3_2) false _ A10.out).mono ?_); rintro e w' ⟨rfl, ⟨nd, rfl⟩⟩; have p12 : 0 ≤ (x3_2 : Int) := of_decide_eq_true (by first | (with_reducible assumption) | assumption); have q12 : x3_2 < (a0.size : Int) := of_decide_eq_true (by first | (with_reducible assumption) | assumption); have hx12 := bt_at a0 x3_2; replace p12 := eq_true p12; replace q12 := eq_true q12; have p14 : 0 ≤ (x3_2 : Int) := of_decide_eq_true (by first | (with_reducible assumption) | assumption); have q14 : x3_2 < (a0.size : Int) := of_decide_eq_true (by first | (with_reducible assumption) | assumption); have hx14 := bt_at a0 x3_2; replace p14 := eq_true p14; replace q14 := eq_true q14; have p18 : 0 ≤ (x3_2 : Int) := of_decide_eq_true (by first | (with_reducible assumption) | assumption); have q18 : x3_2 < (a0.size : Int) := of_decide_eq_true (by first | (with_reducible assumption) | assumption); have hx18 := bt_at a0 x3_2; replace p18 := eq_true p18; replace q18 := eq_true q18))
                            go_ret
                            exact ⟨by first | rfl | (simp; done) | (simp [*]; done), by repeat (first | exact Drawn0.refl _ | apply Drawn0.step)⟩
              · rw [if_neg c8] at H
                exact absurd H (by simp)
            · rw [if_neg c7] at H
              have c7b0 : decide (x3_2 < (a0.size : Int)) = false := decide_eq_false c7
              clear c7
              by_cases c20 : x3_2 = 1
              · rw [if_pos c20] at H
                have c20b0 : (x3_2 == 1) = true := beq_iff_eq.mpr c20
                have c20b1 : (x3_2 != 1) = false := bne_eq_false_iff_eq.mpr c20
                clear c20
                obtain rfl := Option.some.inj H
                go_wp2
                go_ret
                exact ⟨by first | rfl | (simp; done) | (simp [*]; done), by repeat (first | exact Drawn0.refl _ | apply Drawn0.step)⟩
              · rw [if_neg c20] at H
                have c20b0 : (x3_2 == 1) = false := beq_eq_false_iff_ne.mpr c20
                have c20b1 : (x3_2 != 1) = true := bne_iff_ne.mpr c20
                by_cases c21 : x3_2 = (a0.size : Int)
                · rw [if_pos c21] at H
                  have c21b0 : (x3_2 == (a0.size : Int)) = true := beq_iff_eq.mpr c21
                  have c21b1 : (x3_2 != (a0.size : Int)) = false := bne_eq_false_iff_eq.mpr c21
                  clear c21
                  obtain rfl := Option.some.inj H
                  go_wp2
                  go_ret
                  exact ⟨by first | rfl | (simp; done) | (simp [*]; done), by repeat (first | exact Drawn0.refl _ | apply Drawn0.step)⟩
                · rw [if_neg c21] at H
                  have c21b0 : (x3_2 == (a0.size : Int)) = false := beq_eq_false_iff_ne.mpr c21
                  have c21b1 : (x3_2 != (a0.size : Int)) = true := bne_iff_ne.mpr c21
                  by_cases c22 : 0 ≤ x3_2
                  · rw [if_pos c22] at H
                    exact absurd H (by simp)
                  · rw [if_neg c22] at H
                    exact absurd H (by simp)
      · replace c6 := Bool.eq_false_iff.mpr c6
        subst c6
        have H1 : (abutmentref11_Name.l1 kj1 a0 0) = some r := by rw [if_neg (show ¬ (false = true) by decide)] at H; exact H
        clear H
        have H := H1
        clear H1
        have H' := Aside0.mk H
        clear H
        go_wp2
        go_loopg [3] kj1 (fun kq v3 w' => ∃ (x3_2 : Int), v3 = .int .i64 x3_2 ∧ Aside0 (abutmentref11_Name.l1 kq a0 x3_2 = some r) ∧ Aside0 (kq ≤ kj1) ∧ Drawn0 w w')
        case atStart => exact ⟨(0), (by first | rfl | (simp; done) | (simp [*]; done)), H', ⟨Nat.le_refl _⟩, by repeat (first | exact Drawn0.refl _ | apply Drawn0.step)⟩
        case round =>
          clear H'
          try clear c1
          try clear p1
          try clear q1
          try clear hx1
          try clear c2
          try clear p2
          try clear c3
          try clear c3b0
          try clear c3b1
          try clear c4
          try clear c4b0
          try clear c4b1
          try clear p5
          try clear q5
          try clear hx5
          try clear qi5
          try clear c6
          try clear p6
          try clear c7
          try clear c7b0
          try clear c8
          try clear c8b0
          try clear p9
          try clear q9
          try clear hx9
          try clear c11
          try clear p12
          try clear q12
          try clear hx12
          try clear c13
          try clear c13b0
          try clear c13b1
          try clear p14
          try clear q14
          try clear hx14
          try clear c15
          try clear c15b0
          try clear c15b1
          try clear c16
          try clear c16b0
          try clear c16b1
          try clear c17
          try clear c17b0
          try clear c17b1
          try clear p18
          try clear q18
          try clear hx18
          try clear c19
          try clear c19b0
          try clear c19b1
          try clear c20
          try clear c20b0
          try clear c20b1
          try clear c21
          try clear c21b0
          try clear c21b1
          try clear c22
          try clear p12
          try clear p14
          try clear p18
          try clear p2
          try clear p5
          try clear p9
          try clear q12
          try clear q14
          try clear q18
          try clear q5
          try clear q9
          obtain ⟨x3_2, rfl, HA, HK2, ⟨m2, rfl⟩⟩ := hrel
          cases gk with
          | zero => exact absurd HA.out (by simp [abutmentref11_Name.l1])
          | succ k2 =>
            have H := HA.out
            clear HA
            simp only [abutmentref11_Name.l1] at H
            by_cases c23 : x3_2 < (a0.size : Int)
            · rw [if_pos c23] at H
              have c23b0 : decide (x3_2 < (a0.size : Int)) = true := decide_eq_true c23
              clear c23
              by_cases c24 : 0 ≤ x3_2
              · rw [if_pos c24] at H
                have c24b0 : decide (0 ≤ x3_2) = true := decide_eq_true c24
                clear c24
                by_cases c26 : (bt a0 x3_2) = 37
                · rw [if_pos c26] at H
                  have c26b0 : ((bt a0 x3_2) == 37) = true := beq_iff_eq.mpr c26
                  have c26b1 : ((bt a0 x3_2) != 37) = false := bne_eq_false_iff_eq.mpr c26
                  clear c26
                  by_cases c27 : (wrap64 (x3_2 + 2)) ≥ (a0.size : Int)
                  · rw [if_pos c27] at H
                    have c27b0 : decide ((a0.size : Int) ≤ (wrap64 (x3_2 + 2))) = true := decide_eq_true c27
                    clear c27
                    obtain rfl := Option.some.inj H
                    have p25 : 0 ≤ (x3_2 : Int) := of_decide_eq_true (by first | (with_reducible assumption) | assumption)
                    have q25 : x3_2 < (a0.size : Int) := of_decide_eq_true (by first | (with_reducible assumption) | assumption)
                    have hx25 := bt_at a0 x3_2
                    replace p25 := eq_true p25
                    replace q25 := eq_true q25
                    go_wp2
                    go_ret
                    exact ⟨by first | rfl | (simp; done) | (simp [*]; done), by repeat (first | exact Drawn0.refl _ | apply Drawn0.step)⟩
                  · rw [if_neg c27] at H
                    have c27b0 : decide ((a0.size : Int) ≤ (wrap64 (x3_2 + 2))) = false := decide_eq_false c27
                    clear c27
                    obtain ⟨ji28, hji28⟩ : ∃ j_ : Int, (wrap64 (x3_2 + 1)) = j_ := ⟨_, rfl⟩
                    replace H : (if 0 ≤ (ji28) then (if (ji28) < (a0.size : Int) then ((abutmentref11_hex.f k2 (bt a0 (ji28))).bind fun t102 => (if t102 = true then (if 0 ≤ (wrap64 (x3_2 + 2)) then (if (wrap64 (x3_2 + 2)) < (a0.size : Int) then ((abutmentref11_hex.f k2 (bt a0 (wrap64 (x3_2 + 2)))).bind fun t103 => (if t103 = true then (abutmentref11_Name.l1 k2 a0 (wrap64 (x3_2 + 3))) else (some 0))) else (none)) else (none)) else (some 0))) else (none)) else (none)) = some r := by first | (rw [hji28] at H; exact H) | (simp only [hji28] at H ⊢; exact H)
                    have hji28w : (IntKind.i64.wrap (x3_2 + 1)) = ji28 := (i64_w _).trans hji28
                    by_cases c29 : 0 ≤ (ji28)
                    · rw [if_pos c29] at H
                      have c29b0 : decide (0 ≤ (ji28)) = true := decide_eq_true c29
                      clear c29
                      by_cases c30 : (ji28) < (a0.size : Int)
                      · rw [if_pos c30] at H
                        have c30b0 : decide ((ji28) < (a0.size : Int)) = true := decide_eq_true c30
                        clear c30
                        replace H := Option.bind_eq_some_iff.mp H
                        obtain ⟨t102, A320, H⟩ := H
                        replace H : (if t102 = true then (if 0 ≤ (wrap64 (x3_2 + 2)) then (if (wrap64 (x3_2 + 2)) < (a0.size : Int) then ((abutmentref11_hex.f k2 (bt a0 (wrap64 (x3_2 + 2)))).bind fun t103 => (if t103 = true then (abutmentref11_Name.l1 k2 a0 (wrap64 (x3_2 + 3))) else (some 0))) else (none)) else (none)) else (some 0)) = some r := H
                        have A32 := Aside0.mk A320
                        clear A320
                        by_cases c33 : t102 = true
                        · subst c33
                          have H1 : (if 0 ≤ (wrap64 (x3_2 + 2)) then (if (wrap64 (x3_2 + 2)) < (a0.size : Int) then ((abutmentref11_hex.f k2 (bt a0 (wrap64 (x3_2 + 2)))).bind fun t103 => (if t103 = true then (abutmentref11_Name.l1 k2 a0 (wrap64 (x3_2 + 3))) else (some 0))) else (none)) else (none)) = some r := by rw [if_pos rfl] at H; exact H
                          clear H
                          have H := H1
                          clear H1
                          obtain ⟨ji34, hji34⟩ : ∃ j_ : Int, (wrap64 (x3_2 + 2)) = j_ := ⟨_, rfl⟩
                          replace H : (if 0 ≤ (ji34) then (if (ji34) < (a0.size : Int) then ((abutmentref11_hex.f k2 (bt a0 (ji34))).bind fun t103 => (if t103 = true then (abutmentref11_Name.l1 k2 a0 (wrap64 (x3_2 + 3))) else (some 0))) else (none)) else (none)) = some r := by first | (rw [hji34] at H; exact H) | (simp only [hji34] at H ⊢; exact H)
                          (try rw [hji34] at c27b0)
                          (try rw [hji34] at A32)
                          have hji34w : (IntKind.i64.wrap (x3_2 + 2)) = ji34 := (i64_w _).trans hji34
                          by_cases c35 : 0 ≤ (ji34)
                          · rw [if_pos c35] at H
                            have c35b0 : decide (0 ≤ (ji34)) = true := decide_eq_true c35
                            clear c35
                            by_cases c36 : (ji34) < (a0.size : Int)
                            · rw [if_pos c36] at H
                              have c36b0 : decide ((ji34) < (a0.size : Int)) = true := decide_eq_true c36
                              clear c36
                              replace H := Option.bind_eq_some_iff.mp H
                              obtain ⟨t103, A380, H⟩ := H
                              replace H : (if t103 = true then (abutmentref11_Name.l1 k2 a0 (wrap64 (x3_2 + 3))) else (some 0)) = some r := H
                              have A38 := Aside0.mk A380
                              clear A380
                              by_cases c39 : t103 = true
                              · subst c39
                                have H1 : (abutmentref11_Name.l1 k2 a0 (wrap64 (x3_2 + 3))) = some r := by rw [if_pos rfl] at H; exact H
                                clear H
                                have H := H1
                                clear H1
                                have H' := Aside0.mk H
                                clear H
                                have p25 : 0 ≤ (x3_2 : Int) := of_decide_eq_true (by first | (with_reducible assumption) | assumption)
                                have q25 : x3_2 < (a0.size : Int) := of_decide_eq_true (by first | (with_reducible assumption) | assumption)
                                have hx25 := bt_at a0 x3_2
                                replace p25 := eq_true p25
                                replace q25 := eq_true q25
                                have p31 : 0 ≤ ((ji28) : Int) := of_decide_eq_true (by first | (with_reducible assumption) | assumption)
                                have q31 : (ji28) < (a0.size : Int) := of_decide_eq_true (by first | (with_reducible assumption) | assumption)
                                have hx31 := bt_at a0 (ji28)
                                replace p31 := eq_true p31
                                replace q31 := eq_true q31
                                go_wp2_with (first | (go_at_call 70; (with_reducible refine (abutmentref11_hex.calls k2 (bt a0 (ji28)) true _ A32.out).mono ?_); rintro e w' ⟨rfl, ⟨nd, rfl⟩⟩; have p37 : 0 ≤ ((ji34) : Int) := of_decide_eq_true (by first | (with_reducible assumption) | assumption); have q37 : (ji34) < (a0.size : Int) := of_decide_eq_true (by first | (with_reducible assumption) | assumption); have hx37 := bt_at a0 (ji34); replace p37 := eq_true p37; replace q37 := eq_true q37) | (go_at_call 70; (with_reducible refine (abutmentref11_hex.calls k2 (bt a0 (ji34)) true _ A38.out).mono ?_); rintro e w' ⟨rfl, ⟨nd, rfl⟩⟩))
                                go_roundg k2
                                case measure => have := HJ1.out; have := HK2.out; omega
                                case rel => exact ⟨(wrap64 (x3_2 + 3)), (by first | rfl | (simp; done) | (simp [*]; done)), H', ⟨by have := HJ1.out; have := HK2.out; omega⟩, by repeat (first | exact Drawn0.refl _ | apply Drawn0.step)⟩
                              · replace c39 := Bool.eq_false_iff.mpr c39
                                subst c39
                                have H1 : (some 0) = some r := by rw [if_neg (show ¬ (false = true) by decide)] at H; exact H
                                clear H
                                have H := H1
                                clear H1
                                obtain rfl := Option.some.inj H
                                have p25 : 0 ≤ (x3_2 : Int) := of_decide_eq_true (by first | (with_reducible assumption) | assumption)
                                have q25 : x3_2 < (a0.size : Int) := of_decide_eq_true (by first | (with_reducible assumption) | assumption)
                                have hx25 := bt_at a0 x3_2
                                replace p25 := eq_true p25
                                replace q25 := eq_true q25
                                have p31 : 0 ≤ ((ji28) : Int) := of_decide_eq_true (by first | (with_reducible assumption) | assumption)
                                have q31 : (ji28) < (a0.size : Int) := of_decide_eq_true (by first | (with_reducible assumption) | assumption)
                                have hx31 := bt_at a0 (ji28)
                                replace p31 := eq_true p31
                                replace q31 := eq_true q31
                                go_wp2_with (first | (go_at_call 70; (with_reducible refine (abutmentref11_hex.calls k2 (bt a0 (ji28)) true _ A32.out).mono ?_); rintro e w' ⟨rfl, ⟨nd, rfl⟩⟩; have p37 : 0 ≤ ((ji34) : Int) := of_decide_eq_true (by first | (with_reducible assumption) | assumption); have q37 : (ji34) < (a0.size : Int) := of_decide_eq_true (by first | (with_reducible assumption) | assumption); have hx37 := bt_at a0 (ji34); replace p37 := eq_true p37; replace q37 := eq_true q37) | (go_at_call 70; (with_reducible refine (abutmentref11_hex.calls k2 (bt a0 (ji34)) false _ A38.out).mono ?_); rintro e w' ⟨rfl, ⟨nd, rfl⟩⟩))
                                go_ret
                                exact ⟨by first | rfl | (simp; done) | (simp only [← hji28, ← hji34] <;> (first | rfl | simp)) | (simp [*]; done), by repeat (first | exact Drawn0.refl _ | apply Drawn0.step)⟩
                            · rw [if_neg c36] at H
                              exact absurd H (by simp)
                          · rw [if_neg c35] at H
                            exact absurd H (by simp)
                        · replace c33 := Bool.eq_false_iff.mpr c33
                          subst c33
                          have H1 : (some 0) = some r := by rw [if_neg (show ¬ (false = true) by decide)] at H; exact H
                          clear H
                          have H := H1
                          clear H1
                          obtain rfl := Option.some.inj H
                          have p25 : 0 ≤ (x3_2 : Int) := of_decide_eq_true (by first | (with_reducible assumption) | assumption)
                          have q25 : x3_2 < (a0.size : Int) := of_decide_eq_true (by first | (with_reducible assumption) | assumption)
                          have hx25 := bt_at a0 x3_2
                          replace p25 := eq_true p25
                          replace q25 := eq_true q25
                          have p31 : 0 ≤ ((ji28) : Int) := of_decide_eq_true (by first | (with_reducible assumption) | assumption)
                          have q31 : (ji28) < (a0.size : Int) := of_decide_eq_true (by first | (with_reducible assumption) | assumption)
                          have hx31 := bt_at a0 (ji28)
                          replace p31 := eq_true p31
                          replace q31 := eq_true q31
                          go_wp2_with (first | (go_at_call 70; (with_reducible refine (abutmentref11_hex.calls k2 (bt a0 (ji28)) false _ A32.out).mono ?_); rintro e w' ⟨rfl, ⟨nd, rfl⟩⟩))
                          go_ret
                          exact ⟨by first | rfl | (simp; done) | (simp only [← hji28] <;> (first | rfl | simp)) | (simp [*]; done), by repeat (first | exact Drawn0.refl _ | apply Drawn0.step)⟩
                      · rw [if_neg c30] at H
                        exact absurd H (by simp)
                    · rw [if_neg c29] at H
                      exact absurd H (by simp)
                · rw [if_neg c26] at H
                  have c26b0 : ((bt a0 x3_2) == 37) = false := beq_eq_false_iff_ne.mpr c26
                  have c26b1 : ((bt a0 x3_2) != 37) = true := bne_iff_ne.mpr c26
                  have HC40 := Aside0.mk H
                  clear H
                  have p25 : 0 ≤ (x3_2 : Int) := of_decide_eq_true (by first | (with_reducible assumption) | assumption)
                  have q25 : x3_2 < (a0.size : Int) := of_decide_eq_true (by first | (with_reducible assumption) | assumption)
                  have hx25 := bt_at a0 x3_2
                  replace p25 := eq_true p25
                  replace q25 := eq_true q25
                  go_upto_region 15 with (fail)
                  go_cut [5] (fun v5 wc => ∃ (kq : Nat) (x5_39 : Bool), v5 = .bool x5_39 ∧ Aside0 (abutmentref11_Name.j3 kq a0 x3_2 (bt a0 x3_2) x5_39 = some r) ∧ Aside0 (kq ≤ k2) ∧ Drawn0 w wc)
                  case first =>
                    have H := HC40.out
                    clear HC40
                    by_cases c41 : (bt a0 x3_2) ≥ 48
                    · rw [if_pos c41] at H
                      have c41b0 : decide (48 ≤ (bt a0 x3_2)) = true := decide_eq_true c41
                      clear c41
                      (first | rw [c41b0] | (simp only [i64_w, i32_w]; rw [c41b0]) | skip)
                      by_cases c42 : (bt a0 x3_2) ≤ 57
                      · rw [if_pos c42] at H
                        have c42b0 : decide ((bt a0 x3_2) ≤ 57) = true := decide_eq_true c42
                        clear c42
                        have H' := Aside0.mk H
                        clear H
                        go_wp2
                        go_meet
                        case rel => exact ⟨_, (true), (by first | rfl | (simp; done) | (simp [*]; done)), H', ⟨by have := HJ1.out; have := HK2.out; first | omega | exact Nat.le_refl _⟩, by repeat (first | exact Drawn0.refl _ | apply Drawn0.step)⟩
                      · rw [if_neg c42] at H
                        have c42b0 : decide ((bt a0 x3_2) ≤ 57) = false := decide_eq_false c42
                        clear c42
                        by_cases c43 : (bt a0 x3_2) ≥ 65
                        · rw [if_pos c43] at H
                          have c43b0 : decide (65 ≤ (bt a0 x3_2)) = true := decide_eq_true c43
                          clear c43
                          by_cases c44 : (bt a0 x3_2) ≤ 90
                          · rw [if_pos c44] at H
                            have c44b0 : decide ((bt a0 x3_2) ≤ 90) = true := decide_eq_true c44
                            clear c44
                            have H' := Aside0.mk H
                            clear H
                            go_wp2
                            go_meet
                            case rel => exact ⟨_, (true), (by first | rfl | (simp; done) | (simp [*]; done)), H', ⟨by have := HJ1.out; have := HK2.out; first | omega | exact Nat.le_refl _⟩, by repeat (first | exact Drawn0.refl _ | apply Drawn0.step)⟩
                          · rw [if_neg c44] at H
                            have c44b0 : decide ((bt a0 x3_2) ≤ 90) = false := decide_eq_false c44
                            clear c44
                            by_cases c45 : (bt a0 x3_2) ≥ 97
                            · rw [if_pos c45] at H
                              have c45b0 : decide (97 ≤ (bt a0 x3_2)) = true := decide_eq_true c45
                              clear c45
                              have H' := Aside0.mk H
                              clear H
                              go_wp2
                              go_meet
                              case rel => exact ⟨_, (decide ((bt a0 x3_2) ≤ 122)), (by first | rfl | (simp; done) | (simp [*]; done)), H', ⟨by have := HJ1.out; have := HK2.out; first | omega | exact Nat.le_refl _⟩, by repeat (first | exact Drawn0.refl _ | apply Drawn0.step)⟩
                            · rw [if_neg c45] at H
                              have c45b0 : decide (97 ≤ (bt a0 x3_2)) = false := decide_eq_false c45
                              clear c45
                              have H' := Aside0.mk H
                              clear H
                              go_wp2
                              go_meet
                              case rel => exact ⟨_, (false), (by first | rfl | (simp; done) | (simp [*]; done)), H', ⟨by have := HJ1.out; have := HK2.out; first | omega | exact Nat.le_refl _⟩, by repeat (first | exact Drawn0.refl _ | apply Drawn0.step)⟩
                        · rw [if_neg c43] at H
                          have c43b0 : decide (65 ≤ (bt a0 x3_2)) = false := decide_eq_false c43
                          clear c43
                          by_cases c46 : (bt a0 x3_2) ≥ 97
                          · rw [if_pos c46] at H
                            have c46b0 : decide (97 ≤ (bt a0 x3_2)) = true := decide_eq_true c46
                            clear c46
                            have H' := Aside0.mk H
                            clear H
                            go_wp2
                            go_meet
                            case rel => exact ⟨_, (decide ((bt a0 x3_2) ≤ 122)), (by first | rfl | (simp; done) | (simp [*]; done)), H', ⟨by have := HJ1.out; have := HK2.out; first | omega | exact Nat.le_refl _⟩, by repeat (first | exact Drawn0.refl _ | apply Drawn0.step)⟩
                          · rw [if_neg c46] at H
                            have c46b0 : decide (97 ≤ (bt a0 x3_2)) = false := decide_eq_false c46
                            clear c46
                            have H' := Aside0.mk H
                            clear H
                            go_wp2
                            go_meet
                            case rel => exact ⟨_, (false), (by first | rfl | (simp; done) | (simp [*]; done)), H', ⟨by have := HJ1.out; have := HK2.out; first | omega | exact Nat.le_refl _⟩, by repeat (first | exact Drawn0.refl _ | apply Drawn0.step)⟩
                    · rw [if_neg c41] at H
                      have c41b0 : decide (48 ≤ (bt a0 x3_2)) = false := decide_eq_false c41
                      clear c41
                      (first | rw [c41b0] | (simp only [i64_w, i32_w]; rw [c41b0]) | skip)
                      by_cases c47 : (bt a0 x3_2) ≥ 65
                      · rw [if_pos c47] at H
                        have c47b0 : decide (65 ≤ (bt a0 x3_2)) = true := decide_eq_true c47
                        clear c47
                        by_cases c48 : (bt a0 x3_2) ≤ 90
                        · rw [if_pos c48] at H
                          have c48b0 : decide ((bt a0 x3_2) ≤ 90) = true := decide_eq_true c48
                          clear c48
                          have H' := Aside0.mk H
                          clear H
                          go_wp2
                          go_meet
                          case rel => exact ⟨_, (true), (by first | rfl | (simp; done) | (simp [*]; done)), H', ⟨by have := HJ1.out; have := HK2.out; first | omega | exact Nat.le_refl _⟩, by repeat (first | exact Drawn0.refl _ | apply Drawn0.step)⟩
                        · rw [if_neg c48] at H
                          have c48b0 : decide ((bt a0 x3_2) ≤ 90) = false := decide_eq_false c48
                          clear c48
                          by_cases c49 : (bt a0 x3_2) ≥ 97
                          · rw [if_pos c49] at H
                            have c49b0 : decide (97 ≤ (bt a0 x3_2)) = true := decide_eq_true c49
                            clear c49
                            have H' := Aside0.mk H
                            clear H
                            go_wp2
                            go_meet
                            case rel => exact ⟨_, (decide ((bt a0 x3_2) ≤ 122)), (by first | rfl | (simp; done) | (simp [*]; done)), H', ⟨by have := HJ1.out; have := HK2.out; first | omega | exact Nat.le_refl _⟩, by repeat (first | exact Drawn0.refl _ | apply Drawn0.step)⟩
                          · rw [if_neg c49] at H
                            have c49b0 : decide (97 ≤ (bt a0 x3_2)) = false := decide_eq_false c49
                            clear c49
                            have H' := Aside0.mk H
                            clear H
                            go_wp2
                            go_meet
                            case rel => exact ⟨_, (false), (by first | rfl | (simp; done) | (simp [*]; done)), H', ⟨by have := HJ1.out; have := HK2.out; first | omega | exact Nat.le_refl _⟩, by repeat (first | exact Drawn0.refl _ | apply Drawn0.step)⟩
                      · rw [if_neg c47] at H
                        have c47b0 : decide (65 ≤ (bt a0 x3_2)) = false := decide_eq_false c47
                        clear c47
                        by_cases c50 : (bt a0 x3_2) ≥ 97
                        · rw [if_pos c50] at H
                          have c50b0 : decide (97 ≤ (bt a0 x3_2)) = true := decide_eq_true c50
                          clear c50
                          have H' := Aside0.mk H
                          clear H
                          go_wp2
                          go_meet
                          case rel => exact ⟨_, (decide ((bt a0 x3_2) ≤ 122)), (by first | rfl | (simp; done) | (simp [*]; done)), H', ⟨by have := HJ1.out; have := HK2.out; first | omega | exact Nat.le_refl _⟩, by repeat (first | exact Drawn0.refl _ | apply Drawn0.step)⟩
                        · rw [if_neg c50] at H
                          have c50b0 : decide (97 ≤ (bt a0 x3_2)) = false := decide_eq_false c50
                          clear c50
                          have H' := Aside0.mk H
                          clear H
                          go_wp2
                          go_meet
                          case rel => exact ⟨_, (false), (by first | rfl | (simp; done) | (simp [*]; done)), H', ⟨by have := HJ1.out; have := HK2.out; first | omega | exact Nat.le_refl _⟩, by repeat (first | exact Drawn0.refl _ | apply Drawn0.step)⟩
                  case rest =>
                    clear HC40
                    try clear c1
                    try clear p1
                    try clear q1
                    try clear hx1
                    try clear c2
                    try clear p2
                    try clear q2
                    try clear hx2
                    try clear c3
                    try clear c3b0
                    try clear c3b1
                    try clear p3
                    try clear q3
                    try clear hx3
                    try clear c4
                    try clear c4b0
                    try clear c4b1
                    try clear c5
                    try clear p5
                    try clear q5
                    try clear hx5
                    try clear qi5
                    try clear c6
                    try clear p6
                    try clear c7
                    try clear c7b0
                    try clear c8
                    try clear c8b0
                    try clear p9
                    try clear q9
                    try clear hx9
                    try clear c11
                    try clear p12
                    try clear q12
                    try clear hx12
                    try clear c13
                    try clear c13b0
                    try clear c13b1
                    try clear p14
                    try clear q14
                    try clear hx14
                    try clear c15
                    try clear c15b0
                    try clear c15b1
                    try clear c16
                    try clear c16b0
                    try clear c16b1
                    try clear c17
                    try clear c17b0
                    try clear c17b1
                    try clear p18
                    try clear q18
                    try clear hx18
                    try clear c19
                    try clear c19b0
                    try clear c19b1
                    try clear c20
                    try clear c20b0
                    try clear c20b1
                    try clear c21
                    try clear c21b0
                    try clear c21b1
                    try clear c22
                    try clear c23
                    try clear c23b0
                    try clear c24
                    try clear c24b0
                    try clear p25
                    try clear q25
                    try clear hx25
                    try clear c26
                    try clear c26b0
                    try clear c26b1
                    try clear c27
                    try clear c27b0
                    try clear c29
                    try clear c29b0
                    try clear c30
                    try clear c30b0
                    try clear p31
                    try clear q31
                    try clear hx31
                    try clear c33
                    try clear c35
                    try clear c35b0
                    try clear c36
                    try clear c36b0
                    try clear p37
                    try clear q37
                    try clear hx37
                    try clear c39
                    try clear c41
                    try clear c41b0
                    try clear c42
                    try clear c42b0
                    try clear c43
                    try clear c43b0
                    try clear c44
                    try clear c44b0
                    try clear c45
                    try clear c45b0
                    try clear c46
                    try clear c46b0
                    try clear c47
                    try clear c47b0
                    try clear c48
                    try clear c48b0
                    try clear c49
                    try clear c49b0
                    try clear c50
                    try clear c50b0
                    try clear p1
                    try clear p12
                    try clear p14
                    try clear p18
                    try clear p2
                    try clear p25
                    try clear p31
                    try clear p37
                    try clear p5
                    try clear p6
                    try clear p9
                    try clear q1
                    try clear q12
                    try clear q14
                    try clear q18
                    try clear q25
                    try clear q31
                    try clear q37
                    try clear q5
                    try clear q9
                    obtain ⟨kq, x5_39, rfl, HA, HJ39, ⟨mc39, rfl⟩⟩ := hcut
                    cases kq with
                    | zero => exact absurd HA.out (by simp [abutmentref11_Name.j3])
                    | succ kj39 =>
                      have H := HA.out
                      clear HA
                      simp only [abutmentref11_Name.j3] at H
                      have H' := Aside0.mk H
                      clear H
                      go_wp2
                      go_loopg [5, 7] kj39 (fun kq v5 v7 w' => ∃ (x5_4 : Bool) (x7_4 : Int), v5 = .bool x5_4 ∧ v7 = .int .i64 x7_4 ∧ Aside0 (abutmentref11_Name.l2 kq a0 x3_2 (bt a0 x3_2) x5_4 (⟨#[45, 46, 95, 126, 33, 36, 38, 39, 40, 41, 42, 43, 44, 59, 61]⟩ : ByteArray) x7_4 = some r) ∧ Aside0 (kq ≤ kj39) ∧ Drawn0 w w')
                      case atStart => exact ⟨(x5_39), (0), (by first | rfl | (simp; done) | (simp [*]; done)), (by first | rfl | (simp; done) | (simp [*]; done)), H', ⟨Nat.le_refl _⟩, by repeat (first | exact Drawn0.refl _ | apply Drawn0.step)⟩
                      case round =>
                        clear H'
                        try clear c1
                        try clear p1
                        try clear q1
                        try clear hx1
                        try clear c2
                        try clear p2
                        try clear q2
                        try clear hx2
                        try clear c3
                        try clear c3b0
                        try clear c3b1
                        try clear p3
                        try clear q3
                        try clear hx3
                        try clear c4
                        try clear c4b0
                        try clear c4b1
                        try clear c5
                        try clear p5
                        try clear q5
                        try clear hx5
                        try clear qi5
                        try clear c6
                        try clear p6
                        try clear c7
                        try clear c7b0
                        try clear c8
                        try clear c8b0
                        try clear p9
                        try clear q9
                        try clear hx9
                        try clear c11
                        try clear p12
                        try clear q12
                        try clear hx12
                        try clear c13
                        try clear c13b0
                        try clear c13b1
                        try clear p14
                        try clear q14
                        try clear hx14
                        try clear c15
                        try clear c15b0
                        try clear c15b1
                        try clear c16
                        try clear c16b0
                        try clear c16b1
                        try clear c17
                        try clear c17b0
                        try clear c17b1
                        try clear p18
                        try clear q18
                        try clear hx18
                        try clear c19
                        try clear c19b0
                        try clear c19b1
                        try clear c20
                        try clear c20b0
                        try clear c20b1
                        try clear c21
                        try clear c21b0
                        try clear c21b1
                        try clear c22
                        try clear c23
                        try clear c23b0
                        try clear c24
                        try clear c24b0
                        try clear p25
                        try clear q25
                        try clear hx25
                        try clear c26
                        try clear c26b0
                        try clear c26b1
                        try clear c27
                        try clear c27b0
                        try clear c29
                        try clear c29b0
                        try clear c30
                        try clear c30b0
                        try clear p31
                        try clear q31
                        try clear hx31
                        try clear c33
                        try clear c35
                        try clear c35b0
                        try clear c36
                        try clear c36b0
                        try clear p37
                        try clear q37
                        try clear hx37
                        try clear c39
                        try clear c41
                        try clear c41b0
                        try clear c42
                        try clear c42b0
                        try clear c43
                        try clear c43b0
                        try clear c44
                        try clear c44b0
                        try clear c45
                        try clear c45b0
                        try clear c46
                        try clear c46b0
                        try clear c47
                        try clear c47b0
                        try clear c48
                        try clear c48b0
                        try clear c49
                        try clear c49b0
                        try clear c50
                        try clear c50b0
                        try clear p1
                        try clear p12
                        try clear p14
                        try clear p18
                        try clear p2
                        try clear p25
                        try clear p3
                        try clear p31
                        try clear p37
                        try clear p5
                        try clear p6
                        try clear p9
                        try clear q1
                        try clear q12
                        try clear q14
                        try clear q18
                        try clear q2
                        try clear q25
                        try clear q3
                        try clear q31
                        try clear q37
                        try clear q5
                        try clear q9
                        obtain ⟨x5_4, x7_4, rfl, rfl, HA, HK4, ⟨m4, rfl⟩⟩ := hrel
                        cases gk with
                        | zero => exact absurd HA.out (by simp [abutmentref11_Name.l2])
                        | succ k4 =>
                          have H := HA.out
                          clear HA
                          simp only [abutmentref11_Name.l2] at H
                          by_cases c51 : x7_4 < ((⟨#[45, 46, 95, 126, 33, 36, 38, 39, 40, 41, 42, 43, 44, 59, 61]⟩ : ByteArray).size : Int)
                          · rw [if_pos c51] at H
                            have c51b0 : decide (x7_4 < ((⟨#[45, 46, 95, 126, 33, 36, 38, 39, 40, 41, 42, 43, 44, 59, 61]⟩ : ByteArray).size : Int)) = true := decide_eq_true c51
                            try have c51b09 : decide (x7_4 < (15 : Int)) = true := c51b0
                            clear c51
                            by_cases c52 : x5_4 = true
                            · subst c52
                              have H1 : (abutmentref11_Name.l2 k4 a0 x3_2 (bt a0 x3_2) true (⟨#[45, 46, 95, 126, 33, 36, 38, 39, 40, 41, 42, 43, 44, 59, 61]⟩ : ByteArray) (wrap64 (x7_4 + 1))) = some r := by rw [if_pos rfl] at H; exact H
                              clear H
                              have H := H1
                              clear H1
                              have H' := Aside0.mk H
                              clear H
                              go_wp2
                              go_roundg k4
                              case measure => have := HJ1.out; have := HK2.out; have := HJ39.out; have := HK4.out; omega
                              case rel => exact ⟨(true), (wrap64 (x7_4 + 1)), (by first | rfl | (simp; done) | (simp [*]; done)), (by first | rfl | (simp; done) | (simp [*]; done)), H', ⟨by have := HJ1.out; have := HK2.out; have := HJ39.out; have := HK4.out; omega⟩, by repeat (first | exact Drawn0.refl _ | apply Drawn0.step)⟩
                            · replace c52 := Bool.eq_false_iff.mpr c52
                              subst c52
                              have H1 : (if 0 ≤ x7_4 then (abutmentref11_Name.l2 k4 a0 x3_2 (bt a0 x3_2) ((bt (⟨#[45, 46, 95, 126, 33, 36, 38, 39, 40, 41, 42, 43, 44, 59, 61]⟩ : ByteArray) x7_4) == (bt a0 x3_2)) (⟨#[45, 46, 95, 126, 33, 36, 38, 39, 40, 41, 42, 43, 44, 59, 61]⟩ : ByteArray) (wrap64 (x7_4 + 1))) else (none)) = some r := by rw [if_neg (show ¬ (false = true) by decide)] at H; exact H
                              clear H
                              have H := H1
                              clear H1
                              by_cases c53 : 0 ≤ x7_4
                              · rw [if_pos c53] at H
                                have c53b0 : decide (0 ≤ x7_4) = true := decide_eq_true c53
                                clear c53
                                have H' := Aside0.mk H
                                clear H
                                have p54 : 0 ≤ (x7_4 : Int) := of_decide_eq_true (by first | (with_reducible assumption) | assumption)
                                have q54 : x7_4 < (15 : Int) := of_decide_eq_true (by first | (with_reducible assumption) | assumption)
                                have hx54 := bt_at (⟨#[45, 46, 95, 126, 33, 36, 38, 39, 40, 41, 42, 43, 44, 59, 61]⟩ : ByteArray) x7_4
                                replace p54 := eq_true p54
                                replace q54 := eq_true q54
                                go_wp2
                                go_roundg k4
                                case measure => have := HJ1.out; have := HK2.out; have := HJ39.out; have := HK4.out; omega
                                case rel => exact ⟨(((bt (⟨#[45, 46, 95, 126, 33, 36, 38, 39, 40, 41, 42, 43, 44, 59, 61]⟩ : ByteArray) x7_4) == (bt a0 x3_2))), (wrap64 (x7_4 + 1)), (by first | rfl | (simp; done) | (simp [*]; done)), (by first | rfl | (simp; done) | (simp [*]; done)), H', ⟨by have := HJ1.out; have := HK2.out; have := HJ39.out; have := HK4.out; omega⟩, by repeat (first | exact Drawn0.refl _ | apply Drawn0.step)⟩
                              · rw [if_neg c53] at H
                                exact absurd H (by simp)
                          · rw [if_neg c51] at H
                            have c51b0 : decide (x7_4 < ((⟨#[45, 46, 95, 126, 33, 36, 38, 39, 40, 41, 42, 43, 44, 59, 61]⟩ : ByteArray).size : Int)) = false := decide_eq_false c51
                            try have c51b09 : decide (x7_4 < (15 : Int)) = false := c51b0
                            clear c51
                            by_cases c55 : x5_4 = true
                            · subst c55
                              have H1 : (abutmentref11_Name.l1 k4 a0 (wrap64 (x3_2 + 1))) = some r := by rw [if_pos rfl] at H; exact H
                              clear H
                              have H := H1
                              clear H1
                              have H' := Aside0.mk H
                              clear H
                              go_wp2
                              go_roundg k4
                              case measure => have := HJ1.out; have := HK2.out; have := HJ39.out; have := HK4.out; omega
                              case rel => exact ⟨(wrap64 (x3_2 + 1)), (by first | rfl | (simp; done) | (simp [*]; done)), H', ⟨by have := HJ1.out; have := HK2.out; have := HJ39.out; have := HK4.out; omega⟩, by repeat (first | exact Drawn0.refl _ | apply Drawn0.step)⟩
                            · replace c55 := Bool.eq_false_iff.mpr c55
                              subst c55
                              have H1 : (some x3_2) = some r := by rw [if_neg (show ¬ (false = true) by decide)] at H; exact H
                              clear H
                              have H := H1
                              clear H1
                              obtain rfl := Option.some.inj H
                              go_wp2
                              go_ret
                              exact ⟨by first | rfl | (simp; done) | (simp [*]; done), by repeat (first | exact Drawn0.refl _ | apply Drawn0.step)⟩
              · rw [if_neg c24] at H
                exact absurd H (by simp)
            · rw [if_neg c23] at H
              have c23b0 : decide (x3_2 < (a0.size : Int)) = false := decide_eq_false c23
              clear c23
              obtain rfl := Option.some.inj H
              go_wp2
              go_ret
              exact ⟨by first | rfl | (simp; done) | (simp [*]; done), by repeat (first | exact Drawn0.refl _ | apply Drawn0.step)⟩

end Go.Proofs.YtdjmgmiaognncaaDoor.X
namespace Go.Proofs.YtdjmgmiaognncaaDoor.X
open Go.RowKit Go.Proofs.YtdjmgmiaognncaaDoorW.PrintWords Go.Proofs.YtdjmgmiaognncaaDoorW.PrintLast Go.Proofs.YtdjmgmiaognncaaDoorW.PrintMore
attribute [local go_sem] max2_int min2_int max_two min_two max_three min_three max_four min_four   -- for this text's walks alone
set_option linter.unusedVariables false
set_option linter.unusedSimpArgs false

/-! ### abutmentref02_Number: function 28 -/
mutual
def abutmentref02_Number.l0 : Nat → ByteArray → Int → Int → Int → Option (Int × Int)
  | 0, _, _, _, _ => none
  | k + 1, x0, x1, x2, x8 => if x8 < (x0.size : Int) then (if 0 ≤ x8 then ((abutmentref02_Value.f k (bt x0 x8)).bind fun t101 => (if t101 ≥ x1 then (some (0, 3)) else (abutmentref02_Number.l0 k x0 x1 x2 (wrap64 (x8 + 1))))) else (none)) else (abutmentref02_Number.l1 k x0 x1 x2)
def abutmentref02_Number.j2 : Nat → ByteArray → Int → Int → Option (Int × Int)
  | 0, _, _, _ => none
  | k + 1, x0, x1, x2 => if (x0.size : Int) > 19 then (some (0, 5)) else (abutmentref02_Number.l2 k x0 x1 x2 0 0)
def abutmentref02_Number.l2 : Nat → ByteArray → Int → Int → Int → Int → Option (Int × Int)
  | 0, _, _, _, _, _ => none
  | k + 1, x0, x1, x2, x9, x10 => if x10 < (x0.size : Int) then (if x9 > 1152921504606846975 then (some (0, 5)) else (if 0 ≤ x10 then ((abutmentref02_Value.f k (bt x0 x10)).bind fun t102 => (abutmentref02_Number.l2 k x0 x1 x2 (IntKind.u64.wrap ((IntKind.u64.wrap (x9 * (IntKind.u64.wrap (x1)))) + (IntKind.u64.wrap (t102)))) (wrap64 (x10 + 1)))) else (none))) else (if x2 < 0 then (some (0, 5)) else (if x9 > (IntKind.u64.wrap (x2)) then (some (0, 5)) else (some (wrap64 (x9), 0))))
def abutmentref02_Number.l1 : Nat → ByteArray → Int → Int → Option (Int × Int)
  | 0, _, _, _ => none
  | k + 1, x0, x1, x2 => if (x0.size : Int) > 1 then (if 0 < (x0.size : Int) then (if (bt x0 0) = 48 then (if 1 ≤ (x0.size : Int) then (abutmentref02_Number.l1 k (x0.extract 1 x0.size) x1 x2) else (none)) else (abutmentref02_Number.j2 k x0 x1 x2)) else (none)) else (abutmentref02_Number.j2 k x0 x1 x2)
end
def abutmentref02_Number.f (k : Nat) (a0 : ByteArray) (a1 : Int) (a2 : Int) : Option (Int × Int) := if (a0.size : Int) = 0 then (some (0, 2)) else (abutmentref02_Number.l0 k a0 a1 a2 0)
set_option maxHeartbeats 8000000 in
set_option maxRecDepth 100000 in
theorem abutmentref02_Number.calls (k : Nat) (a0 : ByteArray) (a1 : Int) (a2 : Int) (r1 : Int) (r2 : Int) (w : World) (h : abutmentref02_Number.f k a0 a1 a2 = some (r1, r2)) :
    Calls Tryd.prog 28 #[.string a0, .int .i64 a1, .int .i64 a2] w fun e w' => e = .returned (.tuple #[.int .i64 r1, .int .i64 r2]) ∧ Drawn0 w w' := by
  have H : (if (a0.size : Int) = 0 then (some (0, 2)) else (abutmentref02_Number.l0 k a0 a1 a2 0)) = some (r1, r2) := h
  clear h
  by_cases c4 : (a0.size : Int) = 0
  · rw [if_pos c4] at H
    have c4b0 : ((a0.size : Int) == 0) = true := beq_iff_eq.mpr c4
    have c4b1 : ((a0.size : Int) != 0) = false := bne_eq_false_iff_eq.mpr c4
    clear c4
    simp only [Option.some.injEq, Prod.mk.injEq] at H
    obtain ⟨rfl, rfl⟩ := H
    go_enter Tryd.func28, Tryd.ntmps28
    go_wp2
    go_ret2
    exact ⟨by first | rfl | (simp; done) | (simp [*]; done), by repeat (first | exact Drawn0.refl _ | apply Drawn0.step)⟩
  · rw [if_neg c4] at H
    have c4b0 : ((a0.size : Int) == 0) = false := beq_eq_false_iff_ne.mpr c4
    have c4b1 : ((a0.size : Int) != 0) = true := bne_iff_ne.mpr c4
    have H' := Aside0.mk H
    clear H
    go_enter Tryd.func28, Tryd.ntmps28
    go_wp2
    go_loopg [8] k (fun kq v8 w' => ∃ (x8_1 : Int), v8 = .int .i64 x8_1 ∧ Aside0 (abutmentref02_Number.l0 kq a0 a1 a2 x8_1 = some (r1, r2)) ∧ Aside0 (kq ≤ k) ∧ Drawn0 w w')
    case atStart => exact ⟨(0), (by first | rfl | (simp; done) | (simp [*]; done)), H', ⟨Nat.le_refl _⟩, by repeat (first | exact Drawn0.refl _ | apply Drawn0.step)⟩
    case round =>
      clear H'
      try clear c2
      try clear p2
      try clear c4
      try clear c4b0
      try clear c4b1
      obtain ⟨x8_1, rfl, HA, HK1, ⟨m1, rfl⟩⟩ := hrel
      cases gk with
      | zero => exact absurd HA.out (by simp [abutmentref02_Number.l0])
      | succ k1 =>
        have H := HA.out
        clear HA
        simp only [abutmentref02_Number.l0] at H
        by_cases c5 : x8_1 < (a0.size : Int)
        · rw [if_pos c5] at H
          have c5b0 : decide (x8_1 < (a0.size : Int)) = true := decide_eq_true c5
          clear c5
          by_cases c6 : 0 ≤ x8_1
          · rw [if_pos c6] at H
            have c6b0 : decide (0 ≤ x8_1) = true := decide_eq_true c6
            clear c6
            replace H := Option.bind_eq_some_iff.mp H
            obtain ⟨t101, A80, H⟩ := H
            replace H : (if t101 ≥ a1 then (some (0, 3)) else (abutmentref02_Number.l0 k1 a0 a1 a2 (wrap64 (x8_1 + 1)))) = some (r1, r2) := H
            have A8 := Aside0.mk A80
            clear A80
            by_cases c9 : t101 ≥ a1
            · rw [if_pos c9] at H
              have c9b0 : decide (a1 ≤ t101) = true := decide_eq_true c9
              clear c9
              simp only [Option.some.injEq, Prod.mk.injEq] at H
              obtain ⟨rfl, rfl⟩ := H
              have p7 : 0 ≤ (x8_1 : Int) := of_decide_eq_true (by first | (with_reducible assumption) | assumption)
              have q7 : x8_1 < (a0.size : Int) := of_decide_eq_true (by first | (with_reducible assumption) | assumption)
              have hx7 := bt_at a0 x8_1
              replace p7 := eq_true p7
              replace q7 := eq_true q7
              go_wp2_with (first | ((with_reducible refine gate_callee (f := 44) rfl ?_); refine goesL_ (some 23) rfl rfl Tryd.func44 (by kernel_rfl) rfl #[.int .u8 (bt a0 x8_1)] rfl (by (try simp only [List.map_toArray, List.map_cons, List.map_nil]); first | done | rfl | (simp only [List.length_drop, List.length_take]; rfl)) ?_; (with_reducible refine (abutmentref02_Value.calls k1 (bt a0 x8_1) t101 _ A8.out).mono ?_); rintro e w' ⟨rfl, ⟨nd, rfl⟩⟩; refine ⟨_, rfl, ?_⟩))
              go_ret2
              exact ⟨by first | rfl | (simp; done) | (simp [*]; done), by repeat (first | exact Drawn0.refl _ | apply Drawn0.step)⟩
            · rw [if_neg c9] at H
              have c9b0 : decide (a1 ≤ t101) = false := decide_eq_false c9
              clear c9
              have H' := Aside0.mk H
              clear H
              have p7 : 0 ≤ (x8_1 : Int) := of_decide_eq_true (by first | (with_reducible assumption) | assumption)
              have q7 : x8_1 < (a0.size : Int) := of_decide_eq_true (by first | (with_reducible assumption) | assumption)
              have hx7 := bt_at a0 x8_1
              replace p7 := eq_true p7
              replace q7 := eq_true q7
              go_wp2_with (first | ((with_reducible refine gate_callee (f := 44) rfl ?_); refine goesL_ (some 23) rfl rfl Tryd.func44 (by kernel_rfl) rfl #[.int .u8 (bt a0 x8_1)] rfl (by (try simp only [List.map_toArray, List.map_cons, List.map_nil]); first | done | rfl | (simp only [List.length_drop, List.length_take]; rfl)) ?_; (with_reducible refine (abutmentref02_Value.calls k1 (bt a0 x8_1) t101 _ A8.out).mono ?_); rintro e w' ⟨rfl, ⟨nd, rfl⟩⟩; refine ⟨_, rfl, ?_⟩))
              go_roundg k1
              case measure => have := HK1.out; omega
              case rel => exact ⟨(wrap64 (x8_1 + 1)), (by first | rfl | (simp; done) | (simp [*]; done)), H', ⟨by have := HK1.out; omega⟩, by repeat (first | exact Drawn0.refl _ | apply Drawn0.step)⟩
          · rw [if_neg c6] at H
            exact absurd H (by simp)
        · rw [if_neg c5] at H
          have c5b0 : decide (x8_1 < (a0.size : Int)) = false := decide_eq_false c5
          clear c5
          have HC10 := Aside0.mk H
          clear H
          go_upto_block 2 with (fail)
          go_cut [0] (fun v0 wc => ∃ (kq : Nat) (x0_9 : ByteArray), v0 = .string x0_9 ∧ Aside0 (abutmentref02_Number.j2 kq x0_9 a1 a2 = some (r1, r2)) ∧ Aside0 (kq ≤ k1) ∧ Drawn0 w wc)
          case first =>
            have H := HC10.out
            clear HC10
            have H' := Aside0.mk H
            clear H
            go_wp2
            go_loopg [0] k1 (fun kq v0 w' => ∃ (x0_2 : ByteArray), v0 = .string x0_2 ∧ Aside0 (abutmentref02_Number.l1 kq x0_2 a1 a2 = some (r1, r2)) ∧ Aside0 (kq ≤ k1) ∧ Drawn0 w w')
            case atStart => exact ⟨(a0), (by first | rfl | (simp; done) | (simp [*]; done)), H', ⟨Nat.le_refl _⟩, by repeat (first | exact Drawn0.refl _ | apply Drawn0.step)⟩
            case round =>
              clear H'
              try clear c2
              try clear p2
              try clear c4
              try clear c4b0
              try clear c4b1
              try clear c5
              try clear c5b0
              try clear c6
              try clear c6b0
              try clear p6
              try clear p7
              try clear q7
              try clear hx7
              try clear c9
              try clear c9b0
              try clear p2
              try clear p7
              try clear q7
              obtain ⟨x0_2, rfl, HA, HK2, ⟨m2, rfl⟩⟩ := hrel
              cases gk with
              | zero => exact absurd HA.out (by simp [abutmentref02_Number.l1])
              | succ k2 =>
                have H := HA.out
                clear HA
                simp only [abutmentref02_Number.l1] at H
                by_cases c11 : (x0_2.size : Int) > 1
                · rw [if_pos c11] at H
                  have c11b0 : decide (1 < (x0_2.size : Int)) = true := decide_eq_true c11
                  have c11b1 : decide (1 < x0_2.size) = true := decide_eq_true (by omega)
                  clear c11
                  (first | rw [c11b0] | (simp only [i64_w, i32_w]; rw [c11b0]) | skip)
                  by_cases c12 : 0 < (x0_2.size : Int)
                  · rw [if_pos c12] at H
                    have c12b0 : decide (0 < (x0_2.size : Int)) = true := decide_eq_true c12
                    have c12b1 : decide (0 < x0_2.size) = true := decide_eq_true (by omega)
                    clear c12
                    by_cases c14 : (bt x0_2 0) = 48
                    · rw [if_pos c14] at H
                      have c14b0 : ((bt x0_2 0) == 48) = true := beq_iff_eq.mpr c14
                      have c14b1 : ((bt x0_2 0) != 48) = false := bne_eq_false_iff_eq.mpr c14
                      clear c14
                      by_cases c15 : 1 ≤ (x0_2.size : Int)
                      · rw [if_pos c15] at H
                        have c15b0 := eq_true c15
                        have c15b1 : decide (1 ≤ (x0_2.size : Int)) = true := decide_eq_true c15
                        clear c15
                        have H' := Aside0.mk H
                        clear H
                        have p13 : 0 ≤ (0 : Int) := (by omega)
                        have q13 : 0 < x0_2.size := (by have : (0 : Int) < (x0_2.size : Int) := of_decide_eq_true (by first | (with_reducible assumption) | assumption); omega)
                        have hx13 : ∀ h : 0 < x0_2.size, ((x0_2[0]'h).toNat : Int) = bt x0_2 0 := bt_at x0_2 0
                        clear p13
                        have qi13 : (0 < (x0_2.size : Int)) = True := eq_true (of_decide_eq_true (by first | (with_reducible assumption) | assumption))
                        replace q13 := eq_true q13
                        go_wp2
                        go_roundg k2
                        case measure => have := HK1.out; have := HK2.out; omega
                        case rel => exact ⟨(x0_2.extract 1 x0_2.size), (by first | rfl | (simp; done) | (simp [*]; done)), H', ⟨by have := HK1.out; have := HK2.out; omega⟩, by repeat (first | exact Drawn0.refl _ | apply Drawn0.step)⟩
                      · rw [if_neg c15] at H
                        exact absurd H (by simp)
                    · rw [if_neg c14] at H
                      have c14b0 : ((bt x0_2 0) == 48) = false := beq_eq_false_iff_ne.mpr c14
                      have c14b1 : ((bt x0_2 0) != 48) = true := bne_iff_ne.mpr c14
                      have H' := Aside0.mk H
                      clear H
                      have p13 : 0 ≤ (0 : Int) := (by omega)
                      have q13 : 0 < x0_2.size := (by have : (0 : Int) < (x0_2.size : Int) := of_decide_eq_true (by first | (with_reducible assumption) | assumption); omega)
                      have hx13 : ∀ h : 0 < x0_2.size, ((x0_2[0]'h).toNat : Int) = bt x0_2 0 := bt_at x0_2 0
                      clear p13
                      have qi13 : (0 < (x0_2.size : Int)) = True := eq_true (of_decide_eq_true (by first | (with_reducible assumption) | assumption))
                      replace q13 := eq_true q13
                      go_wp2
                      go_meet
                      case rel => exact ⟨_, (x0_2), (by first | rfl | (simp; done) | (simp [*]; done)), H', ⟨by have := HK1.out; have := HK2.out; first | omega | exact Nat.le_refl _⟩, by repeat (first | exact Drawn0.refl _ | apply Drawn0.step)⟩
                  · rw [if_neg c12] at H
                    exact absurd H (by simp)
                · rw [if_neg c11] at H
                  have c11b0 : decide (1 < (x0_2.size : Int)) = false := decide_eq_false c11
                  have c11b1 : decide (1 < x0_2.size) = false := decide_eq_false (by omega)
                  clear c11
                  (first | rw [c11b0] | (simp only [i64_w, i32_w]; rw [c11b0]) | skip)
                  have H' := Aside0.mk H
                  clear H
                  go_wp2
                  go_meet
                  case rel => exact ⟨_, (x0_2), (by first | rfl | (simp; done) | (simp [*]; done)), H', ⟨by have := HK1.out; have := HK2.out; first | omega | exact Nat.le_refl _⟩, by repeat (first | exact Drawn0.refl _ | apply Drawn0.step)⟩
          case rest =>
            clear HC10
            try clear c1
            try clear p1
            try clear q1
            try clear hx1
            try clear qi1
            try clear c2
            try clear p2
            try clear c4
            try clear c4b0
            try clear c4b1
            try clear c5
            try clear c5b0
            try clear c6
            try clear c6b0
            try clear p6
            try clear p7
            try clear q7
            try clear hx7
            try clear c9
            try clear c9b0
            try clear c11
            try clear c11b0
            try clear c11b1
            try clear c12
            try clear c12b0
            try clear c12b1
            try clear p13
            try clear q13
            try clear hx13
            try clear qi13
            try clear c14
            try clear c14b0
            try clear c14b1
            try clear c15
            try clear c15b0
            try clear c15b1
            try clear p13
            try clear p2
            try clear p6
            try clear p7
            try clear q13
            try clear q7
            obtain ⟨kq, x0_9, rfl, HA, HJ9, ⟨mc9, rfl⟩⟩ := hcut
            cases kq with
            | zero => exact absurd HA.out (by simp [abutmentref02_Number.j2])
            | succ kj9 =>
              have H := HA.out
              clear HA
              simp only [abutmentref02_Number.j2] at H
              by_cases c16 : (x0_9.size : Int) > 19
              · rw [if_pos c16] at H
                have c16b0 : decide (19 < (x0_9.size : Int)) = true := decide_eq_true c16
                have c16b1 : decide (19 < x0_9.size) = true := decide_eq_true (by omega)
                clear c16
                simp only [Option.some.injEq, Prod.mk.injEq] at H
                obtain ⟨rfl, rfl⟩ := H
                go_wp2
                go_ret2
                exact ⟨by first | rfl | (simp; done) | (simp [*]; done), by repeat (first | exact Drawn0.refl _ | apply Drawn0.step)⟩
              · rw [if_neg c16] at H
                have c16b0 : decide (19 < (x0_9.size : Int)) = false := decide_eq_false c16
                have c16b1 : decide (19 < x0_9.size) = false := decide_eq_false (by omega)
                clear c16
                have H' := Aside0.mk H
                clear H
                go_wp2
                go_loopg [9, 10] kj9 (fun kq v9 v10 w' => ∃ (x9_3 : Int) (x10_3 : Int), v9 = .int .u64 x9_3 ∧ v10 = .int .i64 x10_3 ∧ Aside0 (abutmentref02_Number.l2 kq x0_9 a1 a2 x9_3 x10_3 = some (r1, r2)) ∧ Aside0 (kq ≤ kj9) ∧ Drawn0 w w')
                case atStart => exact ⟨(0), (0), (by first | rfl | (simp; done) | (simp [*]; done)), (by first | rfl | (simp; done) | (simp [*]; done)), H', ⟨Nat.le_refl _⟩, by repeat (first | exact Drawn0.refl _ | apply Drawn0.step)⟩
                case round =>
                  clear H'
                  try clear c1
                  try clear p1
                  try clear q1
                  try clear hx1
                  try clear qi1
                  try clear c2
                  try clear p2
                  try clear c4
                  try clear c4b0
                  try clear c4b1
                  try clear c5
                  try clear c5b0
                  try clear c6
                  try clear c6b0
                  try clear p6
                  try clear p7
                  try clear q7
                  try clear hx7
                  try clear c9
                  try clear c9b0
                  try clear c11
                  try clear c11b0
                  try clear c11b1
                  try clear c12
                  try clear c12b0
                  try clear c12b1
                  try clear p13
                  try clear q13
                  try clear hx13
                  try clear qi13
                  try clear c14
                  try clear c14b0
                  try clear c14b1
                  try clear c15
                  try clear c15b0
                  try clear c15b1
                  try clear c16
                  try clear c16b0
                  try clear c16b1
                  try clear p1
                  try clear p13
                  try clear p2
                  try clear p6
                  try clear p7
                  try clear q1
                  try clear q13
                  try clear q7
                  obtain ⟨x9_3, x10_3, rfl, rfl, HA, HK3, ⟨m3, rfl⟩⟩ := hrel
                  cases gk with
                  | zero => exact absurd HA.out (by simp [abutmentref02_Number.l2])
                  | succ k3 =>
                    have H := HA.out
                    clear HA
                    simp only [abutmentref02_Number.l2] at H
                    by_cases c17 : x10_3 < (x0_9.size : Int)
                    · rw [if_pos c17] at H
                      have c17b0 : decide (x10_3 < (x0_9.size : Int)) = true := decide_eq_true c17
                      clear c17
                      by_cases c18 : x9_3 > 1152921504606846975
                      · rw [if_pos c18] at H
                        have c18b0 : decide (1152921504606846975 < x9_3) = true := decide_eq_true c18
                        clear c18
                        simp only [Option.some.injEq, Prod.mk.injEq] at H
                        obtain ⟨rfl, rfl⟩ := H
                        go_wp2
                        go_ret2
                        exact ⟨by first | rfl | (simp; done) | (simp [*]; done), by repeat (first | exact Drawn0.refl _ | apply Drawn0.step)⟩
                      · rw [if_neg c18] at H
                        have c18b0 : decide (1152921504606846975 < x9_3) = false := decide_eq_false c18
                        clear c18
                        by_cases c19 : 0 ≤ x10_3
                        · rw [if_pos c19] at H
                          have c19b0 : decide (0 ≤ x10_3) = true := decide_eq_true c19
                          clear c19
                          replace H := Option.bind_eq_some_iff.mp H
                          obtain ⟨t102, A210, H⟩ := H
                          replace H : (abutmentref02_Number.l2 k3 x0_9 a1 a2 (IntKind.u64.wrap ((IntKind.u64.wrap (x9_3 * (IntKind.u64.wrap (a1)))) + (IntKind.u64.wrap (t102)))) (wrap64 (x10_3 + 1))) = some (r1, r2) := H
                          have A21 := Aside0.mk A210
                          clear A210
                          have H' := Aside0.mk H
                          clear H
                          have p20 : 0 ≤ (x10_3 : Int) := of_decide_eq_true (by first | (with_reducible assumption) | assumption)
                          have q20 : x10_3 < (x0_9.size : Int) := of_decide_eq_true (by first | (with_reducible assumption) | assumption)
                          have hx20 := bt_at x0_9 x10_3
                          replace p20 := eq_true p20
                          replace q20 := eq_true q20
                          go_wp2_with (first | ((with_reducible refine gate_callee (f := 44) rfl ?_); refine goesL_ (some 54) rfl rfl Tryd.func44 (by kernel_rfl) rfl #[.int .u8 (bt x0_9 x10_3)] rfl (by (try simp only [List.map_toArray, List.map_cons, List.map_nil]); first | done | rfl | (simp only [List.length_drop, List.length_take]; rfl)) ?_; (with_reducible refine (abutmentref02_Value.calls k3 (bt x0_9 x10_3) t102 _ A21.out).mono ?_); rintro e w' ⟨rfl, ⟨nd, rfl⟩⟩; refine ⟨_, rfl, ?_⟩))
                          go_roundg k3
                          case measure => have := HK1.out; have := HJ9.out; have := HK3.out; omega
                          case rel => exact ⟨(IntKind.u64.wrap ((IntKind.u64.wrap (x9_3 * (IntKind.u64.wrap (a1)))) + (IntKind.u64.wrap (t102)))), (wrap64 (x10_3 + 1)), (by first | rfl | (simp; done) | (simp [*]; done)), (by first | rfl | (simp; done) | (simp [*]; done)), H', ⟨by have := HK1.out; have := HJ9.out; have := HK3.out; omega⟩, by repeat (first | exact Drawn0.refl _ | apply Drawn0.step)⟩
                        · rw [if_neg c19] at H
                          exact absurd H (by simp)
                    · rw [if_neg c17] at H
                      have c17b0 : decide (x10_3 < (x0_9.size : Int)) = false := decide_eq_false c17
                      clear c17
                      by_cases c22 : a2 < 0
                      · rw [if_pos c22] at H
                        have c22b0 : decide (a2 < 0) = true := decide_eq_true c22
                        clear c22
                        simp only [Option.some.injEq, Prod.mk.injEq] at H
                        obtain ⟨rfl, rfl⟩ := H
                        go_wp2
                        go_ret2
                        exact ⟨by first | rfl | (simp; done) | (simp [*]; done), by repeat (first | exact Drawn0.refl _ | apply Drawn0.step)⟩
                      · rw [if_neg c22] at H
                        have c22b0 : decide (a2 < 0) = false := decide_eq_false c22
                        clear c22
                        by_cases c23 : x9_3 > (IntKind.u64.wrap (a2))
                        · rw [if_pos c23] at H
                          have c23b0 : decide ((IntKind.u64.wrap (a2)) < x9_3) = true := decide_eq_true c23
                          clear c23
                          simp only [Option.some.injEq, Prod.mk.injEq] at H
                          obtain ⟨rfl, rfl⟩ := H
                          go_wp2
                          go_ret2
                          exact ⟨by first | rfl | (simp; done) | (simp [*]; done), by repeat (first | exact Drawn0.refl _ | apply Drawn0.step)⟩
                        · rw [if_neg c23] at H
                          have c23b0 : decide ((IntKind.u64.wrap (a2)) < x9_3) = false := decide_eq_false c23
                          clear c23
                          simp only [Option.some.injEq, Prod.mk.injEq] at H
                          obtain ⟨rfl, rfl⟩ := H
                          go_wp2
                          go_ret2
                          exact ⟨by first | rfl | (simp; done) | (simp [*]; done), by repeat (first | exact Drawn0.refl _ | apply Drawn0.step)⟩

end Go.Proofs.YtdjmgmiaognncaaDoor.X
