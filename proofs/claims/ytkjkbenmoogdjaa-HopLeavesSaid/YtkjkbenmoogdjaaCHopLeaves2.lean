/- Part 2 of the texts behind the claim on HopLeaves: contracts of the functions that it reaches, and plain laws about them. No conditions of its own. -/
import Derived.Test.YtkjkbenmoogdjaaCHopLeaves1
import Derived.RangeFuncRecord
import Derived.Maps.AppendAt
import Derived.Laws.IdiomStrings
import Derived.Lib.ConvBytes
import Derived.Handy
import Derived.ArgAppend
import Derived.Deep.RegionLaw
import Derived.Deep.RegionWith
namespace Go.Proofs.Ytkjkbenmoogdjaa.X
open Go.RowKit Go.Proofs.YtkjkbenmoogdjaaW.PrintWords Go.Proofs.YtkjkbenmoogdjaaW.PrintLast Go.Proofs.YtkjkbenmoogdjaaW.PrintMore
attribute [local go_sem] max2_int min2_int max_two min_two max_three min_three max_four min_four   -- for this text's walks alone
set_option linter.unusedVariables false
set_option linter.unusedSimpArgs false

/-! ### header_Without: function 65 -/
/-- P10.2: the fields of none of some names. -/
def withoutB (l : List S23) (names : List ByteArray) : List S23 := l.filter fun f => !names.any fun n => foldB n f.f0
theorem idxF_nil (F : Nat) (caps : Array Value) (w : World) :
    Calls Try.prog 102 #[.slice none 0 0, .func (.func F) #[] caps] w fun e w' => e = .returned (.int .i64 (-1)) ∧ w' = w := by
  go_enter Try.func102, Try.ntmps102
  go_wp2
  go_loopg [8] 0 (fun gg s8 wr => s8 = .int .i64 0 ∧ wr = w)
  case atStart => exact ⟨rfl, rfl⟩
  case round =>
    obtain ⟨rfl, rfl⟩ := hrel
    go_wp2
    go_ret
    exact ⟨rfl, rfl⟩
theorem delF_nil (F : Nat) (caps : Array Value) (w : World) :
    Calls Try.prog 91 #[.slice none 0 0, .func (.func F) #[] caps] w fun e w' => e = .returned (.slice none 0 0) ∧ w' = w := by
  have hI := idxF_nil F caps w
  go_enter Try.func91, Try.ntmps91
  go_wp2_with (go_at_call 102; refine hI.mono ?_; rintro e_ w' ⟨rfl, rfl⟩)
  go_ret
  exact ⟨rfl, rfl⟩
theorem RowV.own {W : World} {g e cap size n base : Nat} {vs : List Value} (h : RowV W g e (cap * size) vs) (hn : vs.length = n * size) (hc : n ≤ cap) (hm : cap ≤ maxLen) (hb : base ≤ g) : W.ownsRow base e size (.slice (some ⟨g, 0, none⟩) n cap) n vs := by
  obtain ⟨cur, hh, hs, hl, hx⟩ := h
  refine ⟨hn, .inr ⟨g, cap, cur, rfl, hb, hh, hc, hm, hs, ?_⟩⟩
  apply List.ext_getElem?
  intro j
  by_cases hj : j < vs.length
  · rw [List.getElem?_take_of_lt (by omega), Array.getElem?_toList, hx j _ (List.getElem?_eq_getElem hj), List.getElem?_eq_getElem hj]
  · rw [List.getElem?_eq_none (by rw [List.length_take]; omega), List.getElem?_eq_none (by omega)]
theorem RowV.of_own {W : World} {base e size n : Nat} {v : Value} {vs : List Value} (h : W.ownsRow base e size v n vs) : (v = .slice none 0 0 ∧ n = 0) ∨ ∃ g cap, v = .slice (some ⟨g, 0, none⟩) n cap ∧ base ≤ g ∧ n ≤ cap ∧ cap ≤ maxLen ∧ RowV W g e (cap * size) vs := by
  rcases h.2 with h2 | ⟨g, cap, cur, hv, hg, hh, hc, hm, hs, ht⟩
  · exact .inl h2
  · refine .inr ⟨g, cap, hv, hg, hc, hm, cur, hh, hs, ?_, fun j v hj => ?_⟩
    · rw [h.1]; exact Nat.mul_le_mul_right _ hc
    · have hlt := (List.getElem?_eq_some_iff.1 hj).1
      rw [← ht, List.getElem?_take_of_lt (by have := h.1; omega), Array.getElem?_toList] at hj
      exact hj
def header_Without.f (l0 : List (S23)) (l1 : List ByteArray) : Option ((List (S23))) := if l0.length ≤ 1000000 ∧ l1.length ≤ 1000000 ∧ l1 ≠ [] ∧ ∀ x ∈ l1, x.size ≤ 140737488351232 then some (withoutB l0 l1) else none
set_option maxHeartbeats 4000000 in
set_option maxRecDepth 100000 in
theorem header_Without.calls (A0 : Option Addr) (c0 : Nat) (l0 : List (S23)) (A1 : Option Addr) (c1 : Nat) (l1 : List ByteArray) (r : List (S23)) (w : World) (hr0 : Kd.C k23 w A0 l0.length l0) (hc0 : l0.length ≤ c0) (hr1 : Kd.C Kd.string w A1 l1.length l1) (hc1 : l1.length ≤ c1) (h : header_Without.f l0 l1 = some r) :
    Calls Try.prog 65 #[.slice A0 l0.length c0, .slice A1 l1.length c1] w fun e w' => ∃ v0_ : Value, e = .returned (v0_) ∧ Kd.R k23 23 w' w.heap.size (fun _ => True) v0_ r ∧ Below w.heap.size w w' := by
  by_cases hs : l0.length ≤ 1000000 ∧ l1.length ≤ 1000000 ∧ l1 ≠ [] ∧ ∀ x ∈ l1, x.size ≤ 140737488351232
  · rw [header_Without.f, if_pos hs] at h
    obtain rfl := Option.some.inj h
    clear h
    obtain ⟨hsl, hsn, hne, hsz⟩ := hs
    have hC := cloneF_wp A0 c0 l0 w hsl hr0
    obtain ⟨gn, on, rfl, hgn, hcn⟩ := reads_cells hr1 hne
    have hNM := fun W => named_wp (some ⟨gn, on, none⟩) l1.length c1 W
    have HN := Aside0.mk hcn
    have HZ := Aside0.mk hsz
    clear hr0 hr1 hcn hsz hne
    go_enter Try.func65, Try.ntmps65
    go_wp2_with (first
      | (go_at_call 92; refine hC.mono ?_; rintro e w1 ⟨v, rfl, ho, hb1⟩; have HO := Aside0.mk ho; have HB1 := Aside0.mk hb1; clear ho hb1)
      | (go_at_call 93; refine (hNM _).mono ?_; rintro e w2 ⟨rfl, hw2⟩; have HW2 := Aside0.mk hw2; clear hw2))
    have hs2 : w2.heap.size = w1.heap.size + 1 := by rw [HW2.out]; simp
    have hb2 : Below w1.heap.size w1 w2 := by rw [HW2.out]; exact (Below.refl _ w1).alloc (Nat.le_refl _) _
    have hcB : w2.cell? ⟨w1.heap.size, 0, none⟩ = some (.slice (some ⟨gn, on, none⟩) l1.length c1) := by
      have := World.alloc_heap_new w1 (.cells #[.slice (some ⟨gn, on, none⟩) l1.length c1] 31)
      rw [← HW2.out] at this
      simp only [World.cell?, this]
      rfl
    have hw12 : Below w.heap.size w w2 := HB1.out.trans (hb2.mono HB1.out.size)
    rcases RowV.of_own HO.out with ⟨rfl, h0⟩ | ⟨g, cap, rfl, hg, hcap, hmax, hrow⟩
    · have hnil : l0 = [] := List.eq_nil_of_length_eq_zero h0
      have hD := delF_nil 103 #[.pointer (some ⟨w1.heap.size, 0, none⟩)] w2
      refine hD.mono ?_
      rintro e w3 ⟨rfl, rfl⟩
      go_wp2
      go_ret
      subst hnil
      exact ⟨_, rfl, Kd.R_nil _ _ _ _ _, hw12⟩
    · have hrow2 := hrow.below hb2
      have hglt := hrow.lt
      have hD := delF_wp (fun f => l1.any fun n => foldB n f.f0) 103 #[.pointer (some ⟨w1.heap.size, 0, none⟩)] (enters_of Try.func103 (by kernel_rfl) rfl) w.heap.size g 23 (cap * 2) cap l0 w2 (by omega) hcap hg hrow2
        (fun W x hx hk => named1_wp l1 HZ.out (by omega) gn on c1 w1.heap.size W
          (by
            have hh := hk.2.2 w1.heap.size (by omega) (by omega)
            have : W.cell? ⟨w1.heap.size, 0, none⟩ = w2.cell? ⟨w1.heap.size, 0, none⟩ := by simp only [World.cell?, hh]
            rw [this, hcB])
          (by have := hk.2.1; have := hw12.size; omega)
          (fun j x hj => by
            have hh := hk.2.2 gn (by have := hw12.size; omega) (by omega)
            have : W.cell? ⟨gn, on + j, none⟩ = w2.cell? ⟨gn, on + j, none⟩ := by simp only [World.cell?, hh]
            rw [this, hw12.cell (p := ⟨gn, on + j, none⟩) hgn]
            exact HN.out j x hj) x.f0 x.f1)
      have HRES := Aside0.mk hw12
      have hfl : (withoutB l0 l1).length ≤ l0.length := List.length_filter_le _ _
      clear hrow hrow2 hw12 hcB hb2
      refine hD.mono ?_
      rintro e w3 ⟨rfl, hk, hr3⟩
      have HK := Aside0.mk hk
      have HR3 := Aside0.mk hr3
      clear hk hr3
      go_wp2
      go_ret
      refine ⟨_, rfl, ?_, HRES.out.trans HK.out.1⟩
      have h5 : w3.ownsRow w.heap.size 23 2 (.slice (some ⟨g, 0, none⟩) (withoutB l0 l1).length cap) (withoutB l0 l1).length (cellsF (withoutB l0 l1)) := HR3.out.own (by rw [cellsF_len]; rfl) (by omega) hmax hg
      exact rowRF _ h5
  · rw [header_Without.f, if_neg hs] at h
    cases h


end Go.Proofs.Ytkjkbenmoogdjaa.X
namespace Go.Proofs.Ytkjkbenmoogdjaa.X
open Go.RowKit Go.Proofs.YtkjkbenmoogdjaaW.PrintWords Go.Proofs.YtkjkbenmoogdjaaW.PrintLast Go.Proofs.YtkjkbenmoogdjaaW.PrintMore
attribute [local go_sem] max2_int min2_int max_two min_two max_three min_three max_four min_four   -- for this text's walks alone
set_option linter.unusedVariables false
set_option linter.unusedSimpArgs false

/-! ### header_All: function 67 -/
/-- P10.1: the values of the fields of a name. -/
def allB (l : List S23) (name : ByteArray) : List ByteArray := (l.filter fun f => foldB name f.f0).map (·.f1)
theorem allB_len (l : List S23) (name : ByteArray) : (allB l name).length ≤ l.length := by
  unfold allB
  rw [List.length_map]
  exact List.length_filter_le _ _
def header_All.f (l0 : List (S23)) (a1 : ByteArray) : Option (List ByteArray) := if l0.length ≤ 1000000 ∧ a1.size ≤ 140737488351232 then some (allB l0 a1) else none
theorem own_below {w W : World} {base e size n : Nat} {v : Value} {xs : List Value} (h : w.ownsRow base e size v n xs) (hb : Below w.heap.size w W) : W.ownsRow base e size v n xs := by
  refine own_move h fun k hk => hb.block k ?_
  obtain ⟨c, hc⟩ := own_typed h k hk
  exact (Array.getElem?_eq_some_iff.1 hc).1
theorem infoStr2 : (Try.prog.info? 9).map (fun i => (i.zero, i.size, i.bytes)) = some (some (.string ⟨#[]⟩), 1, 16) := by kernel_rfl
set_option maxHeartbeats 4000000 in
set_option maxRecDepth 100000 in
theorem header_All.calls (A0 : Option Addr) (c0 : Nat) (l0 : List (S23)) (a1 : ByteArray) (r : List ByteArray) (w : World) (hr0 : Kd.C k23 w A0 l0.length l0) (hc0 : l0.length ≤ c0) (h : header_All.f l0 a1 = some r) :
    Calls Try.prog 67 #[.slice A0 l0.length c0, .string a1] w fun e w' => ∃ v0_ : Value, e = .returned (v0_) ∧ Kd.R Kd.string 9 w' w.heap.size (fun _ => True) v0_ r ∧ Below w.heap.size w w' := by
  by_cases hs : l0.length ≤ 1000000 ∧ a1.size ≤ 140737488351232
  · rw [header_All.f, if_pos hs] at h
    obtain rfl := Option.some.inj h
    clear h
    obtain ⟨hsl, hsn⟩ := hs
    obtain ⟨i0, hi, hz0, hz1, hz2⟩ := info_parts infoStr2
    obtain ⟨w0, hw0⟩ : ∃ w0, w.alloc (.cells #[.string a1] 9) = w0 := ⟨_, rfl⟩
    obtain ⟨w1, hw1⟩ : ∃ w1, w0.alloc (.cells #[.slice (some ⟨w.heap.size, 0, none⟩) 1 1] 31) = w1 := ⟨_, rfl⟩
    have hN := named_wp (some ⟨w.heap.size, 0, none⟩) 1 1 w0
    rw [hw1] at hN
    have hs0 : w0.heap.size = w.heap.size + 1 := by rw [← hw0]; simp
    rw [hs0] at hN
    have hs1 : w1.heap.size = w.heap.size + 2 := by rw [← hw1]; simp [hs0]
    have hb1 : Below w.heap.size w w1 := by rw [← hw1, ← hw0]; exact ((Below.refl _ w).alloc (Nat.le_refl _) _).alloc (by simp) _
    have hc1 : w1.cell? ⟨w.heap.size + 1, 0, none⟩ = some (.slice (some ⟨w.heap.size, 0, none⟩) 1 1) := by
      have := World.alloc_heap_new w0 (.cells #[.slice (some ⟨w.heap.size, 0, none⟩) 1 1] 31)
      rw [hw1, hs0] at this
      simp only [World.cell?, this]
      rfl
    have hc2 : w1.cell? ⟨w.heap.size, 0, none⟩ = some (.string a1) := by
      have := World.alloc_heap_new w (.cells #[.string a1] 9)
      rw [hw0] at this
      have h2 := Below.heap_alloc w0 (.cells #[.slice (some ⟨w.heap.size, 0, none⟩) 1 1] 31) w.heap.size (by omega)
      rw [hw1, this] at h2
      simp only [World.cell?, h2]
      rfl
    have hcall : ∀ (W : World) (f0 f1 : ByteArray), Below w1.heap.size w1 W → Calls Try.prog 103 #[.agg #[.string f0, .string f1], .pointer (some ⟨w.heap.size + 1, 0, none⟩)] W fun e w' => e = .returned (.bool (foldB a1 f0)) ∧ Below W.heap.size W w' := fun W f0 f1 hb => by
      have := named1_wp [a1] (by simpa using hsn) (by simp) w.heap.size 0 1 (w.heap.size + 1) W ((hb.cell (p := ⟨w.heap.size + 1, 0, none⟩) (by show w.heap.size + 1 < _; omega)).trans hc1) (by have := hb.size; omega) (fun j x hj => by
        cases j with
        | zero =>
          simp at hj
          subst hj
          exact (hb.cell (p := ⟨w.heap.size, 0, none⟩) (by show w.heap.size < _; omega)).trans hc2
        | succ j => simp at hj) f0 f1
      simpa using this
    have HCALL := Aside0.mk hcall
    have HB1 := Aside0.mk hb1
    have HS1 := Aside0.mk hs1
    have HS0 := Aside0.mk hs0
    have HW0 := Aside0.mk hw0
    have HRD : Aside0 (∀ (j : Nat) x, l0[j]? = some x → ∃ g o, A0 = some ⟨g, o, none⟩ ∧ g < w.heap.size ∧ w.cell? ⟨g, o + j * 2, none⟩ = some (.string x.f0) ∧ w.cell? ⟨g, o + j * 2 + 1, none⟩ = some (.string x.f1)) := ⟨fun j x hj => by
      obtain ⟨g, o, h1, h2, h3⟩ := reads_cellsF hr0 (by rintro rfl; simp at hj)
      exact ⟨g, o, h1, h2, h3 j x hj⟩⟩
    clear hcall hb1 hs1 hs0 hw0 hw1 hc1 hc2 hr0
    go_enter Try.func67, Try.ntmps67
    go_wp2_with (rw [HW0.out]; go_at_call 93; refine hN.mono ?_; rintro e w1' ⟨rfl, rfl⟩)
    obtain ⟨n1, hn1⟩ : ∃ n1, w1'.heap.size = n1 := ⟨_, rfl⟩
    have HN1 := Aside0.mk hn1
    clear hn1
    go_loopg [6, 14] l0.length (fun gg s6 s14 wr => ∃ kk : Nat, kk ≤ l0.length ∧ l0.length - kk ≤ gg ∧ s14 = .int .i64 kk ∧ Aside0 (Below w1'.heap.size w1' wr) ∧ Aside0 (wr.ownsRow n1 9 1 s6 (allB (l0.take kk) a1).length ((allB (l0.take kk) a1).map Value.string)))
    case atStart => exact ⟨0, Nat.zero_le _, by omega, rfl, ⟨Below.refl _ _⟩, ⟨World.ownsRow_nil _ _ _ _⟩⟩
    case round =>
      obtain ⟨kk, hkk, hgg, rfl, BW, HO⟩ := hrel
      by_cases hlt : kk < l0.length
      · have hltz : (kk : Int) < (l0.length : Int) := by omega
        obtain ⟨y, hy⟩ : ∃ y, l0[kk]? = some y := ⟨_, List.getElem?_eq_getElem hlt⟩
        have HY := Aside0.mk hy
        obtain ⟨g, o, rfl, hg, hr0, hr1⟩ := HRD.out kk y hy
        clear hy
        have hBW := HB1.out.trans (BW.out.mono HB1.out.size)
        have hcell : wr.cell? ⟨g, o + kk * 2, none⟩ = some (.string y.f0) := (hBW.cell (p := ⟨g, o + kk * 2, none⟩) hg).trans hr0
        have hcell1 : wr.cell? ⟨g, o + kk * 2 + 1, none⟩ = some (.string y.f1) := (hBW.cell (p := ⟨g, o + kk * 2 + 1, none⟩) hg).trans hr1
        clear hr0 hr1 hBW
        have HWX := Aside0.mk (⟨(Below.refl wr.heap.size wr).alloc (Nat.le_refl _) (.cells #[.string y.f0, .string y.f1] 23), World.alloc_heap_new wr (.cells #[.string y.f0, .string y.f1] 23)⟩ : Below wr.heap.size wr (wr.alloc (.cells #[.string y.f0, .string y.f1] 23)) ∧ _)
        have hlx : wr.heap.size < (wr.alloc (.cells #[.string y.f0, .string y.f1] 23)).heap.size := by simp
        have hc := HCALL.out (wr.alloc (.cells #[.string y.f0, .string y.f1] 23)) y.f0 y.f1 (BW.out.trans (HWX.out.1.mono BW.out.size))
        have HLX := Aside0.mk hlx
        clear hlx
        have hallt : allB (l0.take (kk + 1)) a1 = if foldB a1 y.f0 = true then allB (l0.take kk) a1 ++ [y.f1] else allB (l0.take kk) a1 := by
          have e1 : l0.take (kk + 1) = l0.take kk ++ [y] := by rw [List.take_add_one, HY.out]; rfl
          rw [e1]
          unfold allB
          rw [List.filter_append, List.map_append]
          by_cases hf : foldB a1 y.f0 = true
          · rw [if_pos hf]; simp [hf]
          · rw [if_neg hf]; simp [hf]
        have HAT := Aside0.mk hallt
        clear hallt
        obtain ⟨P, hP⟩ : ∃ P, allB (l0.take kk) a1 = P := ⟨_, rfl⟩
        have hPl : P.length ≤ l0.length := by rw [← hP]; exact Nat.le_trans (allB_len _ _) (by simp; omega)
        rw [hP] at HO HAT
        clear hP
        cases hq : foldB a1 y.f0 with
        | true =>
          rw [hq] at hc
          go_wp2_with (first
            | (go_at_call 103; refine hc.mono ?_; rintro e w' ⟨rfl, hb2⟩; have hb' := HWX.out.1.trans (hb2.mono (Nat.le_of_lt HLX.out)); have hv1 : w'.cell? ⟨wr.heap.size, 1, none⟩ = some (.string y.f1) := (hb2.cell (p := ⟨wr.heap.size, 1, none⟩) HLX.out).trans (by simp only [World.cell?, HWX.out.2]; rfl); have HB2 := Aside0.mk hb'; have HBB := Aside0.mk hb2; clear hb' hb2)
            | (at_builtin; refine wpList_append_own _ rfl _ _ 31 rfl n1 9 i0 (.string ⟨#[]⟩) 1 16 Try.underlying31 hi hz0 hz1 hz2 rfl (by decide) _ _ _ rfl ((own_below HO.out HB2.out).alloc _) ⟨w'.heap.size, 0, none⟩ 1 1 [.string y.f1] rfl rfl (cell_one_new _ _ _) (by simp [Value.oneCell']) (by unfold maxLen; omega) (by omega) (by have := HN1.out; have := BW.out.size; have := HB2.out.size; simp; omega) ?_; intro v' w3 hown' hgrow _))
          go_roundg (l0.length - (kk + 1))
          case measure => omega
          case rel =>
            refine ⟨kk + 1, by omega, by omega, by go_num, ⟨?_⟩, ⟨?_⟩⟩
            · have h5 := BW.out.trans (HB2.out.mono BW.out.size)
              refine ((h5.alloc h5.size _).grown hgrow (by simp; exact Nat.le_succ_of_le h5.size) ?_)
              intro k hk
              have := own_base HO.out k hk
              have := HN1.out
              omega
            · rw [HAT.out, if_pos hq]
              simpa using hown'
        | false =>
          rw [hq] at hc
          go_wp2_with (go_at_call 103; refine hc.mono ?_; rintro e w' ⟨rfl, hb2⟩; have hb' := HWX.out.1.trans (hb2.mono (Nat.le_of_lt HLX.out)); have HB2 := Aside0.mk hb'; clear hb' hb2)
          go_roundg (l0.length - (kk + 1))
          case measure => omega
          case rel =>
            refine ⟨kk + 1, by omega, by omega, by go_num, ⟨BW.out.trans (HB2.out.mono BW.out.size)⟩, ⟨?_⟩⟩
            rw [HAT.out, if_neg (by rw [hq]; simp)]
            exact own_below HO.out HB2.out
      · have hltz : ¬ (kk : Int) < (l0.length : Int) := by omega
        have hke : kk = l0.length := by omega
        subst hke
        go_wp2
        go_ret
        have h5 := HO.out
        rw [List.take_length] at h5
        exact ⟨_, rfl, rowR _ (own_weaken h5 (by have := HN1.out; have := HB1.out.size; omega)), HB1.out.trans (BW.out.mono HB1.out.size)⟩
  · rw [header_All.f, if_neg hs] at h
    cases h


end Go.Proofs.Ytkjkbenmoogdjaa.X
namespace Go.Proofs.Ytkjkbenmoogdjaa.X
open Go.RowKit Go.Proofs.YtkjkbenmoogdjaaW.PrintWords Go.Proofs.YtkjkbenmoogdjaaW.PrintLast Go.Proofs.YtkjkbenmoogdjaaW.PrintMore
attribute [local go_sem] max2_int min2_int max_two min_two max_three min_three max_four min_four   -- for this text's walks alone
set_option linter.unusedVariables false
set_option linter.unusedSimpArgs false

/-! ### octet_Lower: function 70 -/
/-- A row of octets, with the mark of a conversion's row. -/
def OctRow (W : World) (g e : Nat) (l : List UInt8) : Prop := ∃ cur : Array Value, ∃ m, W.heap[g]? = some (.cells cur e (m, m + 1)) ∧ l.length ≤ m ∧ ∀ (j : Nat) (c : UInt8), l[j]? = some c → cur[j]? = some (.int .u8 (c.toNat : Int))
theorem OctRow.new (W : World) (e : Nat) (s : ByteArray) : OctRow (Lib.bytesWorld W e s) W.heap.size e s.data.toList := by
  refine ⟨Lib.bytesCells W e s, _, Lib.bytesWorld_at_new W e s, by simp [Lib.bytesCells], fun j c hj => ?_⟩
  obtain ⟨hl, rfl⟩ := List.getElem?_eq_some_iff.1 hj
  have hl' : j < s.data.size := by simpa using hl
  unfold Lib.bytesCells
  rw [Array.getElem?_append_left (by simpa using hl'), Array.getElem?_map, Array.getElem?_eq_getElem hl']
  simp
theorem OctRow.cell {W : World} {g e : Nat} {l : List UInt8} (h : OctRow W g e l) (j : Nat) (c : UInt8) (hj : l[j]? = some c) : W.cell? ⟨g, j, none⟩ = some (.int .u8 (c.toNat : Int)) := by
  obtain ⟨cur, m, hh, _, hc⟩ := h
  simp only [World.cell?, hh]
  exact hc j c hj
theorem OctRow.frozen {W : World} {g e : Nat} {l : List UInt8} (h : OctRow W g e l) (j : Nat) (hj : j < l.length) : W.frozen? ⟨g, j, none⟩ = false := by
  obtain ⟨cur, m, hh, hm, hc⟩ := h
  simp only [World.frozen?, hh]
  simp
  omega
theorem OctRow.put {W : World} {g e : Nat} {l : List UInt8} (h : OctRow W g e l) (j : Nat) (c : UInt8) : OctRow (W.setCell ⟨g, j, none⟩ (.int .u8 (c.toNat : Int))) g e (l.set j c) := by
  obtain ⟨cur, m, hh, hm, hc⟩ := h
  refine ⟨cur.setIfInBounds j (.int .u8 (c.toNat : Int)), m, ?_, by simpa using hm, fun i d hi => ?_⟩
  · simp only [World.setCell, Array.getElem?_modify, hh]
    simp
  · rw [List.getElem?_set] at hi
    rw [Array.getElem?_setIfInBounds]
    by_cases e : j = i
    · subst e
      rw [if_pos rfl] at hi
      by_cases hlt : j < l.length
      · rw [if_pos hlt] at hi
        injection hi with hi
        subst hi
        obtain ⟨hlt2, _⟩ := Array.getElem?_eq_some_iff.1 (hc j _ (List.getElem?_eq_getElem hlt))
        rw [if_pos rfl, if_pos hlt2]
      · rw [if_neg hlt] at hi
        cases hi
    · rw [if_neg e] at hi
      rw [if_neg e]
      exact hc i d hi
theorem OctRow.drewN {W : World} {g e : Nat} {l : List UInt8} (h : OctRow W g e l) (q : Nat) : OctRow (W.drewN q) g e l := h
theorem OctRow.back {W : World} {g e : Nat} {l : List UInt8} (h : OctRow W g e l) {P : Program} (src dst : Nat) (c n : Nat) (hn : n = l.length) (hs : P.underlying src = some (.slice e)) (he : P.underlying e = some (.int .u8)) (hd : P.underlying dst = some .string) :
    (convert src dst (.slice (some ⟨g, 0, none⟩) n c)).run P W = .ok (.string ⟨l.toArray⟩) W := by
  subst hn
  have := run_convert_bytes_back (P := P) W src dst e ⟨g, 0, none⟩ c l hs he hd (fun j hj => by
    have e1 : (⟨g, 0, none⟩ : Addr).add j = ⟨g, j, none⟩ := by rw [add_plain]; try rw [Nat.zero_add]
    rw [e1, h.cell j _ (List.getElem?_eq_getElem hj)])
  exact this
/-- The first i of a text's octets as small letters, the others as they are. -/
def lowTo (s : List UInt8) (i : Nat) : List UInt8 := lowL (s.take i) ++ s.drop i
theorem lowTo_len (s : List UInt8) (i : Nat) : (lowTo s i).length = s.length := by
  unfold lowTo lowL; simp; omega
theorem lowTo_at (s : List UInt8) (i : Nat) (h : i < s.length) : (lowTo s i)[i]? = some (s[i]'h) := by
  unfold lowTo lowL
  rw [List.getElem?_append_right (by simp; omega)]
  simp
  rw [show i - min i s.length = 0 from by omega]
  simp [h]
theorem lowTo_set (s : List UInt8) (i : Nat) (h : i < s.length) : (lowTo s i).set i (lowU (s[i]'h)) = lowTo s (i + 1) := by
  unfold lowTo lowL
  rw [List.set_append_right _ _ (by simp; omega)]
  simp only [List.length_map, List.length_take]
  rw [show i - min i s.length = 0 from by omega, List.drop_eq_getElem_cons h, List.set_cons_zero, ← List.take_append_getElem h, List.map_append]
  simp
def octet_Lower.f (a0 : ByteArray) : Option (ByteArray) := if a0.size ≤ 1000000000 then some (lowB a0) else none
set_option maxHeartbeats 4000000 in
set_option maxRecDepth 100000 in
theorem octet_Lower.calls (a0 : ByteArray) (r : ByteArray) (w : World) (h : octet_Lower.f a0 = some r) :
    Calls Try.prog 70 #[.string a0] w fun e w' => e = .returned (.string r) ∧ Below w.heap.size w w' := by
  by_cases hs : a0.size ≤ 1000000000
  · rw [octet_Lower.f, if_pos hs] at h
    obtain rfl := Option.some.inj h
    clear h
    have kb := fun W => print_bytes (P := Try.prog) 9 90 5 Try.underlying9 Try.underlying90 Try.underlying5 a0 W
    have hO := OctRow.new w 5 a0
    have hB : Below w.heap.size w (Lib.bytesWorld w 5 a0) := bytes_below (Below.refl _ _) (Nat.le_refl _) _ _
    have HO := Aside0.mk hO
    have HB := Aside0.mk hB
    clear hO hB
    have HZ := Aside0.mk (size_list a0)
    go_enter Try.func70, Try.ntmps70
    go_wp2
    go_loopg [4, 5, 10] a0.size (fun gg _ _ s10 wr => ∃ i : Nat, i ≤ a0.size ∧ a0.size - i ≤ gg ∧ s10 = .int .i64 i ∧ Aside0 (Below w.heap.size w wr) ∧ Aside0 (OctRow wr w.heap.size 5 (lowTo a0.data.toList i)))
    case atStart => exact ⟨0, Nat.zero_le _, by omega, rfl, HB, HO⟩
    case round =>
      obtain ⟨i, hi, hg, rfl, HB1, HO1⟩ := hrel
      clear HO HB
      by_cases hlt : i < a0.size
      · have hltz : decide ((i : Int) < (a0.size : Int)) = true := decide_eq_true (by omega)
        have hll : i < a0.data.toList.length := by have := HZ.out; omega
        obtain ⟨c, hc⟩ : ∃ c, a0.data.toList[i]'hll = c := ⟨_, rfl⟩
        have hcell := HO1.out.cell i c (by rw [lowTo_at _ _ hll, hc])
        have hfz := HO1.out.frozen i (by rw [lowTo_len]; exact hll)
        have hL := fun W => octet_lower.calls (c.toNat : Int) _ W (octet_lower_f c)
        have HC := Aside0.mk hc
        clear hc
        go_wp2_with (go_at_call 68; refine (hL _).mono ?_; rintro e w' ⟨rfl, hdr⟩; obtain ⟨q, rfl⟩ := hdr.out)
        go_roundg (a0.size - (i + 1))
        case measure => omega
        case rel =>
          refine ⟨i + 1, by omega, by omega, by go_num, ⟨(pw_below_drewN HB1.out q).setCell (Nat.le_refl _) _⟩, ⟨?_⟩⟩
          have h2 := (HO1.out.drewN q).put i (lowU c)
          rw [← HC.out, lowTo_set _ _ hll, HC.out] at h2
          exact h2
      · have hltz : decide ((i : Int) < (a0.size : Int)) = false := decide_eq_false (by omega)
        have hie : i = a0.size := by omega
        have HIE := Aside0.mk hie
        clear hie
        have hback := fun cp => HO1.out.back (P := Try.prog) 90 9 cp a0.size (by rw [lowTo_len]; exact HZ.out) Try.underlying90 Try.underlying5 Try.underlying9
        have HR : Aside0 ((⟨(lowTo a0.data.toList i).toArray⟩ : ByteArray) = lowB a0) := ⟨by
          unfold lowTo lowB
          rw [List.take_of_length_le (by have := HZ.out; have := HIE.out; omega), List.drop_eq_nil_of_le (by have := HZ.out; have := HIE.out; omega), List.append_nil]⟩
        go_wp2
        go_ret
        exact ⟨by rw [HR.out]; rfl, HB1.out⟩
  · rw [octet_Lower.f, if_neg hs] at h
    cases h


end Go.Proofs.Ytkjkbenmoogdjaa.X
namespace Go.Proofs.Ytkjkbenmoogdjaa.X
open Go.RowKit Go.Proofs.YtkjkbenmoogdjaaW.PrintWords Go.Proofs.YtkjkbenmoogdjaaW.PrintLast Go.Proofs.YtkjkbenmoogdjaaW.PrintMore
attribute [local go_sem] max2_int min2_int max_two min_two max_three min_three max_four min_four   -- for this text's walks alone
set_option linter.unusedVariables false
set_option linter.unusedSimpArgs false

/-! ### header_Combined: function 71 -/
def header_Combined.f (l0 : List (S23)) (a1 : ByteArray) : Option (ByteArray × Bool) := (header_All.f l0 a1).bind fun t101 => ((lists_Join.f t101).bind fun t104 => (some (t104, decide ((t101.length : Int) > 0))))
set_option maxHeartbeats 8000000 in
set_option maxRecDepth 100000 in
theorem header_Combined.calls (A0 : Option Addr) (c0 : Nat) (l0 : List (S23)) (a1 : ByteArray) (r1 : ByteArray) (r2 : Bool) (w : World) (hr0 : Kd.C k23 w A0 l0.length l0) (hc0 : l0.length ≤ c0) (h : header_Combined.f l0 a1 = some (r1, r2)) :
    Calls Try.prog 71 #[.slice A0 l0.length c0, .string a1] w fun e w' => e = .returned (.tuple #[.string r1, .bool r2]) ∧ Below w.heap.size w w' := by
  have HR0 := Aside0.mk hr0
  have HC0 := Aside0.mk hc0
  clear hr0 hc0
  have HB := Aside0.mk (Below.refl w.heap.size w)
  have H : ((header_All.f l0 a1).bind fun t101 => ((lists_Join.f t101).bind fun t104 => (some (t104, decide ((t101.length : Int) > 0))))) = some (r1, r2) := h
  clear h
  replace H := Option.bind_eq_some_iff.mp H
  obtain ⟨t101, A30, H⟩ := H
  replace H : ((lists_Join.f t101).bind fun t104 => (some (t104, decide ((t101.length : Int) > 0)))) = some (r1, r2) := H
  have A3 := Aside0.mk A30
  clear A30
  replace H := Option.bind_eq_some_iff.mp H
  obtain ⟨t104, A40, H⟩ := H
  replace H : (some (t104, decide ((t101.length : Int) > 0))) = some (r1, r2) := H
  have A4 := Aside0.mk A40
  clear A40
  simp only [Option.some.injEq, Prod.mk.injEq] at H
  obtain ⟨rfl, rfl⟩ := H
  go_enter Try.func71, Try.ntmps71
  go_wp2_with (first | ((with_reducible refine gate_callee (f := 67) rfl ?_); refine goesL_ (some 9) rfl rfl Try.func67 (by kernel_rfl) rfl #[.slice A0 l0.length c0, .string a1] rfl (by (try simp only [List.map_toArray, List.map_cons, List.map_nil]); first | done | rfl | (simp only [List.length_drop, List.length_take]; rfl)) ?_; (with_reducible refine (header_All.calls _ _ l0 a1 t101 _ ?side1 ?side2 A3.out).mono ?_); (case side1 => repeat (first | exact HR0.out | (with_reducible refine Kd.C_alloc ?_ _) | (with_reducible refine Kd.C_drewN ?_ _) | (with_reducible refine Kd.C_drew ?_))); (case side2 => exact HC0.out); rintro e w5 ⟨v102, rfl, ho0, hb⟩; refine ⟨_, rfl, ?_⟩; have n0_ := Aside0.mk (Kd.R_lower ho0 (below_size (by repeat (first | (with_reducible first | exact HB.out | apply below_alloc | apply pw_below_drewN | apply below_drew1) | exact HB.out)))); have n1_ := Aside0.mk (below_step (by repeat (first | (with_reducible first | exact HB.out | apply below_alloc | apply pw_below_drewN | apply below_drew1) | exact HB.out)) hb); clear HB; have HO103 := n0_; have HB := n1_; clear n0_ n1_; (try clear hb); (try clear hb2); (try clear hk); (try clear hi); (try clear ho0); obtain ⟨Ao6, co6, eo6⟩ := Kd.R_slice HO103.out; subst eo6) | ((with_reducible refine gate_callee (f := 25) rfl ?_); refine goesL_ (some 11) rfl rfl Try.func25 (by kernel_rfl) rfl #[.slice Ao6 t101.length co6] rfl (by (try simp only [List.map_toArray, List.map_cons, List.map_nil]); first | done | rfl | (simp only [List.length_drop, List.length_take]; rfl)) ?_; (with_reducible refine (lists_Join.calls _ _ t101 t104 _ ?side1 ?side2 A4.out).mono ?_); (case side1 => repeat (first | exact (Kd.R_reads' HO103.out).2.2 | (with_reducible refine Kd.C_alloc ?_ _) | (with_reducible refine Kd.C_drewN ?_ _) | (with_reducible refine Kd.C_drew ?_))); (case side2 => exact (Kd.R_reads' HO103.out).2.1); rintro e w7 ⟨rfl, hb⟩; refine ⟨_, rfl, ?_⟩; have n0_ := Aside0.mk (Kd.R_below (by (with_reducible repeat (first | apply Kd.R_alloc | apply Kd.R_drewN | apply Kd.R_drew)); exact HO103.out) hb); have n1_ := Aside0.mk (below_step (by repeat (first | (with_reducible first | exact HB.out | apply below_alloc | apply pw_below_drewN | apply below_drew1) | exact HB.out)) hb); clear HO103; clear HB; have HO103 := n0_; have HB := n1_; clear n0_ n1_; (try clear hb); (try clear hb2); (try clear hk); (try clear hi)))
  go_ret2
  exact ⟨by first | rfl | (simp [errW_none, errW_some] <;> rfl) | (simp [*, errW_none, errW_some] <;> rfl), by repeat (first | (with_reducible first | exact HB.out | apply below_alloc | apply pw_below_drewN | apply below_drew1) | exact HB.out)⟩

end Go.Proofs.Ytkjkbenmoogdjaa.X
namespace Go.Proofs.Ytkjkbenmoogdjaa.X
open Go.RowKit Go.Proofs.YtkjkbenmoogdjaaW.PrintWords Go.Proofs.YtkjkbenmoogdjaaW.PrintLast Go.Proofs.YtkjkbenmoogdjaaW.PrintMore
attribute [local go_sem] max2_int min2_int max_two min_two max_three min_three max_four min_four   -- for this text's walks alone
set_option linter.unusedVariables false
set_option linter.unusedSimpArgs false

/-! ### connection_Words_1: function 72 -/
set_option maxHeartbeats 1000000 in
theorem words1_wp (x : ByteArray) (w : World) :
    Calls Try.prog 72 (#[.string x] ++ #[]) w fun e w' => e = .returned (.bool (!octetToken x)) ∧ Below w.heap.size w w' := by
  have hC := octet_Token.calls x (octetToken x) w rfl
  cases hq : octetToken x with
  | true =>
    rw [hq] at hC
    go_enter Try.func72, Try.ntmps72
    go_wp2_with (go_at_call 47; refine hC.mono ?_; rintro e w' ⟨rfl, hb⟩)
    go_ret
    exact ⟨rfl, hb⟩
  | false =>
    rw [hq] at hC
    go_enter Try.func72, Try.ntmps72
    go_wp2_with (go_at_call 47; refine hC.mono ?_; rintro e w' ⟨rfl, hb⟩)
    go_ret
    exact ⟨rfl, hb⟩


end Go.Proofs.Ytkjkbenmoogdjaa.X
namespace Go.Proofs.Ytkjkbenmoogdjaa.X
open Go.RowKit Go.Proofs.YtkjkbenmoogdjaaW.PrintWords Go.Proofs.YtkjkbenmoogdjaaW.PrintLast Go.Proofs.YtkjkbenmoogdjaaW.PrintMore
attribute [local go_sem] max2_int min2_int max_two min_two max_three min_three max_four min_four   -- for this text's walks alone
set_option linter.unusedVariables false
set_option linter.unusedSimpArgs false

/-! ### connection_Words: function 38 -/
/-- A row of texts of one's own, by its cells. -/
theorem row_ownS {e base : Nat} {w : World} {ok : Nat → Prop} {v : Value} {l : List ByteArray} (h : Kd.R Kd.string e w base ok v l) : w.ownsRow base e 1 v l.length (l.map Value.string) := by
  obtain ⟨_, inner, ho, hl, hr⟩ := h
  have hl' : inner.length = l.length * 1 := hl
  have he : inner = l.map Value.string := by
    apply List.ext_getElem?
    intro t
    by_cases ht : t < inner.length
    · have hx := List.getElem?_eq_getElem (l := l) (i := t) (by omega)
      have h1 : List.take 1 (List.drop (t * 1) inner) = [.string (l[t]'(by omega))] := hr t _ hx
      have g0 := congrArg (fun z : List Value => z[0]?) h1
      simp only [List.getElem?_take, List.getElem?_drop] at g0
      rw [Nat.mul_one] at g0
      rw [List.getElem?_map, hx]
      simpa using g0
    · rw [List.getElem?_eq_none (by omega), List.getElem?_eq_none (by rw [List.length_map]; omega)]
  rw [he] at ho
  exact ho
def connName : ByteArray := ⟨#[67, 111, 110, 110, 101, 99, 116, 105, 111, 110]⟩
/-- What the fields of a name say, joined. -/
def combB (l : List S23) (name : ByteArray) : ByteArray := joinB (allB l name)
/-- P17.1. -/
def wordsB (l : List S23) : List ByteArray × Int :=
  if (splitB (combB l connName)).2 = true then (if (splitB (combB l connName)).1.any (fun x => !octetToken x) = true then ([], 3) else ((splitB (combB l connName)).1.map lowB, 0)) else ([], 3)
def connection_Words.f (l0 : List (S23)) : Option (List ByteArray × Int) := if l0.length ≤ 1000000 ∧ (combB l0 connName).size ≤ 1000000 then some (wordsB l0) else none
theorem combined_f (l : List S23) (name : ByteArray) (h1 : l.length ≤ 1000000) (h2 : name.size ≤ 140737488351232) (h3 : (combB l name).size ≤ 140737488351232) : header_Combined.f l name = some (combB l name, decide (((allB l name).length : Int) > 0)) := by
  unfold header_Combined.f
  rw [show header_All.f l name = some (allB l name) from by unfold header_All.f; rw [if_pos ⟨h1, h2⟩]]
  simp only [Option.bind_some]
  have hl := allB_len l name
  rw [show lists_Join.f (allB l name) = some (combB l name) from by
    unfold lists_Join.f
    rw [if_pos ⟨by omega, by unfold combB joinB at h3; simpa [ByteArray.size] using h3⟩]
    rfl]
  rfl
/-- The first i of some texts as small letters, the others as they are. -/
def lowsTo (s : List ByteArray) (i : Nat) : List ByteArray := (s.take i).map lowB ++ s.drop i
theorem lowsTo_len (s : List ByteArray) (i : Nat) : (lowsTo s i).length = s.length := by
  unfold lowsTo; simp; omega
theorem lowsTo_at (s : List ByteArray) (i : Nat) (h : i < s.length) : (lowsTo s i)[i]? = some (s[i]'h) := by
  unfold lowsTo
  rw [List.getElem?_append_right (by simp; omega)]
  simp
  rw [show i - min i s.length = 0 from by omega]
  simp [h]
theorem lowsTo_set (s : List ByteArray) (i : Nat) (h : i < s.length) : (lowsTo s i).set i (lowB (s[i]'h)) = lowsTo s (i + 1) := by
  unfold lowsTo
  rw [List.set_append_right _ _ (by simp; omega)]
  simp only [List.length_map, List.length_take]
  rw [show i - min i s.length = 0 from by omega, List.drop_eq_getElem_cons h, List.set_cons_zero, ← List.take_append_getElem h, List.map_append]
  simp
set_option maxHeartbeats 8000000 in
set_option maxRecDepth 100000 in
theorem connection_Words.calls (A0 : Option Addr) (c0 : Nat) (l0 : List (S23)) (r1 : List ByteArray) (r2 : Int) (w : World) (hr0 : Kd.C k23 w A0 l0.length l0) (hc0 : l0.length ≤ c0) (h : connection_Words.f l0 = some (r1, r2)) :
    Calls Try.prog 38 #[.slice A0 l0.length c0] w fun e w' => ∃ v0_ : Value, e = .returned (.tuple #[v0_, .int .i64 r2]) ∧ Kd.R Kd.string 9 w' w.heap.size (fun _ => True) v0_ r1 ∧ Below w.heap.size w w' := by
  by_cases hs : l0.length ≤ 1000000 ∧ (combB l0 connName).size ≤ 1000000
  · rw [connection_Words.f, if_pos hs] at h
    have hres := Option.some.inj h
    clear h
    obtain ⟨hsl, hsc⟩ := hs
    have hCM := fun W hr => header_Combined.calls A0 c0 l0 connName (combB l0 connName) (decide (((allB l0 connName).length : Int) > 0)) W hr hc0 (combined_f l0 connName hsl (by decide) (by omega))
    have hC1 := hCM w hr0
    clear hCM hr0
    unfold connName at hC1
    have hSP := fun W => lists_Split.calls (combB l0 connName) (splitB (combB l0 connName)).1 (splitB (combB l0 connName)).2 W (by unfold lists_Split.f; rw [if_pos hsc])
    unfold wordsB at hres
    have hL := splitB_len (combB l0 connName)
    have hZ := splitB_size (combB l0 connName)
    unfold connName at hSP hres hL hZ hsc
    generalize combB l0 ⟨#[67, 111, 110, 110, 101, 99, 116, 105, 111, 110]⟩ = S at hSP hres hC1 hL hZ hsc
    generalize (splitB S).1 = L at hSP hres hL hZ
    generalize (splitB S).2 = ok at hSP hres
    have HRES := Aside0.mk hres
    have HZ := Aside0.mk hZ
    clear hres hZ
    cases ok with
    | false =>
      go_enter Try.func38, Try.ntmps38
      go_wp2_with (first
        | (go_at_call 71; refine hC1.mono ?_; rintro e w1 ⟨rfl, hb1⟩; have HB1 := Aside0.mk hb1; clear hb1)
        | (go_at_call 19; refine (hSP _).mono ?_; rintro e w2 ⟨v, rfl, hr2, hb2⟩; have HR2 := Aside0.mk hr2; have HB2 := Aside0.mk hb2; clear hr2 hb2))
      go_ret2
      have hr := HRES.out
      rw [if_neg (by simp)] at hr
      obtain ⟨rfl, rfl⟩ := Prod.mk.inj hr
      exact ⟨_, rfl, Kd.R_nil _ _ _ _ _, HB1.out.trans (HB2.out.mono HB1.out.size)⟩
    | true =>
      go_enter Try.func38, Try.ntmps38
      go_wp2_with (first
        | (go_at_call 71; refine hC1.mono ?_; rintro e w1 ⟨rfl, hb1⟩; have HB1 := Aside0.mk hb1; clear hb1)
        | (go_at_call 19; refine (hSP _).mono ?_; rintro e w2 ⟨v, rfl, hr2, hb2⟩; have HR2 := Aside0.mk hr2; have HB2 := Aside0.mk hb2; clear hr2 hb2))
      have hw2 : Below w.heap.size w w2 := HB1.out.trans (HB2.out.mono HB1.out.size)
      have HW2 := Aside0.mk hw2
      clear hw2
      rcases RowV.of_own (row_ownS HR2.out) with ⟨rfl, hn0⟩ | ⟨g, cap, rfl, hg, hcap, hmax, hrow⟩
      · have hnil : L = [] := List.eq_nil_of_length_eq_zero hn0
        refine (cntS_nil 72 #[] w2).mono ?_
        rintro e w3 ⟨rfl, rfl⟩
        go_wp2
        go_loopg [28] 0 (fun gg s28 wr => s28 = .int .i64 0 ∧ wr = w3)
        case atStart => exact ⟨rfl, rfl⟩
        case round =>
          obtain ⟨rfl, rfl⟩ := hrel
          go_wp2
          go_ret2
          have hr := HRES.out
          subst hnil
          rw [if_pos trivial, if_neg (by simp)] at hr
          obtain ⟨rfl, rfl⟩ := Prod.mk.inj hr
          exact ⟨_, rfl, Kd.R_nil _ _ _ _ _, HW2.out⟩
      · have hD := cntS_wp (fun x => !octetToken x) 72 #[] (enters_of Try.func72 (by kernel_rfl) rfl) g 0 cap L w2 (by omega) hrow.lt
          (fun j x hj => by rw [Nat.zero_add]; exact hrow.cell j _ (by simp [hj])) (fun W x _ _ => words1_wp x W)
        have HROW := Aside0.mk hrow
        clear hrow
        cases hany : L.any (fun x => !octetToken x) with
        | true =>
          rw [hany] at hD
          refine hD.mono ?_
          rintro e w3 ⟨rfl, hb3⟩
          go_wp2
          go_ret2
          have hr := HRES.out
          rw [if_pos trivial, if_pos hany] at hr
          obtain ⟨rfl, rfl⟩ := Prod.mk.inj hr
          exact ⟨_, rfl, Kd.R_nil _ _ _ _ _, HW2.out.trans (hb3.mono HW2.out.size)⟩
        | false =>
          rw [hany] at hD
          refine hD.mono ?_
          rintro e w3 ⟨rfl, hb3⟩
          have HROW3 := Aside0.mk (HROW.out.below hb3)
          have HW3 := Aside0.mk (HW2.out.trans (hb3.mono HW2.out.size))
          have hr := HRES.out
          rw [if_pos trivial, if_neg (by rw [hany]; simp)] at hr
          obtain ⟨rfl, rfl⟩ := Prod.mk.inj hr
          clear hb3 hany hr
          have hgw : w.heap.size ≤ g := Nat.le_trans HB1.out.size hg
          go_wp2
          go_loopg [28] L.length (fun gg s28 wr => ∃ kk : Nat, kk ≤ L.length ∧ L.length - kk ≤ gg ∧ s28 = .int .i64 kk ∧ Aside0 (Below w.heap.size w wr) ∧ Aside0 (RowV wr g 9 (cap * 1) ((lowsTo L kk).map Value.string)))
          case atStart => exact ⟨0, Nat.zero_le _, by omega, rfl, HW3, HROW3⟩
          case round =>
            obtain ⟨kk, hkk, hgg, rfl, BW, HO⟩ := hrel
            by_cases hlt : kk < L.length
            · have hltz : (kk : Int) < (L.length : Int) := by omega
              obtain ⟨y, hy⟩ : ∃ y, L[kk]'hlt = y := ⟨_, rfl⟩
              have hcell : wr.cell? ⟨g, kk, none⟩ = some (.string y) := HO.out.cell kk _ (by rw [List.getElem?_map, lowsTo_at L kk hlt, hy]; rfl)
              have hys : y.size ≤ S.size := by rw [← hy]; exact HZ.out _ (List.getElem_mem hlt)
              have hLW := octet_Lower.calls y (lowB y) wr (by unfold octet_Lower.f; rw [if_pos (by omega)])
              have HY := Aside0.mk hy
              clear hy
              go_wp2_with (go_at_call 70; refine hLW.mono ?_; rintro e w4 ⟨rfl, hb4⟩; have hc4 := (hb4.cell (p := ⟨g, kk, none⟩) HO.out.lt).trans hcell; have hf4 := (HO.out.below hb4).frozen kk)
              go_roundg (L.length - (kk + 1))
              case measure => omega
              case rel =>
                refine ⟨kk + 1, by omega, by omega, by go_num, ⟨(BW.out.trans (hb4.mono BW.out.size)).setCell hgw _⟩, ⟨?_⟩⟩
                have h6 := (HO.out.below hb4).put kk (.string (lowB y))
                rw [← List.map_set] at h6
                rw [← HY.out, lowsTo_set L kk hlt] at h6
                rw [← HY.out]
                exact h6
            · have hltz : ¬ (kk : Int) < (L.length : Int) := by omega
              have hke : kk = L.length := by omega
              subst hke
              go_wp2
              go_ret2
              have h6 := HO.out
              have e6 : lowsTo L L.length = L.map lowB := by unfold lowsTo; rw [List.take_length, List.drop_length, List.append_nil]
              rw [e6] at h6
              have h7 : wr.ownsRow w.heap.size 9 1 (.slice (some ⟨g, 0, none⟩) L.length cap) L.length ((L.map lowB).map Value.string) := h6.own (by simp) (by omega) hmax hgw
              have e7 : (L.map lowB).length = L.length := by simp
              refine ⟨_, rfl, rowR _ ?_, BW.out⟩
              rw [e7]
              exact h7
  · rw [connection_Words.f, if_neg hs] at h
    cases h


end Go.Proofs.Ytkjkbenmoogdjaa.X
namespace Go.Proofs.Ytkjkbenmoogdjaa.X
open Go.RowKit Go.Proofs.YtkjkbenmoogdjaaW.PrintWords Go.Proofs.YtkjkbenmoogdjaaW.PrintLast Go.Proofs.YtkjkbenmoogdjaaW.PrintMore
attribute [local go_sem] max2_int min2_int max_two min_two max_three min_three max_four min_four   -- for this text's walks alone
set_option linter.unusedVariables false
set_option linter.unusedSimpArgs false

/-! ### hop_held: function 60 -/
def heldL : List ByteArray := [⟨#[72, 111, 115, 116]⟩, ⟨#[67, 111, 110, 116, 101, 110, 116, 45, 76, 101, 110, 103, 116, 104]⟩, ⟨#[86, 105, 97]⟩]
theorem held_wp (w : World) : Calls Try.prog 60 #[] w fun e w' => e = .returned (.agg #[.string ⟨#[72, 111, 115, 116]⟩, .string ⟨#[67, 111, 110, 116, 101, 110, 116, 45, 76, 101, 110, 103, 116, 104]⟩, .string ⟨#[86, 105, 97]⟩]) ∧ Below w.heap.size w w' := by
  go_enter Try.func60, Try.ntmps60
  go_wp2
  go_returns
  exact ⟨rfl, (Below.refl _ w).alloc (Nat.le_refl _) _⟩


end Go.Proofs.Ytkjkbenmoogdjaa.X
namespace Go.Proofs.Ytkjkbenmoogdjaa.X
open Go.RowKit Go.Proofs.YtkjkbenmoogdjaaW.PrintWords Go.Proofs.YtkjkbenmoogdjaaW.PrintLast Go.Proofs.YtkjkbenmoogdjaaW.PrintMore
attribute [local go_sem] max2_int min2_int max_two min_two max_three min_three max_four min_four   -- for this text's walks alone
set_option linter.unusedVariables false
set_option linter.unusedSimpArgs false

/-! ### hop_Names_1_1: function 62 -/
set_option maxHeartbeats 1000000 in
theorem names11_wp (x f0 : ByteArray) (B : Nat) (w : World) (hx : x.size ≤ 140737488351232) (hc : w.cell? ⟨B, 0, none⟩ = some (.string f0)) :
    Calls Try.prog 62 (#[.string x] ++ #[.pointer (some ⟨B, 0, none⟩)]) w fun e w' => e = .returned (.bool (foldB x f0)) ∧ Below w.heap.size w w' := by
  have hC := octet_Fold.calls (x.size + 1) x f0 (foldB x f0) w (octet_fold x f0 hx _ (by omega))
  go_enter Try.func62, Try.ntmps62
  go_wp2_with (go_at_call 35; refine hC.mono ?_; rintro e w' ⟨rfl, hdr⟩)
  obtain ⟨q, rfl⟩ := hdr.out
  go_ret
  exact ⟨rfl, pw_below_drewN (Below.refl _ _) q⟩


end Go.Proofs.Ytkjkbenmoogdjaa.X
namespace Go.Proofs.Ytkjkbenmoogdjaa.X
open Go.RowKit Go.Proofs.YtkjkbenmoogdjaaW.PrintWords Go.Proofs.YtkjkbenmoogdjaaW.PrintLast Go.Proofs.YtkjkbenmoogdjaaW.PrintMore
attribute [local go_sem] max2_int min2_int max_two min_two max_three min_three max_four min_four   -- for this text's walks alone
set_option linter.unusedVariables false
set_option linter.unusedSimpArgs false

/-! ### hop_Names_1: function 61 -/
set_option maxHeartbeats 1000000 in
theorem names1_wp (f0 : ByteArray) (B : Nat) (w : World) (hB : w.heap[B]? = some (.cells #[.string ⟨#[72, 111, 115, 116]⟩, .string ⟨#[67, 111, 110, 116, 101, 110, 116, 45, 76, 101, 110, 103, 116, 104]⟩, .string ⟨#[86, 105, 97]⟩] 66 (0, 0))) :
    Calls Try.prog 61 (#[.string f0] ++ #[.pointer (some ⟨B, 0, none⟩)]) w fun e w' => e = .returned (.bool (heldL.any fun n => foldB n f0)) ∧ Below w.heap.size w w' := by
  have hBl : B < w.heap.size := (Array.getElem?_eq_some_iff.1 hB).1
  obtain ⟨W1, hW1⟩ : ∃ W1, w.alloc (.cells #[.string f0] 9) = W1 := ⟨_, rfl⟩
  have hb1 : Below w.heap.size w W1 := by rw [← hW1]; exact (Below.refl _ w).alloc (Nat.le_refl _) _
  have hs1 : W1.heap.size = w.heap.size + 1 := by rw [← hW1]; simp
  have hcell : W1.cell? ⟨w.heap.size, 0, none⟩ = some (.string f0) := by
    have := World.alloc_heap_new w (.cells #[.string f0] 9)
    rw [hW1] at this
    simp only [World.cell?, this]
    rfl
  have hB1 : W1.heap[B]? = some (.cells #[.string ⟨#[72, 111, 115, 116]⟩, .string ⟨#[67, 111, 110, 116, 101, 110, 116, 45, 76, 101, 110, 103, 116, 104]⟩, .string ⟨#[86, 105, 97]⟩] 66 (0, 0)) := (hb1.block B hBl).trans hB
  have hE := cntS_wp (fun n => foldB n f0) 62 #[.pointer (some ⟨w.heap.size, 0, none⟩)] (enters_of Try.func62 (by kernel_rfl) rfl) B 0 3 heldL W1 (by decide) (by omega)
    (fun j x hj => by
      match j, hj with
      | 0, hj => injection hj with hj; subst hj; simp only [World.cell?, hB1]; rfl
      | 1, hj => injection hj with hj; subst hj; simp only [World.cell?, hB1]; rfl
      | 2, hj => injection hj with hj; subst hj; simp only [World.cell?, hB1]; rfl
      | j + 3, hj => cases hj)
    (fun W x hx hb => names11_wp x f0 w.heap.size W (by
      have : ∀ y ∈ heldL, y.size ≤ 140737488351232 := by decide
      exact this x hx) ((hb.cell (p := ⟨w.heap.size, 0, none⟩) (by show w.heap.size < _; omega)).trans hcell))
  have HB1 := Aside0.mk hb1
  have HS1 := Aside0.mk hs1
  have HW1 := Aside0.mk hW1
  clear hb1 hs1 hW1 hcell hB hB1
  go_enter Try.func61, Try.ntmps61
  go_wp2_with (rw [HW1.out]; go_at_call 56; refine hE.mono ?_; rintro e w' ⟨rfl, hb'⟩)
  go_ret
  exact ⟨rfl, HB1.out.trans (hb'.mono (by have := HS1.out; omega))⟩


end Go.Proofs.Ytkjkbenmoogdjaa.X
namespace Go.Proofs.Ytkjkbenmoogdjaa.X
open Go.RowKit Go.Proofs.YtkjkbenmoogdjaaW.PrintWords Go.Proofs.YtkjkbenmoogdjaaW.PrintLast Go.Proofs.YtkjkbenmoogdjaaW.PrintMore
attribute [local go_sem] max2_int min2_int max_two min_two max_three min_three max_four min_four   -- for this text's walks alone
set_option linter.unusedVariables false
set_option linter.unusedSimpArgs false

/-! ### hop_always: function 63 -/
def alwaysL : List ByteArray := [⟨#[67, 111, 110, 110, 101, 99, 116, 105, 111, 110]⟩, ⟨#[75, 101, 101, 112, 45, 65, 108, 105, 118, 101]⟩, ⟨#[80, 114, 111, 120, 121, 45, 67, 111, 110, 110, 101, 99, 116, 105, 111, 110]⟩, ⟨#[84, 69]⟩, ⟨#[84, 114, 97, 105, 108, 101, 114]⟩, ⟨#[84, 114, 97, 110, 115, 102, 101, 114, 45, 69, 110, 99, 111, 100, 105, 110, 103]⟩, ⟨#[85, 112, 103, 114, 97, 100, 101]⟩]
theorem always_wp (w : World) : Calls Try.prog 63 #[] w fun e w' => e = .returned (.agg #[.string ⟨#[67, 111, 110, 110, 101, 99, 116, 105, 111, 110]⟩, .string ⟨#[75, 101, 101, 112, 45, 65, 108, 105, 118, 101]⟩, .string ⟨#[80, 114, 111, 120, 121, 45, 67, 111, 110, 110, 101, 99, 116, 105, 111, 110]⟩, .string ⟨#[84, 69]⟩, .string ⟨#[84, 114, 97, 105, 108, 101, 114]⟩, .string ⟨#[84, 114, 97, 110, 115, 102, 101, 114, 45, 69, 110, 99, 111, 100, 105, 110, 103]⟩, .string ⟨#[85, 112, 103, 114, 97, 100, 101]⟩]) ∧ Below w.heap.size w w' := by
  go_enter Try.func63, Try.ntmps63
  go_wp2
  go_returns
  exact ⟨rfl, (Below.refl _ w).alloc (Nat.le_refl _) _⟩


end Go.Proofs.Ytkjkbenmoogdjaa.X
namespace Go.Proofs.Ytkjkbenmoogdjaa.X
open Go.RowKit Go.Proofs.YtkjkbenmoogdjaaW.PrintWords Go.Proofs.YtkjkbenmoogdjaaW.PrintLast Go.Proofs.YtkjkbenmoogdjaaW.PrintMore
attribute [local go_sem] max2_int min2_int max_two min_two max_three min_three max_four min_four   -- for this text's walks alone
set_option linter.unusedVariables false
set_option linter.unusedSimpArgs false

/-! ### hop_Names: function 29 -/
def stays (w : ByteArray) : Bool := heldL.any fun n => foldB n w
/-- The words of the fields, without those that nobody may take out. -/
def moreB (l : List S23) : List ByteArray := (wordsB l).1.filter fun w => !stays w
/-- P29.1. -/
def namesB (l : List S23) : List ByteArray := alwaysL ++ moreB l
def namesTag (l : List S23) : Nat := if (moreB l).length = 0 then 68 else 9
def hop_Names.f (l0 : List (S23)) : Option (List ByteArray) := if l0.length ≤ 1000000 ∧ (combB l0 connName).size ≤ 1000000 then some (namesB l0) else none
theorem wordsB_len (l : List S23) : (wordsB l).1.length ≤ (combB l connName).size + 1 := by
  unfold wordsB
  have := splitB_len (combB l connName)
  split
  · split
    · simp
    · simpa using this
  · simp
theorem delS_nil (F : Nat) (caps : Array Value) (w : World) :
    Calls Try.prog 64 #[.slice none 0 0, .func (.func F) #[] caps] w fun e w' => e = .returned (.slice none 0 0) ∧ w' = w := by
  have hI : Calls Try.prog 87 #[.slice none 0 0, .func (.func F) #[] caps] w fun e w' => e = .returned (.int .i64 (-1)) ∧ w' = w := by
    go_enter Try.func87, Try.ntmps87
    go_wp2
    go_loopg [8] 0 (fun gg s8 wr => s8 = .int .i64 0 ∧ wr = w)
    case atStart => exact ⟨rfl, rfl⟩
    case round =>
      obtain ⟨rfl, rfl⟩ := hrel
      go_wp2
      go_ret
      exact ⟨rfl, rfl⟩
  go_enter Try.func64, Try.ntmps64
  go_wp2_with (go_at_call 87; refine hI.mono ?_; rintro e_ w' ⟨rfl, rfl⟩)
  go_ret
  exact ⟨rfl, rfl⟩
theorem always_cells (W : World) (B : Nat) (h : W.heap[B]? = some (.cells #[.string ⟨#[67, 111, 110, 110, 101, 99, 116, 105, 111, 110]⟩, .string ⟨#[75, 101, 101, 112, 45, 65, 108, 105, 118, 101]⟩, .string ⟨#[80, 114, 111, 120, 121, 45, 67, 111, 110, 110, 101, 99, 116, 105, 111, 110]⟩, .string ⟨#[84, 69]⟩, .string ⟨#[84, 114, 97, 105, 108, 101, 114]⟩, .string ⟨#[84, 114, 97, 110, 115, 102, 101, 114, 45, 69, 110, 99, 111, 100, 105, 110, 103]⟩, .string ⟨#[85, 112, 103, 114, 97, 100, 101]⟩] 68 (0, 0))) : ∀ j u, (alwaysL.map Value.string)[j]? = some u → W.cell? ⟨B, j, none⟩ = some u := by
  intro j u hj
  have e : (#[.string ⟨#[67, 111, 110, 110, 101, 99, 116, 105, 111, 110]⟩, .string ⟨#[75, 101, 101, 112, 45, 65, 108, 105, 118, 101]⟩, .string ⟨#[80, 114, 111, 120, 121, 45, 67, 111, 110, 110, 101, 99, 116, 105, 111, 110]⟩, .string ⟨#[84, 69]⟩, .string ⟨#[84, 114, 97, 105, 108, 101, 114]⟩, .string ⟨#[84, 114, 97, 110, 115, 102, 101, 114, 45, 69, 110, 99, 111, 100, 105, 110, 103]⟩, .string ⟨#[85, 112, 103, 114, 97, 100, 101]⟩] : Array Value)[j]? = (alwaysL.map Value.string)[j]? := by
    rw [← Array.getElem?_toList]; rfl
  simp only [World.cell?, h]
  rw [← hj]
  exact e
/-- What the last append of hop.Names gives. -/
theorem names_append (W : World) (n0 fb g cap : Nat) (D : List ByteArray) (hfb : W.heap[fb]? = some (.cells #[.string ⟨#[67, 111, 110, 110, 101, 99, 116, 105, 111, 110]⟩, .string ⟨#[75, 101, 101, 112, 45, 65, 108, 105, 118, 101]⟩, .string ⟨#[80, 114, 111, 120, 121, 45, 67, 111, 110, 110, 101, 99, 116, 105, 111, 110]⟩, .string ⟨#[84, 69]⟩, .string ⟨#[84, 114, 97, 105, 108, 101, 114]⟩, .string ⟨#[84, 114, 97, 110, 115, 102, 101, 114, 45, 69, 110, 99, 111, 100, 105, 110, 103]⟩, .string ⟨#[85, 112, 103, 114, 97, 100, 101]⟩] 68 (0, 0))) (hn0 : n0 ≤ fb) (hn1 : n0 ≤ W.heap.size) (hD : D.length ≤ 1000001) (hrow : RowV W g 9 (cap * 1) (D.map Value.string)) (ty : TypeId) :
    ∃ v7 w7, (Builtin.append_ #[31, 31] ty #[.slice (some ⟨fb, 0, none⟩) 7 7, .slice (some ⟨g, 0, none⟩) D.length cap]).run Try.prog W = .ok v7 w7 ∧ w7.ownsRow n0 (if D.length = 0 then 68 else 9) 1 v7 (alwaysL ++ D).length ((alwaysL ++ D).map Value.string) ∧ Below n0 W w7 := by
  obtain ⟨i0, hi, hz0, hz1, hz2⟩ := info_parts (show (Try.prog.info? 9).map (fun i => (i.zero, i.size, i.bytes)) = some (some (.string ⟨#[]⟩), 1, 16) from by kernel_rfl)
  by_cases h0 : D.length = 0
  · obtain rfl := List.eq_nil_of_length_eq_zero h0
    have hr := run_append_room_cells (P := Try.prog) W 31 ty 9 i0 Try.underlying31 hi fb 0 7 7 ⟨g, 0, none⟩ 0 cap [] (by simp) (fun j u hj => by simp at hj) (fun u hu => by cases hu) (by omega) (fun j hj => by simp at hj) (fun j hj => by simp at hj)
    refine ⟨_, _, hr, ?_, Below.refl _ _⟩
    rw [if_pos (by rfl), List.append_nil]
    exact ⟨rfl, .inr ⟨fb, 7, _, rfl, hn0, hfb, Nat.le_refl _, by decide, rfl, rfl⟩⟩
  · obtain ⟨v7, w7, hr, ho, hg⟩ := run_append_arg_grows (P := Try.prog) W 31 ty 9 i0 (.string ⟨#[]⟩) 1 16 Try.underlying31 hi hz0 hz1 hz2 rfl (by decide) ⟨fb, 0, none⟩ 7 7 (alwaysL.map Value.string) rfl (fun j u hj => by rw [Addr.add_lit, Nat.zero_add]; exact always_cells W fb hfb j u hj) ⟨g, 0, none⟩ D.length cap (D.map Value.string) (by simp) (fun j u hj => by rw [Addr.add_lit, Nat.zero_add]; exact hrow.cell j u hj) (by omega) (by unfold maxLen; omega) (by omega)
    refine ⟨v7, w7, hr, ?_, (Below.refl n0 W).grown hg hn1 (fun k hk => by cases hk)⟩
    rw [if_neg h0, List.map_append, List.length_append, show alwaysL.length = 7 from rfl]
    exact own_weaken ho hn1
theorem names_append_nil (W : World) (n0 fb : Nat) (hfb : W.heap[fb]? = some (.cells #[.string ⟨#[67, 111, 110, 110, 101, 99, 116, 105, 111, 110]⟩, .string ⟨#[75, 101, 101, 112, 45, 65, 108, 105, 118, 101]⟩, .string ⟨#[80, 114, 111, 120, 121, 45, 67, 111, 110, 110, 101, 99, 116, 105, 111, 110]⟩, .string ⟨#[84, 69]⟩, .string ⟨#[84, 114, 97, 105, 108, 101, 114]⟩, .string ⟨#[84, 114, 97, 110, 115, 102, 101, 114, 45, 69, 110, 99, 111, 100, 105, 110, 103]⟩, .string ⟨#[85, 112, 103, 114, 97, 100, 101]⟩] 68 (0, 0))) (hn0 : n0 ≤ fb) (ty : TypeId) :
    (Builtin.append_ #[31, 31] ty #[.slice (some ⟨fb, 0, none⟩) 7 7, .slice none 0 0]).run Try.prog W = .ok (.slice (some ⟨fb, 0, none⟩) 7 7) W ∧ W.ownsRow n0 68 1 (.slice (some ⟨fb, 0, none⟩) 7 7) alwaysL.length (alwaysL.map Value.string) := by
  obtain ⟨i0, hi, hz0, hz1, hz2⟩ := info_parts (show (Try.prog.info? 9).map (fun i => (i.zero, i.size, i.bytes)) = some (some (.string ⟨#[]⟩), 1, 16) from by kernel_rfl)
  refine ⟨?_, ⟨rfl, .inr ⟨fb, 7, _, rfl, hn0, hfb, Nat.le_refl _, by decide, rfl, rfl⟩⟩⟩
  have hu := run_underlying (P := Try.prog) Try.underlying31
  simp [Builtin.append_, hu, Go.sizeOf, typeInfo, hi, Builtin.lenOf, run_firstCells_none, storeCells]
/-- An append whose run is known, at a step of a region that draws. -/
theorem step_append_run {P : Program} {w : World} {ops : Array Oper} {o : Oper} {a : Act} {K : Act → World → Prop} {Q : Exit → Act → World → Prop} {E : Prop} (hgd : o.guard = none) (s x : Operand) (t : TypeId)
    (ho : o.op = .call { callee := .builtin .append, args := #[s, x], argTypes := #[t, t] }) (v1 v2 v' : Value) (w' : World) (hs : a.eval s = v1) (hx : a.eval x = v2)
    (hr : (Builtin.append_ #[t, t] o.type #[v1, v2]).run P w = .ok v' w') (h : K (a.put o.dst v') w') :
    if Region.wanted o (yielded ops a.tmps) = true then Oper.wp P o a w K Q else E := by
  have hw : Region.wanted o (yielded ops a.tmps) = true := by simp [Region.wanted, hgd]
  rw [if_pos hw]
  unfold Oper.wp execOp
  simp only [ho, resolve, invoke, builtin, Sem.run_bind, Sem.run_pure, Result.andThen_ok, List.map_toArray, List.map_cons, List.map_nil, hs, hx, hr]
  exact h
theorem infoStr3 : (Try.prog.info? 9).map (fun i => (i.zero, i.size, i.bytes)) = some (some (.string ⟨#[]⟩), 1, 16) := by kernel_rfl
set_option maxHeartbeats 8000000 in
set_option maxRecDepth 100000 in
theorem hop_Names.calls2 (A0 : Option Addr) (c0 : Nat) (l0 : List S23) (w : World) (hr0 : Kd.C k23 w A0 l0.length l0) (hc0 : l0.length ≤ c0) (h1 : l0.length ≤ 1000000) (h2 : (combB l0 connName).size ≤ 1000000) :
    Calls Try.prog 29 #[.slice A0 l0.length c0] w fun e w' => ∃ v0_ : Value, e = .returned v0_ ∧ Kd.R Kd.string (namesTag l0) w' w.heap.size (fun _ => True) v0_ (namesB l0) ∧ Below w.heap.size w w' := by
  have hW := connection_Words.calls A0 c0 l0 (wordsB l0).1 (wordsB l0).2 w hr0 hc0 (by unfold connection_Words.f; rw [if_pos ⟨h1, h2⟩])
  have hH := fun W => held_wp W
  have hA := fun W => always_wp W
  have hl := wordsB_len l0
  have HTAG : Aside0 (namesTag l0 = if (moreB l0).length = 0 then 68 else 9) := ⟨rfl⟩
  have HNM : Aside0 (namesB l0 = alwaysL ++ (wordsB l0).1.filter fun w => !stays w) := ⟨rfl⟩
  have HMORE : Aside0 (moreB l0 = (wordsB l0).1.filter fun w => !stays w) := ⟨rfl⟩
  generalize (wordsB l0).1 = L at hW hl HNM HMORE
  generalize (wordsB l0).2 = er at hW
  generalize namesTag l0 = tag at HTAG ⊢
  generalize namesB l0 = NB at HNM ⊢
  generalize moreB l0 = MB at HMORE HTAG
  clear hr0
  obtain ⟨i0, hi, hz0, hz1, hz2⟩ := info_parts infoStr3
  go_enter Try.func29, Try.ntmps29
  go_wp2_with (first
    | (go_at_call 38; refine hW.mono ?_; rintro e w1 ⟨v, rfl, hr1, hb1⟩; have HR1 := Aside0.mk hr1; have HB1 := Aside0.mk hb1; clear hr1 hb1)
    | (go_at_call 60; refine (hH _).mono ?_; rintro e w2 ⟨rfl, hb2⟩; have HB2 := Aside0.mk hb2; clear hb2)
    | (go_at_call 63; refine (hA _).mono ?_; rintro e w4 ⟨rfl, hb4⟩; have HB4 := Aside0.mk hb4; clear hb4))
  generalize hw3 : w2.alloc (.cells #[.string ⟨#[72, 111, 115, 116]⟩, .string ⟨#[67, 111, 110, 116, 101, 110, 116, 45, 76, 101, 110, 103, 116, 104]⟩, .string ⟨#[86, 105, 97]⟩] 66) = w3 at HB4
  generalize hw5 : w4.alloc (.cells #[.string ⟨#[67, 111, 110, 110, 101, 99, 116, 105, 111, 110]⟩, .string ⟨#[75, 101, 101, 112, 45, 65, 108, 105, 118, 101]⟩, .string ⟨#[80, 114, 111, 120, 121, 45, 67, 111, 110, 110, 101, 99, 116, 105, 111, 110]⟩, .string ⟨#[84, 69]⟩, .string ⟨#[84, 114, 97, 105, 108, 101, 114]⟩, .string ⟨#[84, 114, 97, 110, 115, 102, 101, 114, 45, 69, 110, 99, 111, 100, 105, 110, 103]⟩, .string ⟨#[85, 112, 103, 114, 97, 100, 101]⟩] 68) = w5
  have s3 : w3.heap.size = w2.heap.size + 1 := by rw [← hw3]; simp
  have s5 : w5.heap.size = w4.heap.size + 1 := by rw [← hw5]; simp
  have b3 : Below w2.heap.size w2 w3 := by rw [← hw3]; exact (Below.refl _ _).alloc (Nat.le_refl _) _
  have b5 : Below w4.heap.size w4 w5 := by rw [← hw5]; exact (Below.refl _ _).alloc (Nat.le_refl _) _
  have c3 : w3.heap[w2.heap.size]? = some (.cells #[.string ⟨#[72, 111, 115, 116]⟩, .string ⟨#[67, 111, 110, 116, 101, 110, 116, 45, 76, 101, 110, 103, 116, 104]⟩, .string ⟨#[86, 105, 97]⟩] 66 (0, 0)) := by rw [← hw3]; exact World.alloc_heap_new _ _
  have c5 : w5.heap[w4.heap.size]? = some (.cells #[.string ⟨#[67, 111, 110, 110, 101, 99, 116, 105, 111, 110]⟩, .string ⟨#[75, 101, 101, 112, 45, 65, 108, 105, 118, 101]⟩, .string ⟨#[80, 114, 111, 120, 121, 45, 67, 111, 110, 110, 101, 99, 116, 105, 111, 110]⟩, .string ⟨#[84, 69]⟩, .string ⟨#[84, 114, 97, 105, 108, 101, 114]⟩, .string ⟨#[84, 114, 97, 110, 115, 102, 101, 114, 45, 69, 110, 99, 111, 100, 105, 110, 103]⟩, .string ⟨#[85, 112, 103, 114, 97, 100, 101]⟩] 68 (0, 0)) := by rw [← hw5]; exact World.alloc_heap_new _ _
  have z1 := HB1.out.size
  have z2 := HB2.out.size
  have z4 := HB4.out.size
  have b35 : Below w3.heap.size w3 w5 := HB4.out.trans (b5.mono z4)
  have c35 : w5.heap[w2.heap.size]? = some (.cells #[.string ⟨#[72, 111, 115, 116]⟩, .string ⟨#[67, 111, 110, 116, 101, 110, 116, 45, 76, 101, 110, 103, 116, 104]⟩, .string ⟨#[86, 105, 97]⟩] 66 (0, 0)) := (b35.block _ (by omega)).trans c3
  have b15 : Below w1.heap.size w1 w5 := (HB2.out.trans (b3.mono z2)).trans (b35.mono (by omega))
  have b05 : Below w.heap.size w w5 := HB1.out.trans (b15.mono z1)
  have HW5 := Aside0.mk (⟨b05, b15, c35, c5⟩ : _ ∧ _ ∧ _ ∧ _)
  have q3 : w2.heap.size < w3.heap.size := by omega
  have q5 : w4.heap.size < w5.heap.size := by omega
  clear hw3 hw5 s3 s5 b3 b5 c3 c5 b35 c35 b15 b05
  rcases RowV.of_own (row_ownS HR1.out) with ⟨rfl, hn0⟩ | ⟨g, cap, rfl, hg, hcap, hmax, hrow⟩
  · have hnil : L = [] := List.eq_nil_of_length_eq_zero hn0
    subst hnil
    have hD := delS_nil 61 #[.pointer (some ⟨w2.heap.size, 0, none⟩)] w5.drew
    obtain ⟨hap, hown⟩ := names_append_nil w5.drew w.heap.size w4.heap.size HW5.out.2.2.2 (by omega) 31
    have HOWN := Aside0.mk hown
    clear hown
    go_region_with (go_at_call 64; refine hD.mono ?_; rintro e_ w6 ⟨rfl, rfl⟩)
    all_goals
      go_wp2
      go_ret
      have e1 : MB.length = 0 := by rw [HMORE.out]; rfl
      have e2 : NB = alwaysL := by rw [HNM.out]; rfl
      refine ⟨_, rfl, ?_, HW5.out.1.drew⟩
      rw [HTAG.out, if_pos e1, e2]
      exact rowR _ HOWN.out
  · have hrow5 := hrow.below HW5.out.2.1
    have hglt := hrow.lt
    have hD := delS_wp stays 61 #[.pointer (some ⟨w2.heap.size, 0, none⟩)] (enters_of Try.func61 (by kernel_rfl) rfl) w.heap.size g 9 (cap * 1) cap L w5.drew (by omega) hcap (by omega) hrow5
      (fun W x hx hk => names1_wp x w2.heap.size W ((hk.2.2 w2.heap.size (by show w2.heap.size < w5.heap.size; omega) (by omega)).trans HW5.out.2.2.1))
    have f5 : (L.filter fun x => !stays x).length ≤ 1000001 := Nat.le_trans (List.length_filter_le _ _) (by omega)
    generalize hDD : (L.filter fun x => !stays x) = D at hD HNM HMORE f5
    clear hDD
    have HD := Aside0.mk hD
    have f2 : w4.heap.size ≠ g := by omega
    have f3 : w.heap.size ≤ w4.heap.size := by omega
    have f4 : w.heap.size ≤ w5.drew.heap.size := by show w.heap.size ≤ w5.heap.size; omega
    clear hD hrow hrow5
    go_region_law (first | (refine step_append_run (by rfl) _ _ 31 (by rfl) _ _ _ _ (by rfl) (by rfl) hrun ?_) | (go_simp; go_wp2_with (go_at_call 64; refine HD.out.mono ?_; rintro e_ w6 ⟨rfl, hk6, hr6⟩; obtain ⟨v7, w7, hrun, hown, hb7⟩ := names_append w6 w.heap.size w4.heap.size g cap D ((hk6.2.2 w4.heap.size q5 f2).trans HW5.out.2.2.2) f3 (Nat.le_trans f4 hk6.2.1) f5 hr6 31; have HK6 := Aside0.mk hk6; have HOWN := Aside0.mk hown; have HB7 := Aside0.mk hb7; clear hk6 hr6 hown hb7)))
    all_goals
      go_wp2
      go_ret
      refine ⟨_, rfl, ?_, (HW5.out.1.drew.trans HK6.out.1).trans HB7.out⟩
      rw [HTAG.out, HMORE.out, HNM.out]
      exact rowR _ HOWN.out
set_option maxRecDepth 100000 in
theorem hop_Names.calls (A0 : Option Addr) (c0 : Nat) (l0 : List S23) (r : List ByteArray) (w : World) (hr0 : Kd.C k23 w A0 l0.length l0) (hc0 : l0.length ≤ c0) (h : hop_Names.f l0 = some r) :
    Calls Try.prog 29 #[.slice A0 l0.length c0] w fun e w' => ∃ v0_ : Value, e = .returned v0_ ∧ Kd.R Kd.string (namesTag l0) w' w.heap.size (fun _ => True) v0_ r ∧ Below w.heap.size w w' := by
  unfold hop_Names.f at h
  by_cases hs : l0.length ≤ 1000000 ∧ (combB l0 connName).size ≤ 1000000
  · rw [if_pos hs] at h
    obtain rfl := Option.some.inj h
    exact hop_Names.calls2 A0 c0 l0 w hr0 hc0 hs.1 hs.2
  · rw [if_neg hs] at h
    cases h


end Go.Proofs.Ytkjkbenmoogdjaa.X
namespace Go.Proofs.Ytkjkbenmoogdjaa.X
open Go.RowKit Go.Proofs.YtkjkbenmoogdjaaW.PrintWords Go.Proofs.YtkjkbenmoogdjaaW.PrintLast Go.Proofs.YtkjkbenmoogdjaaW.PrintMore
attribute [local go_sem] max2_int min2_int max_two min_two max_three min_three max_four min_four   -- for this text's walks alone
set_option linter.unusedVariables false
set_option linter.unusedSimpArgs false

/-! ### hop_Strip: function 32 -/
def hop_Strip.f (l0 : List (S23)) : Option ((List (S23))) := (hop_Names.f l0).bind fun t101 => ((header_Without.f l0 t101).bind fun t104 => (some t104))
set_option maxHeartbeats 8000000 in
set_option maxRecDepth 100000 in
theorem hop_Strip.calls (A0 : Option Addr) (c0 : Nat) (l0 : List (S23)) (r : List (S23)) (w : World) (hr0 : Kd.C k23 w A0 l0.length l0) (hc0 : l0.length ≤ c0) (h : hop_Strip.f l0 = some r) :
    Calls Try.prog 32 #[.slice A0 l0.length c0] w fun e w' => ∃ v0_ : Value, e = .returned (v0_) ∧ Kd.R k23 23 w' w.heap.size (fun _ => True) v0_ r ∧ Below w.heap.size w w' := by
  have HR0 := Aside0.mk hr0
  have HC0 := Aside0.mk hc0
  clear hr0 hc0
  have HB := Aside0.mk (Below.refl w.heap.size w)
  have H : ((hop_Names.f l0).bind fun t101 => ((header_Without.f l0 t101).bind fun t104 => (some t104))) = some r := h
  clear h
  replace H := Option.bind_eq_some_iff.mp H
  obtain ⟨t101, A20, H⟩ := H
  replace H : ((header_Without.f l0 t101).bind fun t104 => (some t104)) = some r := H
  have A2 := Aside0.mk A20
  clear A20
  replace H := Option.bind_eq_some_iff.mp H
  obtain ⟨t104, A30, H⟩ := H
  replace H : (some t104) = some r := H
  have A3 := Aside0.mk A30
  clear A30
  obtain rfl := Option.some.inj H
  go_enter Try.func32, Try.ntmps32
  go_wp2_with (first | ((with_reducible refine gate_callee (f := 29) rfl ?_); refine goesL_ (some 5) rfl rfl Try.func29 (by kernel_rfl) rfl #[.slice A0 l0.length c0] rfl (by (try simp only [List.map_toArray, List.map_cons, List.map_nil]); first | done | rfl | (simp only [List.length_drop, List.length_take]; rfl)) ?_; (with_reducible refine (hop_Names.calls _ _ l0 t101 _ ?side1 ?side2 A2.out).mono ?_); (case side1 => repeat (first | exact HR0.out | (with_reducible refine Kd.C_alloc ?_ _) | (with_reducible refine Kd.C_drewN ?_ _) | (with_reducible refine Kd.C_drew ?_))); (case side2 => exact HC0.out); rintro e w4 ⟨v102, rfl, ho0, hb⟩; refine ⟨_, rfl, ?_⟩; have n0_ := Aside0.mk (Kd.R_lower ho0 (below_size (by repeat (first | (with_reducible first | exact HB.out | apply below_alloc | apply pw_below_drewN | apply below_drew1) | exact HB.out)))); have n1_ := Aside0.mk (below_step (by repeat (first | (with_reducible first | exact HB.out | apply below_alloc | apply pw_below_drewN | apply below_drew1) | exact HB.out)) hb); clear HB; have HO103 := n0_; have HB := n1_; clear n0_ n1_; (try clear hb); (try clear hb2); (try clear hk); (try clear hi); (try clear ho0); obtain ⟨Ao5, co5, eo5⟩ := Kd.R_slice HO103.out; subst eo5) | ((with_reducible refine gate_callee (f := 65) rfl ?_); refine goesL_ (some 6) rfl rfl Try.func65 (by kernel_rfl) rfl #[.slice A0 l0.length c0, .slice Ao5 t101.length co5] rfl (by (try simp only [List.map_toArray, List.map_cons, List.map_nil]); first | done | rfl | (simp only [List.length_drop, List.length_take]; rfl)) ?_; (with_reducible refine (header_Without.calls _ _ l0 _ _ t101 t104 _ ?side1 ?side2 ?side3 ?side4 A3.out).mono ?_); (case side1 => repeat (first | exact (Kd.C_below HR0.out HB.out) | (with_reducible refine Kd.C_alloc ?_ _) | (with_reducible refine Kd.C_drewN ?_ _) | (with_reducible refine Kd.C_drew ?_))); (case side2 => exact HC0.out); (case side3 => repeat (first | exact (Kd.R_reads' HO103.out).2.2 | (with_reducible refine Kd.C_alloc ?_ _) | (with_reducible refine Kd.C_drewN ?_ _) | (with_reducible refine Kd.C_drew ?_))); (case side4 => exact (Kd.R_reads' HO103.out).2.1); rintro e w6 ⟨v105, rfl, ho0, hb⟩; refine ⟨_, rfl, ?_⟩; have n0_ := Aside0.mk (Kd.R_below (by (with_reducible repeat (first | apply Kd.R_alloc | apply Kd.R_drewN | apply Kd.R_drew)); exact HO103.out) hb); have n1_ := Aside0.mk (Kd.R_lower ho0 (below_size (by repeat (first | (with_reducible first | exact HB.out | apply below_alloc | apply pw_below_drewN | apply below_drew1) | exact HB.out)))); have n2_ := Aside0.mk (below_step (by repeat (first | (with_reducible first | exact HB.out | apply below_alloc | apply pw_below_drewN | apply below_drew1) | exact HB.out)) hb); clear HO103; clear HB; have HO103 := n0_; have HO106 := n1_; have HB := n2_; clear n0_ n1_ n2_; (try clear hb); (try clear hb2); (try clear hk); (try clear hi); (try clear ho0)))
  go_ret
  exact ⟨_, by first | rfl | (simp [errW_none, errW_some] <;> rfl) | (simp [*, errW_none, errW_some] <;> rfl), by (with_reducible repeat (first | apply Kd.R_alloc | apply Kd.R_drewN | apply Kd.R_drew)); exact HO106.out, by repeat (first | (with_reducible first | exact HB.out | apply below_alloc | apply pw_below_drewN | apply below_drew1) | exact HB.out)⟩

end Go.Proofs.Ytkjkbenmoogdjaa.X
namespace Go.Proofs.Ytkjkbenmoogdjaa.X
open Go.RowKit Go.Proofs.YtkjkbenmoogdjaaW.PrintWords Go.Proofs.YtkjkbenmoogdjaaW.PrintLast Go.Proofs.YtkjkbenmoogdjaaW.PrintMore
attribute [local go_sem] max2_int min2_int max_two min_two max_three min_three max_four min_four   -- for this text's walks alone
set_option linter.unusedVariables false
set_option linter.unusedSimpArgs false

theorem eqA23 (d : Nat) (w : World) (x0 y0 : ByteArray) (x1 y1 : ByteArray) :
    (Op.equalIn (d + 2) 23 (.agg #[.string x0, .string x1]) (.agg #[.string y0, .string y1])).run Try.prog w = .ok (x0.toList == y0.toList && (x1.toList == y1.toList)) w := by
  refine eqA_of Try.underlying23 (by kernel_rfl) ?_
  refine eqf_cons (by rfl) (by go_simp; rfl) (by go_simp; rfl) (by go_simp) ?_
  exact eqf_last (by rfl) (by go_simp; rfl) (by go_simp; rfl) (by go_simp)
end Go.Proofs.Ytkjkbenmoogdjaa.X
namespace Go.Proofs.Ytkjkbenmoogdjaa.X
open Go.RowKit Go.Proofs.YtkjkbenmoogdjaaW.PrintWords Go.Proofs.YtkjkbenmoogdjaaW.PrintLast Go.Proofs.YtkjkbenmoogdjaaW.PrintMore
attribute [local go_sem] max2_int min2_int max_two min_two max_three min_three max_four min_four   -- for this text's walks alone
set_option linter.unusedVariables false
set_option linter.unusedSimpArgs false

attribute [local go_sem high] eqA23
/-! ### abutmentlaw29_lives: function 28 -/
def abutmentlaw29_lives.f  : Option (Bool) := (hop_Strip.f (([(⟨(⟨#[67, 111, 110, 110, 101, 99, 116, 105, 111, 110]⟩ : ByteArray), (⟨#[99, 108, 111, 115, 101, 44, 32, 88, 45, 65]⟩ : ByteArray)⟩ : S23), (⟨(⟨#[120, 45, 97]⟩ : ByteArray), (⟨#[49]⟩ : ByteArray)⟩ : S23), (⟨(⟨#[88, 45, 66]⟩ : ByteArray), (⟨#[50]⟩ : ByteArray)⟩ : S23)] : List (S23)))).bind fun t104 => (if (t104.length : Int) = 1 then (if 0 < (t104.length : Int) then (some ((((rd_T23 t104 0).f0).toList) == ([88, 45, 66] : List UInt8) && ((((rd_T23 t104 0).f1).toList) == ([50] : List UInt8)))) else (none)) else (some false))
set_option maxHeartbeats 8000000 in
set_option maxRecDepth 100000 in
theorem abutmentlaw29_lives.calls  (r : Bool) (w : World) (h : abutmentlaw29_lives.f  = some r) :
    Calls Try.prog 28 #[] w fun e w' => e = .returned (.bool r) ∧ Below w.heap.size w w' := by
  have hu23 := Try.underlying23
  have HB := Aside0.mk (Below.refl w.heap.size w)
  have H : ((hop_Strip.f (([(⟨(⟨#[67, 111, 110, 110, 101, 99, 116, 105, 111, 110]⟩ : ByteArray), (⟨#[99, 108, 111, 115, 101, 44, 32, 88, 45, 65]⟩ : ByteArray)⟩ : S23), (⟨(⟨#[120, 45, 97]⟩ : ByteArray), (⟨#[49]⟩ : ByteArray)⟩ : S23), (⟨(⟨#[88, 45, 66]⟩ : ByteArray), (⟨#[50]⟩ : ByteArray)⟩ : S23)] : List (S23)))).bind fun t104 => (if (t104.length : Int) = 1 then (if 0 < (t104.length : Int) then (some ((((rd_T23 t104 0).f0).toList) == ([88, 45, 66] : List UInt8) && ((((rd_T23 t104 0).f1).toList) == ([50] : List UInt8)))) else (none)) else (some false))) = some r := h
  clear h
  obtain ⟨y101, hy101⟩ : ∃ y_ : List (S23), y_ = (([(⟨(⟨#[67, 111, 110, 110, 101, 99, 116, 105, 111, 110]⟩ : ByteArray), (⟨#[99, 108, 111, 115, 101, 44, 32, 88, 45, 65]⟩ : ByteArray)⟩ : S23), (⟨(⟨#[120, 45, 97]⟩ : ByteArray), (⟨#[49]⟩ : ByteArray)⟩ : S23), (⟨(⟨#[88, 45, 66]⟩ : ByteArray), (⟨#[50]⟩ : ByteArray)⟩ : S23)] : List (S23))) := ⟨_, rfl⟩
  replace H : ((hop_Strip.f y101).bind fun t104 => (if (t104.length : Int) = 1 then (if 0 < (t104.length : Int) then (some ((((rd_T23 t104 0).f0).toList) == ([88, 45, 66] : List UInt8) && ((((rd_T23 t104 0).f1).toList) == ([50] : List UInt8)))) else (none)) else (some false))) = some r := by first | (rw [hy101]; with_reducible exact H) | (have H2_ := (Option.bind_some _ _).symm.trans H; rw [hy101]; with_reducible exact H2_) | (have H2_ := (Option.bind_some _ _).symm.trans H; with_reducible exact H2_) | with_reducible exact H | (rw [hy101]; exact H) | exact H
  have Ny101 := Aside0.mk hy101
  clear hy101
  replace H := Option.bind_eq_some_iff.mp H
  obtain ⟨t104, A10, H⟩ := H
  replace H : (if (t104.length : Int) = 1 then (if 0 < (t104.length : Int) then (some ((((rd_T23 t104 0).f0).toList) == ([88, 45, 66] : List UInt8) && ((((rd_T23 t104 0).f1).toList) == ([50] : List UInt8)))) else (none)) else (some false)) = some r := H
  have A1 := Aside0.mk A10
  clear A10
  by_cases c2 : (t104.length : Int) = 1
  · rw [if_pos c2] at H
    have c2b0 : ((t104.length : Int) == 1) = true := beq_iff_eq.mpr c2
    have c2b1 : ((t104.length : Int) != 1) = false := bne_eq_false_iff_eq.mpr c2
    clear c2
    by_cases c3 : 0 < (t104.length : Int)
    · rw [if_pos c3] at H
      have c3b0 : decide (0 < (t104.length : Int)) = true := decide_eq_true c3
      have c3b1 : decide (0 < t104.length) = true := decide_eq_true (by omega)
      clear c3
      obtain rfl := Option.some.inj H
      go_enter Try.func28, Try.ntmps28
      go_wp2_with (first | ((with_reducible refine gate_dst (N := 5) rfl ?_); refine Kd.R_lit k23 _ 23 ?hg (N := 5) ?hd (xs := ([(⟨(⟨#[67, 111, 110, 110, 101, 99, 116, 105, 111, 110]⟩ : ByteArray), (⟨#[99, 108, 111, 115, 101, 44, 32, 88, 45, 65]⟩ : ByteArray)⟩ : S23), (⟨(⟨#[120, 45, 97]⟩ : ByteArray), (⟨#[49]⟩ : ByteArray)⟩ : S23), (⟨(⟨#[88, 45, 66]⟩ : ByteArray), (⟨#[50]⟩ : ByteArray)⟩ : S23)] : List (S23))) (inner := [.string (⟨#[67, 111, 110, 110, 101, 99, 116, 105, 111, 110]⟩ : ByteArray), .string (⟨#[99, 108, 111, 115, 101, 44, 32, 88, 45, 65]⟩ : ByteArray), .string (⟨#[120, 45, 97]⟩ : ByteArray), .string (⟨#[49]⟩ : ByteArray), .string (⟨#[88, 45, 66]⟩ : ByteArray), .string (⟨#[50]⟩ : ByteArray)]) (ok := fun _ => True) (okp := fun _ => True) ?hr ?hp (fun _ hk => hk) trivial (Below.refl _ _) (Nat.le_refl _) (by simp) ?_; (case hd => rfl); (case hg => rfl); (case hr => first | (go_simp; done) | (go_simp; rfl)); (case hp => exact (Reps.c2 (show Kd.M k23 _ _ _ (⟨(⟨#[67, 111, 110, 110, 101, 99, 116, 105, 111, 110]⟩ : ByteArray), (⟨#[99, 108, 111, 115, 101, 44, 32, 88, 45, 65]⟩ : ByteArray)⟩ : S23) [.string (⟨#[67, 111, 110, 110, 101, 99, 116, 105, 111, 110]⟩ : ByteArray), .string (⟨#[99, 108, 111, 115, 101, 44, 32, 88, 45, 65]⟩ : ByteArray)] from (k23_mkM _ _ _ (⟨(⟨#[67, 111, 110, 110, 101, 99, 116, 105, 111, 110]⟩ : ByteArray), (⟨#[99, 108, 111, 115, 101, 44, 32, 88, 45, 65]⟩ : ByteArray)⟩ : S23) )) (Reps.c2 (show Kd.M k23 _ _ _ (⟨(⟨#[120, 45, 97]⟩ : ByteArray), (⟨#[49]⟩ : ByteArray)⟩ : S23) [.string (⟨#[120, 45, 97]⟩ : ByteArray), .string (⟨#[49]⟩ : ByteArray)] from (k23_mkM _ _ _ (⟨(⟨#[120, 45, 97]⟩ : ByteArray), (⟨#[49]⟩ : ByteArray)⟩ : S23) )) (Reps.c2 (show Kd.M k23 _ _ _ (⟨(⟨#[88, 45, 66]⟩ : ByteArray), (⟨#[50]⟩ : ByteArray)⟩ : S23) [.string (⟨#[88, 45, 66]⟩ : ByteArray), .string (⟨#[50]⟩ : ByteArray)] from (k23_mkM _ _ _ (⟨(⟨#[88, 45, 66]⟩ : ByteArray), (⟨#[50]⟩ : ByteArray)⟩ : S23) )) (Reps.none _ _))))); intro v102 w4 ho5 hb hg_ hnew_; clear hg_ hnew_; (first | rw [← Ny101.out] at ho5 | (simp only [Int.reduceToNat] at ho5; rw [← Ny101.out] at ho5)); have n0_ := Aside0.mk (Kd.R_lower ho5 (below_size (by repeat (first | (with_reducible first | exact HB.out | apply below_alloc | apply pw_below_drewN | apply below_drew1) | exact HB.out)))); have n1_ := Aside0.mk (below_step (by repeat (first | (with_reducible first | exact HB.out | apply below_alloc | apply pw_below_drewN | apply below_drew1) | exact HB.out)) hb); clear HB; have HO103 := n0_; have HB := n1_; clear n0_ n1_; clear hb ho5; obtain ⟨Ao6, co6, eo6⟩ := Kd.R_slice HO103.out; subst eo6) | ((with_reducible refine gate_callee (f := 32) rfl ?_); refine goesL_ (some 6) rfl rfl Try.func32 (by kernel_rfl) rfl #[.slice Ao6 y101.length co6] rfl (by (try simp only [List.map_toArray, List.map_cons, List.map_nil]); first | done | rfl | (simp only [List.length_drop, List.length_take]; rfl)) ?_; (with_reducible refine (hop_Strip.calls _ _ y101 t104 _ ?side1 ?side2 A1.out).mono ?_); (case side1 => repeat (first | exact (Kd.R_reads' HO103.out).2.2 | (with_reducible refine Kd.C_alloc ?_ _) | (with_reducible refine Kd.C_drewN ?_ _) | (with_reducible refine Kd.C_drew ?_))); (case side2 => exact (Kd.R_reads' HO103.out).2.1); rintro e w7 ⟨v105, rfl, ho0, hb⟩; refine ⟨_, rfl, ?_⟩; have n0_ := Aside0.mk (Kd.R_elder' (by (with_reducible repeat (first | apply Kd.R_alloc | apply Kd.R_drewN | apply Kd.R_drew)); exact HO103.out) (Kd.R_base ho0) hb); have n1_ := Aside0.mk (Kd.R_lower (Kd.R_new' ho0 (Kd.R_lt (by (with_reducible repeat (first | apply Kd.R_alloc | apply Kd.R_drewN | apply Kd.R_drew)); exact HO103.out))) (below_size (by repeat (first | (with_reducible first | exact HB.out | apply below_alloc | apply pw_below_drewN | apply below_drew1) | exact HB.out)))); have n2_ := Aside0.mk (below_step (by repeat (first | (with_reducible first | exact HB.out | apply below_alloc | apply pw_below_drewN | apply below_drew1) | exact HB.out)) hb); clear HO103; clear HB; have HO103 := n0_; have HO106 := n1_; have HB := n2_; clear n0_ n1_ n2_; (try clear hb); (try clear hb2); (try clear hk); (try clear hi); (try clear ho0); obtain ⟨Ao8, co8, eo8⟩ := Kd.R_slice HO106.out; subst eo8; have p107 : 0 ≤ (0 : Int) := (by omega); have q107 : 0 < (t104.length : Int) := of_decide_eq_true (by first | (with_reducible assumption) | assumption); obtain ⟨ad107, e107, hx107_0, hx107_1⟩ := at_T23 (Kd.R_reads' HO106.out).2.2 0 p107 q107; cases e107; have qi107 : (0 < t104.length) = True := eq_true (by omega); (try rw [show ((0 : Int)).toNat = 0 from rfl] at hx107_0); (try rw [show 0 * 2 = 0 from rfl] at hx107_0); (try rw [Addr.add_zero'] at hx107_0); (try rw [show ((0 : Int)).toNat = 0 from rfl] at hx107_1); (try rw [show 0 * 2 = 0 from rfl] at hx107_1); (try rw [Addr.add_zero'] at hx107_1); replace p107 := eq_true p107; replace q107 := eq_true q107))
      go_ret
      exact ⟨by first | rfl | (simp [errW_none, errW_some] <;> rfl) | (simp [*, errW_none, errW_some] <;> rfl), by repeat (first | (with_reducible first | exact HB.out | apply below_alloc | apply pw_below_drewN | apply below_drew1) | exact HB.out)⟩
    · rw [if_neg c3] at H
      exact absurd H (by simp)
  · rw [if_neg c2] at H
    have c2b0 : ((t104.length : Int) == 1) = false := beq_eq_false_iff_ne.mpr c2
    have c2b1 : ((t104.length : Int) != 1) = true := bne_iff_ne.mpr c2
    obtain rfl := Option.some.inj H
    go_enter Try.func28, Try.ntmps28
    go_wp2_with (first | ((with_reducible refine gate_dst (N := 5) rfl ?_); refine Kd.R_lit k23 _ 23 ?hg (N := 5) ?hd (xs := ([(⟨(⟨#[67, 111, 110, 110, 101, 99, 116, 105, 111, 110]⟩ : ByteArray), (⟨#[99, 108, 111, 115, 101, 44, 32, 88, 45, 65]⟩ : ByteArray)⟩ : S23), (⟨(⟨#[120, 45, 97]⟩ : ByteArray), (⟨#[49]⟩ : ByteArray)⟩ : S23), (⟨(⟨#[88, 45, 66]⟩ : ByteArray), (⟨#[50]⟩ : ByteArray)⟩ : S23)] : List (S23))) (inner := [.string (⟨#[67, 111, 110, 110, 101, 99, 116, 105, 111, 110]⟩ : ByteArray), .string (⟨#[99, 108, 111, 115, 101, 44, 32, 88, 45, 65]⟩ : ByteArray), .string (⟨#[120, 45, 97]⟩ : ByteArray), .string (⟨#[49]⟩ : ByteArray), .string (⟨#[88, 45, 66]⟩ : ByteArray), .string (⟨#[50]⟩ : ByteArray)]) (ok := fun _ => True) (okp := fun _ => True) ?hr ?hp (fun _ hk => hk) trivial (Below.refl _ _) (Nat.le_refl _) (by simp) ?_; (case hd => rfl); (case hg => rfl); (case hr => first | (go_simp; done) | (go_simp; rfl)); (case hp => exact (Reps.c2 (show Kd.M k23 _ _ _ (⟨(⟨#[67, 111, 110, 110, 101, 99, 116, 105, 111, 110]⟩ : ByteArray), (⟨#[99, 108, 111, 115, 101, 44, 32, 88, 45, 65]⟩ : ByteArray)⟩ : S23) [.string (⟨#[67, 111, 110, 110, 101, 99, 116, 105, 111, 110]⟩ : ByteArray), .string (⟨#[99, 108, 111, 115, 101, 44, 32, 88, 45, 65]⟩ : ByteArray)] from (k23_mkM _ _ _ (⟨(⟨#[67, 111, 110, 110, 101, 99, 116, 105, 111, 110]⟩ : ByteArray), (⟨#[99, 108, 111, 115, 101, 44, 32, 88, 45, 65]⟩ : ByteArray)⟩ : S23) )) (Reps.c2 (show Kd.M k23 _ _ _ (⟨(⟨#[120, 45, 97]⟩ : ByteArray), (⟨#[49]⟩ : ByteArray)⟩ : S23) [.string (⟨#[120, 45, 97]⟩ : ByteArray), .string (⟨#[49]⟩ : ByteArray)] from (k23_mkM _ _ _ (⟨(⟨#[120, 45, 97]⟩ : ByteArray), (⟨#[49]⟩ : ByteArray)⟩ : S23) )) (Reps.c2 (show Kd.M k23 _ _ _ (⟨(⟨#[88, 45, 66]⟩ : ByteArray), (⟨#[50]⟩ : ByteArray)⟩ : S23) [.string (⟨#[88, 45, 66]⟩ : ByteArray), .string (⟨#[50]⟩ : ByteArray)] from (k23_mkM _ _ _ (⟨(⟨#[88, 45, 66]⟩ : ByteArray), (⟨#[50]⟩ : ByteArray)⟩ : S23) )) (Reps.none _ _))))); intro v102 w9 ho10 hb hg_ hnew_; clear hg_ hnew_; (first | rw [← Ny101.out] at ho10 | (simp only [Int.reduceToNat] at ho10; rw [← Ny101.out] at ho10)); have n0_ := Aside0.mk (Kd.R_lower ho10 (below_size (by repeat (first | (with_reducible first | exact HB.out | apply below_alloc | apply pw_below_drewN | apply below_drew1) | exact HB.out)))); have n1_ := Aside0.mk (below_step (by repeat (first | (with_reducible first | exact HB.out | apply below_alloc | apply pw_below_drewN | apply below_drew1) | exact HB.out)) hb); clear HB; have HO103 := n0_; have HB := n1_; clear n0_ n1_; clear hb ho10; obtain ⟨Ao11, co11, eo11⟩ := Kd.R_slice HO103.out; subst eo11) | ((with_reducible refine gate_callee (f := 32) rfl ?_); refine goesL_ (some 6) rfl rfl Try.func32 (by kernel_rfl) rfl #[.slice Ao11 y101.length co11] rfl (by (try simp only [List.map_toArray, List.map_cons, List.map_nil]); first | done | rfl | (simp only [List.length_drop, List.length_take]; rfl)) ?_; (with_reducible refine (hop_Strip.calls _ _ y101 t104 _ ?side1 ?side2 A1.out).mono ?_); (case side1 => repeat (first | exact (Kd.R_reads' HO103.out).2.2 | (with_reducible refine Kd.C_alloc ?_ _) | (with_reducible refine Kd.C_drewN ?_ _) | (with_reducible refine Kd.C_drew ?_))); (case side2 => exact (Kd.R_reads' HO103.out).2.1); rintro e w12 ⟨v105, rfl, ho0, hb⟩; refine ⟨_, rfl, ?_⟩; have n0_ := Aside0.mk (Kd.R_elder' (by (with_reducible repeat (first | apply Kd.R_alloc | apply Kd.R_drewN | apply Kd.R_drew)); exact HO103.out) (Kd.R_base ho0) hb); have n1_ := Aside0.mk (Kd.R_lower (Kd.R_new' ho0 (Kd.R_lt (by (with_reducible repeat (first | apply Kd.R_alloc | apply Kd.R_drewN | apply Kd.R_drew)); exact HO103.out))) (below_size (by repeat (first | (with_reducible first | exact HB.out | apply below_alloc | apply pw_below_drewN | apply below_drew1) | exact HB.out)))); have n2_ := Aside0.mk (below_step (by repeat (first | (with_reducible first | exact HB.out | apply below_alloc | apply pw_below_drewN | apply below_drew1) | exact HB.out)) hb); clear HO103; clear HB; have HO103 := n0_; have HO106 := n1_; have HB := n2_; clear n0_ n1_ n2_; (try clear hb); (try clear hb2); (try clear hk); (try clear hi); (try clear ho0); obtain ⟨Ao13, co13, eo13⟩ := Kd.R_slice HO106.out; subst eo13))
    go_ret
    exact ⟨by first | rfl | (simp [errW_none, errW_some] <;> rfl) | (simp [*, errW_none, errW_some] <;> rfl), by repeat (first | (with_reducible first | exact HB.out | apply below_alloc | apply pw_below_drewN | apply below_drew1) | exact HB.out)⟩

end Go.Proofs.Ytkjkbenmoogdjaa.X
namespace Go.Proofs.Ytkjkbenmoogdjaa.X
open Go.RowKit Go.Proofs.YtkjkbenmoogdjaaW.PrintWords Go.Proofs.YtkjkbenmoogdjaaW.PrintLast Go.Proofs.YtkjkbenmoogdjaaW.PrintMore
attribute [local go_sem] max2_int min2_int max_two min_two max_three min_three max_four min_four   -- for this text's walks alone
set_option linter.unusedVariables false
set_option linter.unusedSimpArgs false

attribute [local go_sem high] eqA23
/-! ### abutmentref09_Same: function 31 -/
def abutmentref09_Same.l0 : Nat → List (S23) → List (S23) → Int → Option (Bool)
  | 0, _, _, _ => none
  | k + 1, x0, x1, x5 => if x5 < (x0.length : Int) then (if 0 ≤ x5 then (if x5 < (x1.length : Int) then (if (!((((rd_T23 x0 x5).f0).toList) == (((rd_T23 x1 x5).f0).toList)) || (!((((rd_T23 x0 x5).f1).toList) == (((rd_T23 x1 x5).f1).toList)))) = true then (some false) else (abutmentref09_Same.l0 k x0 x1 (wrap64 (x5 + 1)))) else (none)) else (none)) else (some true)
def abutmentref09_Same.f (k : Nat) (l0 : List (S23)) (l1 : List (S23)) : Option (Bool) := if (l0.length : Int) = (l1.length : Int) then (abutmentref09_Same.l0 k l0 l1 0) else (some false)
theorem abutmentref09_Same.mono_l : ∀ k, (∀ y0 y1 y2, LeO (abutmentref09_Same.l0 k y0 y1 y2) (abutmentref09_Same.l0 (k + 1) y0 y1 y2))
  | 0 => fun _ _ _ r h => by simp [abutmentref09_Same.l0] at h
  | k + 1 => by
    have ih0 := abutmentref09_Same.mono_l k
    · intro y0 y1 y2
      unfold abutmentref09_Same.l0
      repeat' first
      | (with_reducible exact ih0 _ _ _)
      | (with_reducible exact LeO.refl _)
      | (with_reducible exact LeO.none _)
      | (with_reducible refine LeO.ite ?_ ?_)
      | (with_reducible refine LeO.bind ?_ (fun _ => ?_))
      | exact ih0 _ _ _
      | exact LeO.none _
      | refine LeO.ite ?_ ?_
      | refine LeO.bind ?_ (fun _ => ?_)
theorem abutmentref09_Same.mono : ∀ a0 a1 k, LeO (abutmentref09_Same.f k a0 a1) (abutmentref09_Same.f (k + 1) a0 a1) := by
  intro a0 a1 k
  have ih0 := abutmentref09_Same.mono_l k
  unfold abutmentref09_Same.f
  repeat' first
      | (with_reducible exact ih0 _ _ _)
      | (with_reducible exact LeO.refl _)
      | (with_reducible exact LeO.none _)
      | (with_reducible refine LeO.ite ?_ ?_)
      | (with_reducible refine LeO.bind ?_ (fun _ => ?_))
      | exact ih0 _ _ _
      | exact LeO.none _
      | refine LeO.ite ?_ ?_
      | refine LeO.bind ?_ (fun _ => ?_)
set_option maxHeartbeats 8000000 in
set_option maxRecDepth 100000 in
theorem abutmentref09_Same.calls (k : Nat) (A0 : Option Addr) (c0 : Nat) (l0 : List (S23)) (A1 : Option Addr) (c1 : Nat) (l1 : List (S23)) (r : Bool) (w : World) (hr0 : Kd.C k23 w A0 l0.length l0) (hc0 : l0.length ≤ c0) (hr1 : Kd.C k23 w A1 l1.length l1) (hc1 : l1.length ≤ c1) (h : abutmentref09_Same.f k l0 l1 = some r) :
    Calls Try.prog 31 #[.slice A0 l0.length c0, .slice A1 l1.length c1] w fun e w' => e = .returned (.bool r) ∧ Drawn0 w w' := by
  have hu23 := Try.underlying23
  have HR0 := Aside0.mk hr0
  have HC0 := Aside0.mk hc0
  clear hr0 hc0
  have HR1 := Aside0.mk hr1
  have HC1 := Aside0.mk hc1
  clear hr1 hc1
  have H : (if (l0.length : Int) = (l1.length : Int) then (abutmentref09_Same.l0 k l0 l1 0) else (some false)) = some r := h
  clear h
  by_cases c3 : (l0.length : Int) = (l1.length : Int)
  · rw [if_pos c3] at H
    have c3b0 : ((l0.length : Int) == (l1.length : Int)) = true := beq_iff_eq.mpr c3
    have c3b1 : ((l0.length : Int) != (l1.length : Int)) = false := bne_eq_false_iff_eq.mpr c3
    have c3b2 : (l0.length == l1.length) = true := by first | simpa using c3 | (simp at c3 ⊢; omega)
    clear c3
    have H' := Aside0.mk H
    clear H
    go_enter Try.func31, Try.ntmps31
    go_wp2
    repeat (go_quiet (fail); try go_wp2)
    go_loopg [5] k (fun kq v5 w' => ∃ (x5_1 : Int), v5 = .int .i64 x5_1 ∧ Aside0 (abutmentref09_Same.l0 kq l0 l1 x5_1 = some r) ∧ Aside0 (kq ≤ k) ∧ Drawn0 w w')
    case atStart => exact ⟨(0), (by first | rfl | (simp; done) | (simp [*]; done)), H', ⟨Nat.le_refl _⟩, by repeat (first | exact Drawn0.refl _ | apply Drawn0.step)⟩
    case round =>
      clear H'
      try clear c1
      try clear p2
      try clear c3
      try clear c3b0
      try clear c3b1
      try clear c3b2
      obtain ⟨x5_1, rfl, HA, HK1, ⟨m1, rfl⟩⟩ := hrel
      cases gk with
      | zero => exact absurd HA.out (by simp [abutmentref09_Same.l0])
      | succ k1 =>
        have H := HA.out
        clear HA
        simp only [abutmentref09_Same.l0] at H
        by_cases c4 : x5_1 < (l0.length : Int)
        · rw [if_pos c4] at H
          have c4b0 : decide (x5_1 < (l0.length : Int)) = true := decide_eq_true c4
          clear c4
          by_cases c5 : 0 ≤ x5_1
          · rw [if_pos c5] at H
            have c5b0 : decide (0 ≤ x5_1) = true := decide_eq_true c5
            clear c5
            by_cases c6 : x5_1 < (l1.length : Int)
            · rw [if_pos c6] at H
              have c6b0 : decide (x5_1 < (l1.length : Int)) = true := decide_eq_true c6
              clear c6
              by_cases c7 : (!((((rd_T23 l0 x5_1).f0).toList) == (((rd_T23 l1 x5_1).f0).toList)) || (!((((rd_T23 l0 x5_1).f1).toList) == (((rd_T23 l1 x5_1).f1).toList)))) = true
              · rw [if_pos c7] at H
                have c7b0 : (!((((rd_T23 l0 x5_1).f0).toList) == (((rd_T23 l1 x5_1).f0).toList)) || (!((((rd_T23 l0 x5_1).f1).toList) == (((rd_T23 l1 x5_1).f1).toList)))) = true := c7
                clear c7
                obtain rfl := Option.some.inj H
                have p101 : 0 ≤ (x5_1 : Int) := of_decide_eq_true (by first | (with_reducible assumption) | assumption)
                have q101 : x5_1 < (l0.length : Int) := of_decide_eq_true (by first | (with_reducible assumption) | assumption)
                obtain ⟨ad101, e101, hx101_0, hx101_1⟩ := at_T23 HR0.out x5_1 p101 q101
                cases e101
                replace p101 := eq_true p101
                replace q101 := eq_true q101
                have p102 : 0 ≤ (x5_1 : Int) := of_decide_eq_true (by first | (with_reducible assumption) | assumption)
                have q102 : x5_1 < (l1.length : Int) := of_decide_eq_true (by first | (with_reducible assumption) | assumption)
                obtain ⟨ad102, e102, hx102_0, hx102_1⟩ := at_T23 HR1.out x5_1 p102 q102
                cases e102
                replace p102 := eq_true p102
                replace q102 := eq_true q102
                go_wp2
                repeat (go_quiet (fail); try go_wp2)
                go_ret
                exact ⟨by first | rfl | (simp; done) | (simp [*]; done), by repeat (first | exact Drawn0.refl _ | apply Drawn0.step)⟩
              · rw [if_neg c7] at H
                have c7b0 : (!((((rd_T23 l0 x5_1).f0).toList) == (((rd_T23 l1 x5_1).f0).toList)) || (!((((rd_T23 l0 x5_1).f1).toList) == (((rd_T23 l1 x5_1).f1).toList)))) = false := by simpa using c7
                clear c7
                have H' := Aside0.mk H
                clear H
                have p101 : 0 ≤ (x5_1 : Int) := of_decide_eq_true (by first | (with_reducible assumption) | assumption)
                have q101 : x5_1 < (l0.length : Int) := of_decide_eq_true (by first | (with_reducible assumption) | assumption)
                obtain ⟨ad101, e101, hx101_0, hx101_1⟩ := at_T23 HR0.out x5_1 p101 q101
                cases e101
                replace p101 := eq_true p101
                replace q101 := eq_true q101
                have p102 : 0 ≤ (x5_1 : Int) := of_decide_eq_true (by first | (with_reducible assumption) | assumption)
                have q102 : x5_1 < (l1.length : Int) := of_decide_eq_true (by first | (with_reducible assumption) | assumption)
                obtain ⟨ad102, e102, hx102_0, hx102_1⟩ := at_T23 HR1.out x5_1 p102 q102
                cases e102
                replace p102 := eq_true p102
                replace q102 := eq_true q102
                go_wp2
                repeat (go_quiet (fail); try go_wp2)
                go_roundg k1
                case measure => have := HK1.out; omega
                case rel => exact ⟨(wrap64 (x5_1 + 1)), (by first | rfl | (simp; done) | (simp [*]; done)), H', ⟨by have := HK1.out; omega⟩, by repeat (first | exact Drawn0.refl _ | apply Drawn0.step)⟩
            · rw [if_neg c6] at H
              exact absurd H (by simp)
          · rw [if_neg c5] at H
            exact absurd H (by simp)
        · rw [if_neg c4] at H
          have c4b0 : decide (x5_1 < (l0.length : Int)) = false := decide_eq_false c4
          clear c4
          obtain rfl := Option.some.inj H
          go_wp2
          repeat (go_quiet (fail); try go_wp2)
          go_ret
          exact ⟨by first | rfl | (simp; done) | (simp [*]; done), by repeat (first | exact Drawn0.refl _ | apply Drawn0.step)⟩
  · rw [if_neg c3] at H
    have c3b0 : ((l0.length : Int) == (l1.length : Int)) = false := beq_eq_false_iff_ne.mpr c3
    have c3b1 : ((l0.length : Int) != (l1.length : Int)) = true := bne_iff_ne.mpr c3
    have c3b2 : (l0.length == l1.length) = false := by first | simpa using c3 | (simp at c3 ⊢; omega)
    obtain rfl := Option.some.inj H
    go_enter Try.func31, Try.ntmps31
    go_wp2
    repeat (go_quiet (fail); try go_wp2)
    go_ret
    exact ⟨by first | rfl | (simp; done) | (simp [*]; done), by repeat (first | exact Drawn0.refl _ | apply Drawn0.step)⟩

end Go.Proofs.Ytkjkbenmoogdjaa.X
namespace Go.Proofs.Ytkjkbenmoogdjaa.X
open Go.RowKit Go.Proofs.YtkjkbenmoogdjaaW.PrintWords Go.Proofs.YtkjkbenmoogdjaaW.PrintLast Go.Proofs.YtkjkbenmoogdjaaW.PrintMore
attribute [local go_sem] max2_int min2_int max_two min_two max_three min_three max_four min_four   -- for this text's walks alone
set_option linter.unusedVariables false
set_option linter.unusedSimpArgs false

/-! ### header_Count: function 34 -/
def header_Count.f (l0 : List (S23)) (a1 : ByteArray) : Option (Int) := (header_All.f l0 a1).bind fun t101 => (some (t101.length : Int))
set_option maxHeartbeats 8000000 in
set_option maxRecDepth 100000 in
theorem header_Count.calls (A0 : Option Addr) (c0 : Nat) (l0 : List (S23)) (a1 : ByteArray) (r : Int) (w : World) (hr0 : Kd.C k23 w A0 l0.length l0) (hc0 : l0.length ≤ c0) (h : header_Count.f l0 a1 = some r) :
    Calls Try.prog 34 #[.slice A0 l0.length c0, .string a1] w fun e w' => e = .returned (.int .i64 r) ∧ Below w.heap.size w w' := by
  have HR0 := Aside0.mk hr0
  have HC0 := Aside0.mk hc0
  clear hr0 hc0
  have HB := Aside0.mk (Below.refl w.heap.size w)
  have H : ((header_All.f l0 a1).bind fun t101 => (some (t101.length : Int))) = some r := h
  clear h
  replace H := Option.bind_eq_some_iff.mp H
  obtain ⟨t101, A30, H⟩ := H
  replace H : (some (t101.length : Int)) = some r := H
  have A3 := Aside0.mk A30
  clear A30
  obtain rfl := Option.some.inj H
  go_enter Try.func34, Try.ntmps34
  go_wp2_with (first | ((with_reducible refine gate_callee (f := 67) rfl ?_); refine goesL_ (some 7) rfl rfl Try.func67 (by kernel_rfl) rfl #[.slice A0 l0.length c0, .string a1] rfl (by (try simp only [List.map_toArray, List.map_cons, List.map_nil]); first | done | rfl | (simp only [List.length_drop, List.length_take]; rfl)) ?_; (with_reducible refine (header_All.calls _ _ l0 a1 t101 _ ?side1 ?side2 A3.out).mono ?_); (case side1 => repeat (first | exact HR0.out | (with_reducible refine Kd.C_alloc ?_ _) | (with_reducible refine Kd.C_drewN ?_ _) | (with_reducible refine Kd.C_drew ?_))); (case side2 => exact HC0.out); rintro e w4 ⟨v102, rfl, ho0, hb⟩; refine ⟨_, rfl, ?_⟩; have n0_ := Aside0.mk (Kd.R_lower ho0 (below_size (by repeat (first | (with_reducible first | exact HB.out | apply below_alloc | apply pw_below_drewN | apply below_drew1) | exact HB.out)))); have n1_ := Aside0.mk (below_step (by repeat (first | (with_reducible first | exact HB.out | apply below_alloc | apply pw_below_drewN | apply below_drew1) | exact HB.out)) hb); clear HB; have HO103 := n0_; have HB := n1_; clear n0_ n1_; (try clear hb); (try clear hb2); (try clear hk); (try clear hi); (try clear ho0); obtain ⟨Ao5, co5, eo5⟩ := Kd.R_slice HO103.out; subst eo5))
  go_ret
  exact ⟨by first | rfl | (simp [errW_none, errW_some] <;> rfl) | (simp [*, errW_none, errW_some] <;> rfl), by repeat (first | (with_reducible first | exact HB.out | apply below_alloc | apply pw_below_drewN | apply below_drew1) | exact HB.out)⟩

end Go.Proofs.Ytkjkbenmoogdjaa.X
namespace Go.Proofs.Ytkjkbenmoogdjaa.X
open Go.RowKit Go.Proofs.YtkjkbenmoogdjaaW.PrintWords Go.Proofs.YtkjkbenmoogdjaaW.PrintLast Go.Proofs.YtkjkbenmoogdjaaW.PrintMore
attribute [local go_sem] max2_int min2_int max_two min_two max_three min_three max_four min_four   -- for this text's walks alone
set_option linter.unusedVariables false
set_option linter.unusedSimpArgs false

/-! ### slices_Index_string_string: function 95 -/
def slices_Index_string_string.l0 : Nat → List ByteArray → ByteArray → Int → Int → Option (Int)
  | 0, _, _, _, _ => none
  | k + 1, x0, x1, x7, x8 => if x8 < x7 then (if 0 ≤ x8 then (if x8 < (x0.length : Int) then (if x1.toList = (rdOf ByteArray.empty x0 x8).toList then (some x8) else (slices_Index_string_string.l0 k x0 x1 x7 (wrap64 (x8 + 1)))) else (none)) else (none)) else (some (-1))
def slices_Index_string_string.f (k : Nat) (l0 : List ByteArray) (a1 : ByteArray) : Option (Int) := slices_Index_string_string.l0 k l0 a1 (l0.length : Int) 0
theorem slices_Index_string_string.mono_l : ∀ k, (∀ y0 y1 y2 y3, LeO (slices_Index_string_string.l0 k y0 y1 y2 y3) (slices_Index_string_string.l0 (k + 1) y0 y1 y2 y3))
  | 0 => fun _ _ _ _ r h => by simp [slices_Index_string_string.l0] at h
  | k + 1 => by
    have ih0 := slices_Index_string_string.mono_l k
    · intro y0 y1 y2 y3
      unfold slices_Index_string_string.l0
      repeat' first
      | (with_reducible exact ih0 _ _ _ _)
      | (with_reducible exact LeO.refl _)
      | (with_reducible exact LeO.none _)
      | (with_reducible refine LeO.ite ?_ ?_)
      | (with_reducible refine LeO.bind ?_ (fun _ => ?_))
      | exact ih0 _ _ _ _
      | exact LeO.none _
      | refine LeO.ite ?_ ?_
      | refine LeO.bind ?_ (fun _ => ?_)
theorem slices_Index_string_string.mono : ∀ a0 a1 k, LeO (slices_Index_string_string.f k a0 a1) (slices_Index_string_string.f (k + 1) a0 a1) := by
  intro a0 a1 k
  have ih0 := slices_Index_string_string.mono_l k
  unfold slices_Index_string_string.f
  repeat' first
      | (with_reducible exact ih0 _ _ _ _)
      | (with_reducible exact LeO.refl _)
      | (with_reducible exact LeO.none _)
      | (with_reducible refine LeO.ite ?_ ?_)
      | (with_reducible refine LeO.bind ?_ (fun _ => ?_))
      | exact ih0 _ _ _ _
      | exact LeO.none _
      | refine LeO.ite ?_ ?_
      | refine LeO.bind ?_ (fun _ => ?_)
set_option maxHeartbeats 8000000 in
set_option maxRecDepth 100000 in
theorem slices_Index_string_string.calls (k : Nat) (A0 : Option Addr) (c0 : Nat) (l0 : List ByteArray) (a1 : ByteArray) (r : Int) (w : World) (hr0 : Kd.C Kd.string w A0 l0.length l0) (hc0 : l0.length ≤ c0) (h : slices_Index_string_string.f k l0 a1 = some r) :
    Calls Try.prog 95 #[.slice A0 l0.length c0, .string a1] w fun e w' => e = .returned (.int .i64 r) ∧ Drawn0 w w' := by
  have HR0 := Aside0.mk hr0
  have HC0 := Aside0.mk hc0
  clear hr0 hc0
  have H : (slices_Index_string_string.l0 k l0 a1 (l0.length : Int) 0) = some r := h
  clear h
  have H' := Aside0.mk H
  clear H
  go_enter Try.func95, Try.ntmps95
  go_wp2
  go_loopg [8] k (fun kq v8 w' => ∃ (x8_1 : Int), v8 = .int .i64 x8_1 ∧ Aside0 (slices_Index_string_string.l0 kq l0 a1 (l0.length : Int) x8_1 = some r) ∧ Aside0 (kq ≤ k) ∧ Drawn0 w w')
  case atStart => exact ⟨(0), (by first | rfl | (simp; done) | (simp [*]; done)), H', ⟨Nat.le_refl _⟩, by repeat (first | exact Drawn0.refl _ | apply Drawn0.step)⟩
  case round =>
    clear H'
    try clear p2
    obtain ⟨x8_1, rfl, HA, HK1, ⟨m1, rfl⟩⟩ := hrel
    cases gk with
    | zero => exact absurd HA.out (by simp [slices_Index_string_string.l0])
    | succ k1 =>
      have H := HA.out
      clear HA
      simp only [slices_Index_string_string.l0] at H
      by_cases c3 : x8_1 < (l0.length : Int)
      · rw [if_pos c3] at H
        have c3b0 : decide (x8_1 < (l0.length : Int)) = true := decide_eq_true c3
        clear c3
        by_cases c4 : 0 ≤ x8_1
        · rw [if_pos c4] at H
          have c4b0 : decide (0 ≤ x8_1) = true := decide_eq_true c4
          clear c4
          by_cases c5 : x8_1 < (l0.length : Int)
          · rw [if_pos c5] at H
            have c5b0 : decide (x8_1 < (l0.length : Int)) = true := decide_eq_true c5
            clear c5
            by_cases c6 : a1.toList = (rdOf ByteArray.empty l0 x8_1).toList
            · rw [if_pos c6] at H
              have c6b0 : (a1.toList == (rdOf ByteArray.empty l0 x8_1).toList) = true := beq_iff_eq.mpr c6
              have c6b1 : (a1.toList != (rdOf ByteArray.empty l0 x8_1).toList) = false := bne_eq_false_iff_eq.mpr c6
              clear c6
              obtain rfl := Option.some.inj H
              have p101 : 0 ≤ (x8_1 : Int) := of_decide_eq_true (by first | (with_reducible assumption) | assumption)
              have q101 : x8_1 < (l0.length : Int) := of_decide_eq_true (by first | (with_reducible assumption) | assumption)
              obtain ⟨ad101, e101, hx101_0⟩ := Kd.at_string HR0.out x8_1 p101 q101
              cases e101
              replace p101 := eq_true p101
              replace q101 := eq_true q101
              go_wp2
              go_ret
              exact ⟨by first | rfl | (simp; done) | (simp [*]; done), by repeat (first | exact Drawn0.refl _ | apply Drawn0.step)⟩
            · rw [if_neg c6] at H
              have c6b0 : (a1.toList == (rdOf ByteArray.empty l0 x8_1).toList) = false := beq_eq_false_iff_ne.mpr c6
              have c6b1 : (a1.toList != (rdOf ByteArray.empty l0 x8_1).toList) = true := bne_iff_ne.mpr c6
              have H' := Aside0.mk H
              clear H
              have p101 : 0 ≤ (x8_1 : Int) := of_decide_eq_true (by first | (with_reducible assumption) | assumption)
              have q101 : x8_1 < (l0.length : Int) := of_decide_eq_true (by first | (with_reducible assumption) | assumption)
              obtain ⟨ad101, e101, hx101_0⟩ := Kd.at_string HR0.out x8_1 p101 q101
              cases e101
              replace p101 := eq_true p101
              replace q101 := eq_true q101
              go_wp2
              go_roundg k1
              case measure => have := HK1.out; omega
              case rel => exact ⟨(wrap64 (x8_1 + 1)), (by first | rfl | (simp; done) | (simp [*]; done)), H', ⟨by have := HK1.out; omega⟩, by repeat (first | exact Drawn0.refl _ | apply Drawn0.step)⟩
          · rw [if_neg c5] at H
            exact absurd H (by simp)
        · rw [if_neg c4] at H
          exact absurd H (by simp)
      · rw [if_neg c3] at H
        have c3b0 : decide (x8_1 < (l0.length : Int)) = false := decide_eq_false c3
        clear c3
        obtain rfl := Option.some.inj H
        go_wp2
        go_ret
        exact ⟨by first | rfl | (simp; done) | (simp [*]; done), by repeat (first | exact Drawn0.refl _ | apply Drawn0.step)⟩

end Go.Proofs.Ytkjkbenmoogdjaa.X
namespace Go.Proofs.Ytkjkbenmoogdjaa.X
open Go.RowKit Go.Proofs.YtkjkbenmoogdjaaW.PrintWords Go.Proofs.YtkjkbenmoogdjaaW.PrintLast Go.Proofs.YtkjkbenmoogdjaaW.PrintMore
attribute [local go_sem] max2_int min2_int max_two min_two max_three min_three max_four min_four   -- for this text's walks alone
set_option linter.unusedVariables false
set_option linter.unusedSimpArgs false

/-! ### slices_Contains_string_string: function 69 -/
def slices_Contains_string_string.f (k : Nat) (l0 : List ByteArray) (a1 : ByteArray) : Option (Bool) := (slices_Index_string_string.f k l0 a1).bind fun t101 => (some (decide (t101 ≥ 0)))
theorem slices_Contains_string_string.mono : ∀ a0 a1 k, LeO (slices_Contains_string_string.f k a0 a1) (slices_Contains_string_string.f (k + 1) a0 a1) := by
  intro a0 a1 k
  unfold slices_Contains_string_string.f
  repeat' first
      | (with_reducible exact slices_Index_string_string.mono _ _ _)
      | (with_reducible exact LeO.refl _)
      | (with_reducible exact LeO.none _)
      | (with_reducible refine LeO.ite ?_ ?_)
      | (with_reducible refine LeO.bind ?_ (fun _ => ?_))
      | exact slices_Index_string_string.mono _ _ _
      | exact LeO.none _
      | refine LeO.ite ?_ ?_
      | refine LeO.bind ?_ (fun _ => ?_)
set_option maxHeartbeats 8000000 in
set_option maxRecDepth 100000 in
theorem slices_Contains_string_string.calls (k : Nat) (A0 : Option Addr) (c0 : Nat) (l0 : List ByteArray) (a1 : ByteArray) (r : Bool) (w : World) (hr0 : Kd.C Kd.string w A0 l0.length l0) (hc0 : l0.length ≤ c0) (h : slices_Contains_string_string.f k l0 a1 = some r) :
    Calls Try.prog 69 #[.slice A0 l0.length c0, .string a1] w fun e w' => e = .returned (.bool r) ∧ Drawn0 w w' := by
  have HR0 := Aside0.mk hr0
  have HC0 := Aside0.mk hc0
  clear hr0 hc0
  have H : ((slices_Index_string_string.f k l0 a1).bind fun t101 => (some (decide (t101 ≥ 0)))) = some r := h
  clear h
  replace H := Option.bind_eq_some_iff.mp H
  obtain ⟨t101, A30, H⟩ := H
  replace H : (some (decide (t101 ≥ 0))) = some r := H
  have A3 := Aside0.mk A30
  clear A30
  obtain rfl := Option.some.inj H
  go_enter Try.func69, Try.ntmps69
  go_wp2_with (first | ((with_reducible refine gate_callee (f := 95) rfl ?_); refine goesL_ (some 7) rfl rfl Try.func95 (by kernel_rfl) rfl #[.slice A0 l0.length c0, .string a1] rfl (by (try simp only [List.map_toArray, List.map_cons, List.map_nil]); first | done | rfl | (simp only [List.length_drop, List.length_take]; rfl)) ?_; (with_reducible refine (slices_Index_string_string.calls k _ _ l0 a1 t101 _ ?side1 ?side2 A3.out).mono ?_); (case side1 => repeat (first | exact HR0.out | (with_reducible refine Kd.C_alloc ?_ _) | (with_reducible refine Kd.C_drewN ?_ _) | (with_reducible refine Kd.C_drew ?_))); (case side2 => exact HC0.out); rintro e w' ⟨rfl, ⟨nd, rfl⟩⟩; refine ⟨_, rfl, ?_⟩))
  go_ret
  exact ⟨by first | rfl | (simp; done) | (simp [*]; done), by repeat (first | exact Drawn0.refl _ | apply Drawn0.step)⟩

end Go.Proofs.Ytkjkbenmoogdjaa.X
namespace Go.Proofs.Ytkjkbenmoogdjaa.X
open Go.RowKit Go.Proofs.YtkjkbenmoogdjaaW.PrintWords Go.Proofs.YtkjkbenmoogdjaaW.PrintLast Go.Proofs.YtkjkbenmoogdjaaW.PrintMore
attribute [local go_sem] max2_int min2_int max_two min_two max_three min_three max_four min_four   -- for this text's walks alone
set_option linter.unusedVariables false
set_option linter.unusedSimpArgs false

/-! ### connection_Has: function 36 -/
def connection_Has.f (k : Nat) (l0 : List (S23)) (a1 : ByteArray) : Option (Bool) := (connection_Words.f l0).bind fun bt101 => ((octet_Lower.f a1).bind fun t105 => ((slices_Contains_string_string.f k bt101.1 t105).bind fun t106 => (some t106)))
theorem connection_Has.mono : ∀ a0 a1 k, LeO (connection_Has.f k a0 a1) (connection_Has.f (k + 1) a0 a1) := by
  intro a0 a1 k
  unfold connection_Has.f
  repeat' first
      | (with_reducible exact slices_Contains_string_string.mono _ _ _)
      | (with_reducible exact LeO.refl _)
      | (with_reducible exact LeO.none _)
      | (with_reducible refine LeO.ite ?_ ?_)
      | (with_reducible refine LeO.bind ?_ (fun _ => ?_))
      | exact slices_Contains_string_string.mono _ _ _
      | exact LeO.none _
      | refine LeO.ite ?_ ?_
      | refine LeO.bind ?_ (fun _ => ?_)
set_option maxHeartbeats 8000000 in
set_option maxRecDepth 100000 in
theorem connection_Has.calls (k : Nat) (A0 : Option Addr) (c0 : Nat) (l0 : List (S23)) (a1 : ByteArray) (r : Bool) (w : World) (hr0 : Kd.C k23 w A0 l0.length l0) (hc0 : l0.length ≤ c0) (h : connection_Has.f k l0 a1 = some r) :
    Calls Try.prog 36 #[.slice A0 l0.length c0, .string a1] w fun e w' => e = .returned (.bool r) ∧ Below w.heap.size w w' := by
  have HR0 := Aside0.mk hr0
  have HC0 := Aside0.mk hc0
  clear hr0 hc0
  have HB := Aside0.mk (Below.refl w.heap.size w)
  have H : ((connection_Words.f l0).bind fun bt101 => ((octet_Lower.f a1).bind fun t105 => ((slices_Contains_string_string.f k bt101.1 t105).bind fun t106 => (some t106)))) = some r := h
  clear h
  replace H := Option.bind_eq_some_iff.mp H
  obtain ⟨⟨t101, t102⟩, A30, H⟩ := H
  replace H : ((octet_Lower.f a1).bind fun t105 => ((slices_Contains_string_string.f k t101 t105).bind fun t106 => (some t106))) = some r := H
  have A3 := Aside0.mk A30
  clear A30
  replace H := Option.bind_eq_some_iff.mp H
  obtain ⟨t105, A40, H⟩ := H
  replace H : ((slices_Contains_string_string.f k t101 t105).bind fun t106 => (some t106)) = some r := H
  have A4 := Aside0.mk A40
  clear A40
  replace H := Option.bind_eq_some_iff.mp H
  obtain ⟨t106, A50, H⟩ := H
  replace H : (some t106) = some r := H
  have A5 := Aside0.mk A50
  clear A50
  obtain rfl := Option.some.inj H
  go_enter Try.func36, Try.ntmps36
  go_wp2_with (first | ((with_reducible refine gate_callee (f := 38) rfl ?_); refine goesL_ (some 9) rfl rfl Try.func38 (by kernel_rfl) rfl #[.slice A0 l0.length c0] rfl (by (try simp only [List.map_toArray, List.map_cons, List.map_nil]); first | done | rfl | (simp only [List.length_drop, List.length_take]; rfl)) ?_; (with_reducible refine (connection_Words.calls _ _ l0 t101 t102 _ ?side1 ?side2 A3.out).mono ?_); (case side1 => repeat (first | exact HR0.out | (with_reducible refine Kd.C_alloc ?_ _) | (with_reducible refine Kd.C_drewN ?_ _) | (with_reducible refine Kd.C_drew ?_))); (case side2 => exact HC0.out); rintro e w6 ⟨v103, rfl, ho0, hb⟩; refine ⟨_, rfl, ?_⟩; have n0_ := Aside0.mk (Kd.R_lower ho0 (below_size (by repeat (first | (with_reducible first | exact HB.out | apply below_alloc | apply pw_below_drewN | apply below_drew1) | exact HB.out)))); have n1_ := Aside0.mk (below_step (by repeat (first | (with_reducible first | exact HB.out | apply below_alloc | apply pw_below_drewN | apply below_drew1) | exact HB.out)) hb); clear HB; have HO104 := n0_; have HB := n1_; clear n0_ n1_; (try clear hb); (try clear hb2); (try clear hk); (try clear hi); (try clear ho0)) | ((with_reducible refine gate_callee (f := 70) rfl ?_); refine goesL_ (some 14) rfl rfl Try.func70 (by kernel_rfl) rfl #[.string a1] rfl (by (try simp only [List.map_toArray, List.map_cons, List.map_nil]); first | done | rfl | (simp only [List.length_drop, List.length_take]; rfl)) ?_; (with_reducible refine (octet_Lower.calls a1 t105 _ A4.out).mono ?_); rintro e w7 ⟨rfl, hb⟩; refine ⟨_, rfl, ?_⟩; have n0_ := Aside0.mk (Kd.R_below (by (with_reducible repeat (first | apply Kd.R_alloc | apply Kd.R_drewN | apply Kd.R_drew)); exact HO104.out) hb); have n1_ := Aside0.mk (below_step (by repeat (first | (with_reducible first | exact HB.out | apply below_alloc | apply pw_below_drewN | apply below_drew1) | exact HB.out)) hb); clear HO104; clear HB; have HO104 := n0_; have HB := n1_; clear n0_ n1_; (try clear hb); (try clear hb2); (try clear hk); (try clear hi); obtain ⟨Ao8, co8, eo8⟩ := Kd.R_slice HO104.out; subst eo8) | ((with_reducible refine gate_callee (f := 69) rfl ?_); refine goesL_ (some 15) rfl rfl Try.func69 (by kernel_rfl) rfl #[.slice Ao8 t101.length co8, .string t105] rfl (by (try simp only [List.map_toArray, List.map_cons, List.map_nil]); first | done | rfl | (simp only [List.length_drop, List.length_take]; rfl)) ?_; (with_reducible refine (slices_Contains_string_string.calls k _ _ t101 t105 t106 _ ?side1 ?side2 A5.out).mono ?_); (case side1 => repeat (first | exact (Kd.R_reads' HO104.out).2.2 | (with_reducible refine Kd.C_alloc ?_ _) | (with_reducible refine Kd.C_drewN ?_ _) | (with_reducible refine Kd.C_drew ?_))); (case side2 => exact (Kd.R_reads' HO104.out).2.1); rintro e w' ⟨rfl, ⟨nd, rfl⟩⟩; refine ⟨_, rfl, ?_⟩))
  go_ret
  exact ⟨by first | rfl | (simp [errW_none, errW_some] <;> rfl) | (simp [*, errW_none, errW_some] <;> rfl), by repeat (first | (with_reducible first | exact HB.out | apply below_alloc | apply pw_below_drewN | apply below_drew1) | exact HB.out)⟩

end Go.Proofs.Ytkjkbenmoogdjaa.X
