/- Part 2 of the texts behind the claim on ConnectionAlive: contracts of the functions that it reaches, and plain laws about them. No conditions of its own. -/
import Derived.Test.YtkjkbenmoogdjaaCConnectionAlive1
import Derived.RangeFuncRecord
import Derived.Maps.AppendAt
import Derived.Laws.IdiomStrings
import Derived.Lib.ConvBytes
import Derived.Handy
import Derived.ArgAppend
import Derived.Deep.RegionLaw
import Derived.Deep.RegionWith
import Derived.Lib.IndexLaws
import Derived.Lib.Strings
import Derived.Test.YtkjkbenmoogdjaaShelf
import Derived.Shelf.GgClosure.StringsIndexFunc
import Derived.Laws.ResultCell
namespace Go.Proofs.Ytkjkbenmoogdjaa.X
open Go.RowKit Go.Proofs.YtkjkbenmoogdjaaW.PrintWords Go.Proofs.YtkjkbenmoogdjaaW.PrintLast Go.Proofs.YtkjkbenmoogdjaaW.PrintMore
attribute [local go_sem] max2_int min2_int max_two min_two max_three min_three max_four min_four   -- for this text's walks alone
set_option linter.unusedVariables false
set_option linter.unusedSimpArgs false

/-! ### header_Without: function 65 -/
/-- P10.2: the fields of none of some names. -/
def withoutB (l : List S23) (names : List ByteArray) : List S23 := l.filter fun f => !names.any fun n => foldB n f.f0
theorem idxF_nil (F : Nat) (caps : Array Value) (w : World) :
    Calls Try.prog 102 #[.slice none 0 0, .func (.func F) #[] caps] w fun e w' => e = .returned (.int .i64 (-1)) ∧ w' = w := by
  go_enter Try.func102, Try.ntmps102
  go_wp2
  go_loopg [8] 0 (fun gg s8 wr => s8 = .int .i64 0 ∧ wr = w)
  case atStart => exact ⟨rfl, rfl⟩
  case round =>
    obtain ⟨rfl, rfl⟩ := hrel
    go_wp2
    go_ret
    exact ⟨rfl, rfl⟩
theorem delF_nil (F : Nat) (caps : Array Value) (w : World) :
    Calls Try.prog 91 #[.slice none 0 0, .func (.func F) #[] caps] w fun e w' => e = .returned (.slice none 0 0) ∧ w' = w := by
  have hI := idxF_nil F caps w
  go_enter Try.func91, Try.ntmps91
  go_wp2_with (go_at_call 102; refine hI.mono ?_; rintro e_ w' ⟨rfl, rfl⟩)
  go_ret
  exact ⟨rfl, rfl⟩
theorem RowV.own {W : World} {g e cap size n base : Nat} {vs : List Value} (h : RowV W g e (cap * size) vs) (hn : vs.length = n * size) (hc : n ≤ cap) (hm : cap ≤ maxLen) (hb : base ≤ g) : W.ownsRow base e size (.slice (some ⟨g, 0, none⟩) n cap) n vs := by
  obtain ⟨cur, hh, hs, hl, hx⟩ := h
  refine ⟨hn, .inr ⟨g, cap, cur, rfl, hb, hh, hc, hm, hs, ?_⟩⟩
  apply List.ext_getElem?
  intro j
  by_cases hj : j < vs.length
  · rw [List.getElem?_take_of_lt (by omega), Array.getElem?_toList, hx j _ (List.getElem?_eq_getElem hj), List.getElem?_eq_getElem hj]
  · rw [List.getElem?_eq_none (by rw [List.length_take]; omega), List.getElem?_eq_none (by omega)]
theorem RowV.of_own {W : World} {base e size n : Nat} {v : Value} {vs : List Value} (h : W.ownsRow base e size v n vs) : (v = .slice none 0 0 ∧ n = 0) ∨ ∃ g cap, v = .slice (some ⟨g, 0, none⟩) n cap ∧ base ≤ g ∧ n ≤ cap ∧ cap ≤ maxLen ∧ RowV W g e (cap * size) vs := by
  rcases h.2 with h2 | ⟨g, cap, cur, hv, hg, hh, hc, hm, hs, ht⟩
  · exact .inl h2
  · refine .inr ⟨g, cap, hv, hg, hc, hm, cur, hh, hs, ?_, fun j v hj => ?_⟩
    · rw [h.1]; exact Nat.mul_le_mul_right _ hc
    · have hlt := (List.getElem?_eq_some_iff.1 hj).1
      rw [← ht, List.getElem?_take_of_lt (by have := h.1; omega), Array.getElem?_toList] at hj
      exact hj
def header_Without.f (l0 : List (S23)) (l1 : List ByteArray) : Option ((List (S23))) := if l0.length ≤ 1000000 ∧ l1.length ≤ 1000000 ∧ l1 ≠ [] ∧ ∀ x ∈ l1, x.size ≤ 140737488351232 then some (withoutB l0 l1) else none
set_option maxHeartbeats 4000000 in
set_option maxRecDepth 100000 in
theorem header_Without.calls (A0 : Option Addr) (c0 : Nat) (l0 : List (S23)) (A1 : Option Addr) (c1 : Nat) (l1 : List ByteArray) (r : List (S23)) (w : World) (hr0 : Kd.C k23 w A0 l0.length l0) (hc0 : l0.length ≤ c0) (hr1 : Kd.C Kd.string w A1 l1.length l1) (hc1 : l1.length ≤ c1) (h : header_Without.f l0 l1 = some r) :
    Calls Try.prog 65 #[.slice A0 l0.length c0, .slice A1 l1.length c1] w fun e w' => ∃ v0_ : Value, e = .returned (v0_) ∧ Kd.R k23 23 w' w.heap.size (fun _ => True) v0_ r ∧ Below w.heap.size w w' := by
  by_cases hs : l0.length ≤ 1000000 ∧ l1.length ≤ 1000000 ∧ l1 ≠ [] ∧ ∀ x ∈ l1, x.size ≤ 140737488351232
  · rw [header_Without.f, if_pos hs] at h
    obtain rfl := Option.some.inj h
    clear h
    obtain ⟨hsl, hsn, hne, hsz⟩ := hs
    have hC := cloneF_wp A0 c0 l0 w hsl hr0
    obtain ⟨gn, on, rfl, hgn, hcn⟩ := reads_cells hr1 hne
    have hNM := fun W => named_wp (some ⟨gn, on, none⟩) l1.length c1 W
    have HN := Aside0.mk hcn
    have HZ := Aside0.mk hsz
    clear hr0 hr1 hcn hsz hne
    go_enter Try.func65, Try.ntmps65
    go_wp2_with (first
      | (go_at_call 92; refine hC.mono ?_; rintro e w1 ⟨v, rfl, ho, hb1⟩; have HO := Aside0.mk ho; have HB1 := Aside0.mk hb1; clear ho hb1)
      | (go_at_call 93; refine (hNM _).mono ?_; rintro e w2 ⟨rfl, hw2⟩; have HW2 := Aside0.mk hw2; clear hw2))
    have hs2 : w2.heap.size = w1.heap.size + 1 := by rw [HW2.out]; simp
    have hb2 : Below w1.heap.size w1 w2 := by rw [HW2.out]; exact (Below.refl _ w1).alloc (Nat.le_refl _) _
    have hcB : w2.cell? ⟨w1.heap.size, 0, none⟩ = some (.slice (some ⟨gn, on, none⟩) l1.length c1) := by
      have := World.alloc_heap_new w1 (.cells #[.slice (some ⟨gn, on, none⟩) l1.length c1] 31)
      rw [← HW2.out] at this
      simp only [World.cell?, this]
      rfl
    have hw12 : Below w.heap.size w w2 := HB1.out.trans (hb2.mono HB1.out.size)
    rcases RowV.of_own HO.out with ⟨rfl, h0⟩ | ⟨g, cap, rfl, hg, hcap, hmax, hrow⟩
    · have hnil : l0 = [] := List.eq_nil_of_length_eq_zero h0
      have hD := delF_nil 103 #[.pointer (some ⟨w1.heap.size, 0, none⟩)] w2
      refine hD.mono ?_
      rintro e w3 ⟨rfl, rfl⟩
      go_wp2
      go_ret
      subst hnil
      exact ⟨_, rfl, Kd.R_nil _ _ _ _ _, hw12⟩
    · have hrow2 := hrow.below hb2
      have hglt := hrow.lt
      have hD := delF_wp (fun f => l1.any fun n => foldB n f.f0) 103 #[.pointer (some ⟨w1.heap.size, 0, none⟩)] (enters_of Try.func103 (by kernel_rfl) rfl) w.heap.size g 23 (cap * 2) cap l0 w2 (by omega) hcap hg hrow2
        (fun W x hx hk => named1_wp l1 HZ.out (by omega) gn on c1 w1.heap.size W
          (by
            have hh := hk.2.2 w1.heap.size (by omega) (by omega)
            have : W.cell? ⟨w1.heap.size, 0, none⟩ = w2.cell? ⟨w1.heap.size, 0, none⟩ := by simp only [World.cell?, hh]
            rw [this, hcB])
          (by have := hk.2.1; have := hw12.size; omega)
          (fun j x hj => by
            have hh := hk.2.2 gn (by have := hw12.size; omega) (by omega)
            have : W.cell? ⟨gn, on + j, none⟩ = w2.cell? ⟨gn, on + j, none⟩ := by simp only [World.cell?, hh]
            rw [this, hw12.cell (p := ⟨gn, on + j, none⟩) hgn]
            exact HN.out j x hj) x.f0 x.f1)
      have HRES := Aside0.mk hw12
      have hfl : (withoutB l0 l1).length ≤ l0.length := List.length_filter_le _ _
      clear hrow hrow2 hw12 hcB hb2
      refine hD.mono ?_
      rintro e w3 ⟨rfl, hk, hr3⟩
      have HK := Aside0.mk hk
      have HR3 := Aside0.mk hr3
      clear hk hr3
      go_wp2
      go_ret
      refine ⟨_, rfl, ?_, HRES.out.trans HK.out.1⟩
      have h5 : w3.ownsRow w.heap.size 23 2 (.slice (some ⟨g, 0, none⟩) (withoutB l0 l1).length cap) (withoutB l0 l1).length (cellsF (withoutB l0 l1)) := HR3.out.own (by rw [cellsF_len]; rfl) (by omega) hmax hg
      exact rowRF _ h5
  · rw [header_Without.f, if_neg hs] at h
    cases h


end Go.Proofs.Ytkjkbenmoogdjaa.X
namespace Go.Proofs.Ytkjkbenmoogdjaa.X
open Go.RowKit Go.Proofs.YtkjkbenmoogdjaaW.PrintWords Go.Proofs.YtkjkbenmoogdjaaW.PrintLast Go.Proofs.YtkjkbenmoogdjaaW.PrintMore
attribute [local go_sem] max2_int min2_int max_two min_two max_three min_three max_four min_four   -- for this text's walks alone
set_option linter.unusedVariables false
set_option linter.unusedSimpArgs false

/-! ### header_All: function 67 -/
/-- P10.1: the values of the fields of a name. -/
def allB (l : List S23) (name : ByteArray) : List ByteArray := (l.filter fun f => foldB name f.f0).map (·.f1)
theorem allB_len (l : List S23) (name : ByteArray) : (allB l name).length ≤ l.length := by
  unfold allB
  rw [List.length_map]
  exact List.length_filter_le _ _
def header_All.f (l0 : List (S23)) (a1 : ByteArray) : Option (List ByteArray) := if l0.length ≤ 1000000 ∧ a1.size ≤ 140737488351232 then some (allB l0 a1) else none
theorem own_below {w W : World} {base e size n : Nat} {v : Value} {xs : List Value} (h : w.ownsRow base e size v n xs) (hb : Below w.heap.size w W) : W.ownsRow base e size v n xs := by
  refine own_move h fun k hk => hb.block k ?_
  obtain ⟨c, hc⟩ := own_typed h k hk
  exact (Array.getElem?_eq_some_iff.1 hc).1
theorem infoStr2 : (Try.prog.info? 9).map (fun i => (i.zero, i.size, i.bytes)) = some (some (.string ⟨#[]⟩), 1, 16) := by kernel_rfl
set_option maxHeartbeats 4000000 in
set_option maxRecDepth 100000 in
theorem header_All.calls (A0 : Option Addr) (c0 : Nat) (l0 : List (S23)) (a1 : ByteArray) (r : List ByteArray) (w : World) (hr0 : Kd.C k23 w A0 l0.length l0) (hc0 : l0.length ≤ c0) (h : header_All.f l0 a1 = some r) :
    Calls Try.prog 67 #[.slice A0 l0.length c0, .string a1] w fun e w' => ∃ v0_ : Value, e = .returned (v0_) ∧ Kd.R Kd.string 9 w' w.heap.size (fun _ => True) v0_ r ∧ Below w.heap.size w w' := by
  by_cases hs : l0.length ≤ 1000000 ∧ a1.size ≤ 140737488351232
  · rw [header_All.f, if_pos hs] at h
    obtain rfl := Option.some.inj h
    clear h
    obtain ⟨hsl, hsn⟩ := hs
    obtain ⟨i0, hi, hz0, hz1, hz2⟩ := info_parts infoStr2
    obtain ⟨w0, hw0⟩ : ∃ w0, w.alloc (.cells #[.string a1] 9) = w0 := ⟨_, rfl⟩
    obtain ⟨w1, hw1⟩ : ∃ w1, w0.alloc (.cells #[.slice (some ⟨w.heap.size, 0, none⟩) 1 1] 31) = w1 := ⟨_, rfl⟩
    have hN := named_wp (some ⟨w.heap.size, 0, none⟩) 1 1 w0
    rw [hw1] at hN
    have hs0 : w0.heap.size = w.heap.size + 1 := by rw [← hw0]; simp
    rw [hs0] at hN
    have hs1 : w1.heap.size = w.heap.size + 2 := by rw [← hw1]; simp [hs0]
    have hb1 : Below w.heap.size w w1 := by rw [← hw1, ← hw0]; exact ((Below.refl _ w).alloc (Nat.le_refl _) _).alloc (by simp) _
    have hc1 : w1.cell? ⟨w.heap.size + 1, 0, none⟩ = some (.slice (some ⟨w.heap.size, 0, none⟩) 1 1) := by
      have := World.alloc_heap_new w0 (.cells #[.slice (some ⟨w.heap.size, 0, none⟩) 1 1] 31)
      rw [hw1, hs0] at this
      simp only [World.cell?, this]
      rfl
    have hc2 : w1.cell? ⟨w.heap.size, 0, none⟩ = some (.string a1) := by
      have := World.alloc_heap_new w (.cells #[.string a1] 9)
      rw [hw0] at this
      have h2 := Below.heap_alloc w0 (.cells #[.slice (some ⟨w.heap.size, 0, none⟩) 1 1] 31) w.heap.size (by omega)
      rw [hw1, this] at h2
      simp only [World.cell?, h2]
      rfl
    have hcall : ∀ (W : World) (f0 f1 : ByteArray), Below w1.heap.size w1 W → Calls Try.prog 103 #[.agg #[.string f0, .string f1], .pointer (some ⟨w.heap.size + 1, 0, none⟩)] W fun e w' => e = .returned (.bool (foldB a1 f0)) ∧ Below W.heap.size W w' := fun W f0 f1 hb => by
      have := named1_wp [a1] (by simpa using hsn) (by simp) w.heap.size 0 1 (w.heap.size + 1) W ((hb.cell (p := ⟨w.heap.size + 1, 0, none⟩) (by show w.heap.size + 1 < _; omega)).trans hc1) (by have := hb.size; omega) (fun j x hj => by
        cases j with
        | zero =>
          simp at hj
          subst hj
          exact (hb.cell (p := ⟨w.heap.size, 0, none⟩) (by show w.heap.size < _; omega)).trans hc2
        | succ j => simp at hj) f0 f1
      simpa using this
    have HCALL := Aside0.mk hcall
    have HB1 := Aside0.mk hb1
    have HS1 := Aside0.mk hs1
    have HS0 := Aside0.mk hs0
    have HW0 := Aside0.mk hw0
    have HRD : Aside0 (∀ (j : Nat) x, l0[j]? = some x → ∃ g o, A0 = some ⟨g, o, none⟩ ∧ g < w.heap.size ∧ w.cell? ⟨g, o + j * 2, none⟩ = some (.string x.f0) ∧ w.cell? ⟨g, o + j * 2 + 1, none⟩ = some (.string x.f1)) := ⟨fun j x hj => by
      obtain ⟨g, o, h1, h2, h3⟩ := reads_cellsF hr0 (by rintro rfl; simp at hj)
      exact ⟨g, o, h1, h2, h3 j x hj⟩⟩
    clear hcall hb1 hs1 hs0 hw0 hw1 hc1 hc2 hr0
    go_enter Try.func67, Try.ntmps67
    go_wp2_with (rw [HW0.out]; go_at_call 93; refine hN.mono ?_; rintro e w1' ⟨rfl, rfl⟩)
    obtain ⟨n1, hn1⟩ : ∃ n1, w1'.heap.size = n1 := ⟨_, rfl⟩
    have HN1 := Aside0.mk hn1
    clear hn1
    go_loopg [6, 14] l0.length (fun gg s6 s14 wr => ∃ kk : Nat, kk ≤ l0.length ∧ l0.length - kk ≤ gg ∧ s14 = .int .i64 kk ∧ Aside0 (Below w1'.heap.size w1' wr) ∧ Aside0 (wr.ownsRow n1 9 1 s6 (allB (l0.take kk) a1).length ((allB (l0.take kk) a1).map Value.string)))
    case atStart => exact ⟨0, Nat.zero_le _, by omega, rfl, ⟨Below.refl _ _⟩, ⟨World.ownsRow_nil _ _ _ _⟩⟩
    case round =>
      obtain ⟨kk, hkk, hgg, rfl, BW, HO⟩ := hrel
      by_cases hlt : kk < l0.length
      · have hltz : (kk : Int) < (l0.length : Int) := by omega
        obtain ⟨y, hy⟩ : ∃ y, l0[kk]? = some y := ⟨_, List.getElem?_eq_getElem hlt⟩
        have HY := Aside0.mk hy
        obtain ⟨g, o, rfl, hg, hr0, hr1⟩ := HRD.out kk y hy
        clear hy
        have hBW := HB1.out.trans (BW.out.mono HB1.out.size)
        have hcell : wr.cell? ⟨g, o + kk * 2, none⟩ = some (.string y.f0) := (hBW.cell (p := ⟨g, o + kk * 2, none⟩) hg).trans hr0
        have hcell1 : wr.cell? ⟨g, o + kk * 2 + 1, none⟩ = some (.string y.f1) := (hBW.cell (p := ⟨g, o + kk * 2 + 1, none⟩) hg).trans hr1
        clear hr0 hr1 hBW
        have HWX := Aside0.mk (⟨(Below.refl wr.heap.size wr).alloc (Nat.le_refl _) (.cells #[.string y.f0, .string y.f1] 23), World.alloc_heap_new wr (.cells #[.string y.f0, .string y.f1] 23)⟩ : Below wr.heap.size wr (wr.alloc (.cells #[.string y.f0, .string y.f1] 23)) ∧ _)
        have hlx : wr.heap.size < (wr.alloc (.cells #[.string y.f0, .string y.f1] 23)).heap.size := by simp
        have hc := HCALL.out (wr.alloc (.cells #[.string y.f0, .string y.f1] 23)) y.f0 y.f1 (BW.out.trans (HWX.out.1.mono BW.out.size))
        have HLX := Aside0.mk hlx
        clear hlx
        have hallt : allB (l0.take (kk + 1)) a1 = if foldB a1 y.f0 = true then allB (l0.take kk) a1 ++ [y.f1] else allB (l0.take kk) a1 := by
          have e1 : l0.take (kk + 1) = l0.take kk ++ [y] := by rw [List.take_add_one, HY.out]; rfl
          rw [e1]
          unfold allB
          rw [List.filter_append, List.map_append]
          by_cases hf : foldB a1 y.f0 = true
          · rw [if_pos hf]; simp [hf]
          · rw [if_neg hf]; simp [hf]
        have HAT := Aside0.mk hallt
        clear hallt
        obtain ⟨P, hP⟩ : ∃ P, allB (l0.take kk) a1 = P := ⟨_, rfl⟩
        have hPl : P.length ≤ l0.length := by rw [← hP]; exact Nat.le_trans (allB_len _ _) (by simp; omega)
        rw [hP] at HO HAT
        clear hP
        cases hq : foldB a1 y.f0 with
        | true =>
          rw [hq] at hc
          go_wp2_with (first
            | (go_at_call 103; refine hc.mono ?_; rintro e w' ⟨rfl, hb2⟩; have hb' := HWX.out.1.trans (hb2.mono (Nat.le_of_lt HLX.out)); have hv1 : w'.cell? ⟨wr.heap.size, 1, none⟩ = some (.string y.f1) := (hb2.cell (p := ⟨wr.heap.size, 1, none⟩) HLX.out).trans (by simp only [World.cell?, HWX.out.2]; rfl); have HB2 := Aside0.mk hb'; have HBB := Aside0.mk hb2; clear hb' hb2)
            | (at_builtin; refine wpList_append_own _ rfl _ _ 31 rfl n1 9 i0 (.string ⟨#[]⟩) 1 16 Try.underlying31 hi hz0 hz1 hz2 rfl (by decide) _ _ _ rfl ((own_below HO.out HB2.out).alloc _) ⟨w'.heap.size, 0, none⟩ 1 1 [.string y.f1] rfl rfl (cell_one_new _ _ _) (by simp [Value.oneCell']) (by unfold maxLen; omega) (by omega) (by have := HN1.out; have := BW.out.size; have := HB2.out.size; simp; omega) ?_; intro v' w3 hown' hgrow _))
          go_roundg (l0.length - (kk + 1))
          case measure => omega
          case rel =>
            refine ⟨kk + 1, by omega, by omega, by go_num, ⟨?_⟩, ⟨?_⟩⟩
            · have h5 := BW.out.trans (HB2.out.mono BW.out.size)
              refine ((h5.alloc h5.size _).grown hgrow (by simp; exact Nat.le_succ_of_le h5.size) ?_)
              intro k hk
              have := own_base HO.out k hk
              have := HN1.out
              omega
            · rw [HAT.out, if_pos hq]
              simpa using hown'
        | false =>
          rw [hq] at hc
          go_wp2_with (go_at_call 103; refine hc.mono ?_; rintro e w' ⟨rfl, hb2⟩; have hb' := HWX.out.1.trans (hb2.mono (Nat.le_of_lt HLX.out)); have HB2 := Aside0.mk hb'; clear hb' hb2)
          go_roundg (l0.length - (kk + 1))
          case measure => omega
          case rel =>
            refine ⟨kk + 1, by omega, by omega, by go_num, ⟨BW.out.trans (HB2.out.mono BW.out.size)⟩, ⟨?_⟩⟩
            rw [HAT.out, if_neg (by rw [hq]; simp)]
            exact own_below HO.out HB2.out
      · have hltz : ¬ (kk : Int) < (l0.length : Int) := by omega
        have hke : kk = l0.length := by omega
        subst hke
        go_wp2
        go_ret
        have h5 := HO.out
        rw [List.take_length] at h5
        exact ⟨_, rfl, rowR _ (own_weaken h5 (by have := HN1.out; have := HB1.out.size; omega)), HB1.out.trans (BW.out.mono HB1.out.size)⟩
  · rw [header_All.f, if_neg hs] at h
    cases h


end Go.Proofs.Ytkjkbenmoogdjaa.X
namespace Go.Proofs.Ytkjkbenmoogdjaa.X
open Go.RowKit Go.Proofs.YtkjkbenmoogdjaaW.PrintWords Go.Proofs.YtkjkbenmoogdjaaW.PrintLast Go.Proofs.YtkjkbenmoogdjaaW.PrintMore
attribute [local go_sem] max2_int min2_int max_two min_two max_three min_three max_four min_four   -- for this text's walks alone
set_option linter.unusedVariables false
set_option linter.unusedSimpArgs false

/-! ### octet_Lower: function 70 -/
/-- A row of octets, with the mark of a conversion's row. -/
def OctRow (W : World) (g e : Nat) (l : List UInt8) : Prop := ∃ cur : Array Value, ∃ m, W.heap[g]? = some (.cells cur e (m, m + 1)) ∧ l.length ≤ m ∧ ∀ (j : Nat) (c : UInt8), l[j]? = some c → cur[j]? = some (.int .u8 (c.toNat : Int))
theorem OctRow.new (W : World) (e : Nat) (s : ByteArray) : OctRow (Lib.bytesWorld W e s) W.heap.size e s.data.toList := by
  refine ⟨Lib.bytesCells W e s, _, Lib.bytesWorld_at_new W e s, by simp [Lib.bytesCells], fun j c hj => ?_⟩
  obtain ⟨hl, rfl⟩ := List.getElem?_eq_some_iff.1 hj
  have hl' : j < s.data.size := by simpa using hl
  unfold Lib.bytesCells
  rw [Array.getElem?_append_left (by simpa using hl'), Array.getElem?_map, Array.getElem?_eq_getElem hl']
  simp
theorem OctRow.cell {W : World} {g e : Nat} {l : List UInt8} (h : OctRow W g e l) (j : Nat) (c : UInt8) (hj : l[j]? = some c) : W.cell? ⟨g, j, none⟩ = some (.int .u8 (c.toNat : Int)) := by
  obtain ⟨cur, m, hh, _, hc⟩ := h
  simp only [World.cell?, hh]
  exact hc j c hj
theorem OctRow.frozen {W : World} {g e : Nat} {l : List UInt8} (h : OctRow W g e l) (j : Nat) (hj : j < l.length) : W.frozen? ⟨g, j, none⟩ = false := by
  obtain ⟨cur, m, hh, hm, hc⟩ := h
  simp only [World.frozen?, hh]
  simp
  omega
theorem OctRow.put {W : World} {g e : Nat} {l : List UInt8} (h : OctRow W g e l) (j : Nat) (c : UInt8) : OctRow (W.setCell ⟨g, j, none⟩ (.int .u8 (c.toNat : Int))) g e (l.set j c) := by
  obtain ⟨cur, m, hh, hm, hc⟩ := h
  refine ⟨cur.setIfInBounds j (.int .u8 (c.toNat : Int)), m, ?_, by simpa using hm, fun i d hi => ?_⟩
  · simp only [World.setCell, Array.getElem?_modify, hh]
    simp
  · rw [List.getElem?_set] at hi
    rw [Array.getElem?_setIfInBounds]
    by_cases e : j = i
    · subst e
      rw [if_pos rfl] at hi
      by_cases hlt : j < l.length
      · rw [if_pos hlt] at hi
        injection hi with hi
        subst hi
        obtain ⟨hlt2, _⟩ := Array.getElem?_eq_some_iff.1 (hc j _ (List.getElem?_eq_getElem hlt))
        rw [if_pos rfl, if_pos hlt2]
      · rw [if_neg hlt] at hi
        cases hi
    · rw [if_neg e] at hi
      rw [if_neg e]
      exact hc i d hi
theorem OctRow.drewN {W : World} {g e : Nat} {l : List UInt8} (h : OctRow W g e l) (q : Nat) : OctRow (W.drewN q) g e l := h
theorem OctRow.back {W : World} {g e : Nat} {l : List UInt8} (h : OctRow W g e l) {P : Program} (src dst : Nat) (c n : Nat) (hn : n = l.length) (hs : P.underlying src = some (.slice e)) (he : P.underlying e = some (.int .u8)) (hd : P.underlying dst = some .string) :
    (convert src dst (.slice (some ⟨g, 0, none⟩) n c)).run P W = .ok (.string ⟨l.toArray⟩) W := by
  subst hn
  have := run_convert_bytes_back (P := P) W src dst e ⟨g, 0, none⟩ c l hs he hd (fun j hj => by
    have e1 : (⟨g, 0, none⟩ : Addr).add j = ⟨g, j, none⟩ := by rw [add_plain]; try rw [Nat.zero_add]
    rw [e1, h.cell j _ (List.getElem?_eq_getElem hj)])
  exact this
/-- The first i of a text's octets as small letters, the others as they are. -/
def lowTo (s : List UInt8) (i : Nat) : List UInt8 := lowL (s.take i) ++ s.drop i
theorem lowTo_len (s : List UInt8) (i : Nat) : (lowTo s i).length = s.length := by
  unfold lowTo lowL; simp; omega
theorem lowTo_at (s : List UInt8) (i : Nat) (h : i < s.length) : (lowTo s i)[i]? = some (s[i]'h) := by
  unfold lowTo lowL
  rw [List.getElem?_append_right (by simp; omega)]
  simp
  rw [show i - min i s.length = 0 from by omega]
  simp [h]
theorem lowTo_set (s : List UInt8) (i : Nat) (h : i < s.length) : (lowTo s i).set i (lowU (s[i]'h)) = lowTo s (i + 1) := by
  unfold lowTo lowL
  rw [List.set_append_right _ _ (by simp; omega)]
  simp only [List.length_map, List.length_take]
  rw [show i - min i s.length = 0 from by omega, List.drop_eq_getElem_cons h, List.set_cons_zero, ← List.take_append_getElem h, List.map_append]
  simp
def octet_Lower.f (a0 : ByteArray) : Option (ByteArray) := if a0.size ≤ 1000000000 then some (lowB a0) else none
set_option maxHeartbeats 4000000 in
set_option maxRecDepth 100000 in
theorem octet_Lower.calls (a0 : ByteArray) (r : ByteArray) (w : World) (h : octet_Lower.f a0 = some r) :
    Calls Try.prog 70 #[.string a0] w fun e w' => e = .returned (.string r) ∧ Below w.heap.size w w' := by
  by_cases hs : a0.size ≤ 1000000000
  · rw [octet_Lower.f, if_pos hs] at h
    obtain rfl := Option.some.inj h
    clear h
    have kb := fun W => print_bytes (P := Try.prog) 9 90 5 Try.underlying9 Try.underlying90 Try.underlying5 a0 W
    have hO := OctRow.new w 5 a0
    have hB : Below w.heap.size w (Lib.bytesWorld w 5 a0) := bytes_below (Below.refl _ _) (Nat.le_refl _) _ _
    have HO := Aside0.mk hO
    have HB := Aside0.mk hB
    clear hO hB
    have HZ := Aside0.mk (size_list a0)
    go_enter Try.func70, Try.ntmps70
    go_wp2
    go_loopg [4, 5, 10] a0.size (fun gg _ _ s10 wr => ∃ i : Nat, i ≤ a0.size ∧ a0.size - i ≤ gg ∧ s10 = .int .i64 i ∧ Aside0 (Below w.heap.size w wr) ∧ Aside0 (OctRow wr w.heap.size 5 (lowTo a0.data.toList i)))
    case atStart => exact ⟨0, Nat.zero_le _, by omega, rfl, HB, HO⟩
    case round =>
      obtain ⟨i, hi, hg, rfl, HB1, HO1⟩ := hrel
      clear HO HB
      by_cases hlt : i < a0.size
      · have hltz : decide ((i : Int) < (a0.size : Int)) = true := decide_eq_true (by omega)
        have hll : i < a0.data.toList.length := by have := HZ.out; omega
        obtain ⟨c, hc⟩ : ∃ c, a0.data.toList[i]'hll = c := ⟨_, rfl⟩
        have hcell := HO1.out.cell i c (by rw [lowTo_at _ _ hll, hc])
        have hfz := HO1.out.frozen i (by rw [lowTo_len]; exact hll)
        have hL := fun W => octet_lower.calls (c.toNat : Int) _ W (octet_lower_f c)
        have HC := Aside0.mk hc
        clear hc
        go_wp2_with (go_at_call 68; refine (hL _).mono ?_; rintro e w' ⟨rfl, hdr⟩; obtain ⟨q, rfl⟩ := hdr.out)
        go_roundg (a0.size - (i + 1))
        case measure => omega
        case rel =>
          refine ⟨i + 1, by omega, by omega, by go_num, ⟨(pw_below_drewN HB1.out q).setCell (Nat.le_refl _) _⟩, ⟨?_⟩⟩
          have h2 := (HO1.out.drewN q).put i (lowU c)
          rw [← HC.out, lowTo_set _ _ hll, HC.out] at h2
          exact h2
      · have hltz : decide ((i : Int) < (a0.size : Int)) = false := decide_eq_false (by omega)
        have hie : i = a0.size := by omega
        have HIE := Aside0.mk hie
        clear hie
        have hback := fun cp => HO1.out.back (P := Try.prog) 90 9 cp a0.size (by rw [lowTo_len]; exact HZ.out) Try.underlying90 Try.underlying5 Try.underlying9
        have HR : Aside0 ((⟨(lowTo a0.data.toList i).toArray⟩ : ByteArray) = lowB a0) := ⟨by
          unfold lowTo lowB
          rw [List.take_of_length_le (by have := HZ.out; have := HIE.out; omega), List.drop_eq_nil_of_le (by have := HZ.out; have := HIE.out; omega), List.append_nil]⟩
        go_wp2
        go_ret
        exact ⟨by rw [HR.out]; rfl, HB1.out⟩
  · rw [octet_Lower.f, if_neg hs] at h
    cases h


end Go.Proofs.Ytkjkbenmoogdjaa.X
namespace Go.Proofs.Ytkjkbenmoogdjaa.X
open Go.RowKit Go.Proofs.YtkjkbenmoogdjaaW.PrintWords Go.Proofs.YtkjkbenmoogdjaaW.PrintLast Go.Proofs.YtkjkbenmoogdjaaW.PrintMore
attribute [local go_sem] max2_int min2_int max_two min_two max_three min_three max_four min_four   -- for this text's walks alone
set_option linter.unusedVariables false
set_option linter.unusedSimpArgs false

/-! ### header_Combined: function 71 -/
def header_Combined.f (l0 : List (S23)) (a1 : ByteArray) : Option (ByteArray × Bool) := (header_All.f l0 a1).bind fun t101 => ((lists_Join.f t101).bind fun t104 => (some (t104, decide ((t101.length : Int) > 0))))
set_option maxHeartbeats 8000000 in
set_option maxRecDepth 100000 in
theorem header_Combined.calls (A0 : Option Addr) (c0 : Nat) (l0 : List (S23)) (a1 : ByteArray) (r1 : ByteArray) (r2 : Bool) (w : World) (hr0 : Kd.C k23 w A0 l0.length l0) (hc0 : l0.length ≤ c0) (h : header_Combined.f l0 a1 = some (r1, r2)) :
    Calls Try.prog 71 #[.slice A0 l0.length c0, .string a1] w fun e w' => e = .returned (.tuple #[.string r1, .bool r2]) ∧ Below w.heap.size w w' := by
  have HR0 := Aside0.mk hr0
  have HC0 := Aside0.mk hc0
  clear hr0 hc0
  have HB := Aside0.mk (Below.refl w.heap.size w)
  have H : ((header_All.f l0 a1).bind fun t101 => ((lists_Join.f t101).bind fun t104 => (some (t104, decide ((t101.length : Int) > 0))))) = some (r1, r2) := h
  clear h
  replace H := Option.bind_eq_some_iff.mp H
  obtain ⟨t101, A30, H⟩ := H
  replace H : ((lists_Join.f t101).bind fun t104 => (some (t104, decide ((t101.length : Int) > 0)))) = some (r1, r2) := H
  have A3 := Aside0.mk A30
  clear A30
  replace H := Option.bind_eq_some_iff.mp H
  obtain ⟨t104, A40, H⟩ := H
  replace H : (some (t104, decide ((t101.length : Int) > 0))) = some (r1, r2) := H
  have A4 := Aside0.mk A40
  clear A40
  simp only [Option.some.injEq, Prod.mk.injEq] at H
  obtain ⟨rfl, rfl⟩ := H
  go_enter Try.func71, Try.ntmps71
  go_wp2_with (first | ((with_reducible refine gate_callee (f := 67) rfl ?_); refine goesL_ (some 9) rfl rfl Try.func67 (by kernel_rfl) rfl #[.slice A0 l0.length c0, .string a1] rfl (by (try simp only [List.map_toArray, List.map_cons, List.map_nil]); first | done | rfl | (simp only [List.length_drop, List.length_take]; rfl)) ?_; (with_reducible refine (header_All.calls _ _ l0 a1 t101 _ ?side1 ?side2 A3.out).mono ?_); (case side1 => repeat (first | exact HR0.out | (with_reducible refine Kd.C_alloc ?_ _) | (with_reducible refine Kd.C_drewN ?_ _) | (with_reducible refine Kd.C_drew ?_))); (case side2 => exact HC0.out); rintro e w5 ⟨v102, rfl, ho0, hb⟩; refine ⟨_, rfl, ?_⟩; have n0_ := Aside0.mk (Kd.R_lower ho0 (below_size (by repeat (first | (with_reducible first | exact HB.out | apply below_alloc | apply pw_below_drewN | apply below_drew1) | exact HB.out)))); have n1_ := Aside0.mk (below_step (by repeat (first | (with_reducible first | exact HB.out | apply below_alloc | apply pw_below_drewN | apply below_drew1) | exact HB.out)) hb); clear HB; have HO103 := n0_; have HB := n1_; clear n0_ n1_; (try clear hb); (try clear hb2); (try clear hk); (try clear hi); (try clear ho0); obtain ⟨Ao6, co6, eo6⟩ := Kd.R_slice HO103.out; subst eo6) | ((with_reducible refine gate_callee (f := 25) rfl ?_); refine goesL_ (some 11) rfl rfl Try.func25 (by kernel_rfl) rfl #[.slice Ao6 t101.length co6] rfl (by (try simp only [List.map_toArray, List.map_cons, List.map_nil]); first | done | rfl | (simp only [List.length_drop, List.length_take]; rfl)) ?_; (with_reducible refine (lists_Join.calls _ _ t101 t104 _ ?side1 ?side2 A4.out).mono ?_); (case side1 => repeat (first | exact (Kd.R_reads' HO103.out).2.2 | (with_reducible refine Kd.C_alloc ?_ _) | (with_reducible refine Kd.C_drewN ?_ _) | (with_reducible refine Kd.C_drew ?_))); (case side2 => exact (Kd.R_reads' HO103.out).2.1); rintro e w7 ⟨rfl, hb⟩; refine ⟨_, rfl, ?_⟩; have n0_ := Aside0.mk (Kd.R_below (by (with_reducible repeat (first | apply Kd.R_alloc | apply Kd.R_drewN | apply Kd.R_drew)); exact HO103.out) hb); have n1_ := Aside0.mk (below_step (by repeat (first | (with_reducible first | exact HB.out | apply below_alloc | apply pw_below_drewN | apply below_drew1) | exact HB.out)) hb); clear HO103; clear HB; have HO103 := n0_; have HB := n1_; clear n0_ n1_; (try clear hb); (try clear hb2); (try clear hk); (try clear hi)))
  go_ret2
  exact ⟨by first | rfl | (simp [errW_none, errW_some] <;> rfl) | (simp [*, errW_none, errW_some] <;> rfl), by repeat (first | (with_reducible first | exact HB.out | apply below_alloc | apply pw_below_drewN | apply below_drew1) | exact HB.out)⟩

end Go.Proofs.Ytkjkbenmoogdjaa.X
namespace Go.Proofs.Ytkjkbenmoogdjaa.X
open Go.RowKit Go.Proofs.YtkjkbenmoogdjaaW.PrintWords Go.Proofs.YtkjkbenmoogdjaaW.PrintLast Go.Proofs.YtkjkbenmoogdjaaW.PrintMore
attribute [local go_sem] max2_int min2_int max_two min_two max_three min_three max_four min_four   -- for this text's walks alone
set_option linter.unusedVariables false
set_option linter.unusedSimpArgs false

/-! ### connection_Words_1: function 72 -/
set_option maxHeartbeats 1000000 in
theorem words1_wp (x : ByteArray) (w : World) :
    Calls Try.prog 72 (#[.string x] ++ #[]) w fun e w' => e = .returned (.bool (!octetToken x)) ∧ Below w.heap.size w w' := by
  have hC := octet_Token.calls x (octetToken x) w rfl
  cases hq : octetToken x with
  | true =>
    rw [hq] at hC
    go_enter Try.func72, Try.ntmps72
    go_wp2_with (go_at_call 47; refine hC.mono ?_; rintro e w' ⟨rfl, hb⟩)
    go_ret
    exact ⟨rfl, hb⟩
  | false =>
    rw [hq] at hC
    go_enter Try.func72, Try.ntmps72
    go_wp2_with (go_at_call 47; refine hC.mono ?_; rintro e w' ⟨rfl, hb⟩)
    go_ret
    exact ⟨rfl, hb⟩


end Go.Proofs.Ytkjkbenmoogdjaa.X
namespace Go.Proofs.Ytkjkbenmoogdjaa.X
open Go.RowKit Go.Proofs.YtkjkbenmoogdjaaW.PrintWords Go.Proofs.YtkjkbenmoogdjaaW.PrintLast Go.Proofs.YtkjkbenmoogdjaaW.PrintMore
attribute [local go_sem] max2_int min2_int max_two min_two max_three min_three max_four min_four   -- for this text's walks alone
set_option linter.unusedVariables false
set_option linter.unusedSimpArgs false

/-! ### connection_Words: function 38 -/
/-- A row of texts of one's own, by its cells. -/
theorem row_ownS {e base : Nat} {w : World} {ok : Nat → Prop} {v : Value} {l : List ByteArray} (h : Kd.R Kd.string e w base ok v l) : w.ownsRow base e 1 v l.length (l.map Value.string) := by
  obtain ⟨_, inner, ho, hl, hr⟩ := h
  have hl' : inner.length = l.length * 1 := hl
  have he : inner = l.map Value.string := by
    apply List.ext_getElem?
    intro t
    by_cases ht : t < inner.length
    · have hx := List.getElem?_eq_getElem (l := l) (i := t) (by omega)
      have h1 : List.take 1 (List.drop (t * 1) inner) = [.string (l[t]'(by omega))] := hr t _ hx
      have g0 := congrArg (fun z : List Value => z[0]?) h1
      simp only [List.getElem?_take, List.getElem?_drop] at g0
      rw [Nat.mul_one] at g0
      rw [List.getElem?_map, hx]
      simpa using g0
    · rw [List.getElem?_eq_none (by omega), List.getElem?_eq_none (by rw [List.length_map]; omega)]
  rw [he] at ho
  exact ho
def connName : ByteArray := ⟨#[67, 111, 110, 110, 101, 99, 116, 105, 111, 110]⟩
/-- What the fields of a name say, joined. -/
def combB (l : List S23) (name : ByteArray) : ByteArray := joinB (allB l name)
/-- P17.1. -/
def wordsB (l : List S23) : List ByteArray × Int :=
  if (splitB (combB l connName)).2 = true then (if (splitB (combB l connName)).1.any (fun x => !octetToken x) = true then ([], 3) else ((splitB (combB l connName)).1.map lowB, 0)) else ([], 3)
def connection_Words.f (l0 : List (S23)) : Option (List ByteArray × Int) := if l0.length ≤ 1000000 ∧ (combB l0 connName).size ≤ 1000000 then some (wordsB l0) else none
theorem combined_f (l : List S23) (name : ByteArray) (h1 : l.length ≤ 1000000) (h2 : name.size ≤ 140737488351232) (h3 : (combB l name).size ≤ 140737488351232) : header_Combined.f l name = some (combB l name, decide (((allB l name).length : Int) > 0)) := by
  unfold header_Combined.f
  rw [show header_All.f l name = some (allB l name) from by unfold header_All.f; rw [if_pos ⟨h1, h2⟩]]
  simp only [Option.bind_some]
  have hl := allB_len l name
  rw [show lists_Join.f (allB l name) = some (combB l name) from by
    unfold lists_Join.f
    rw [if_pos ⟨by omega, by unfold combB joinB at h3; simpa [ByteArray.size] using h3⟩]
    rfl]
  rfl
/-- The first i of some texts as small letters, the others as they are. -/
def lowsTo (s : List ByteArray) (i : Nat) : List ByteArray := (s.take i).map lowB ++ s.drop i
theorem lowsTo_len (s : List ByteArray) (i : Nat) : (lowsTo s i).length = s.length := by
  unfold lowsTo; simp; omega
theorem lowsTo_at (s : List ByteArray) (i : Nat) (h : i < s.length) : (lowsTo s i)[i]? = some (s[i]'h) := by
  unfold lowsTo
  rw [List.getElem?_append_right (by simp; omega)]
  simp
  rw [show i - min i s.length = 0 from by omega]
  simp [h]
theorem lowsTo_set (s : List ByteArray) (i : Nat) (h : i < s.length) : (lowsTo s i).set i (lowB (s[i]'h)) = lowsTo s (i + 1) := by
  unfold lowsTo
  rw [List.set_append_right _ _ (by simp; omega)]
  simp only [List.length_map, List.length_take]
  rw [show i - min i s.length = 0 from by omega, List.drop_eq_getElem_cons h, List.set_cons_zero, ← List.take_append_getElem h, List.map_append]
  simp
set_option maxHeartbeats 8000000 in
set_option maxRecDepth 100000 in
theorem connection_Words.calls (A0 : Option Addr) (c0 : Nat) (l0 : List (S23)) (r1 : List ByteArray) (r2 : Int) (w : World) (hr0 : Kd.C k23 w A0 l0.length l0) (hc0 : l0.length ≤ c0) (h : connection_Words.f l0 = some (r1, r2)) :
    Calls Try.prog 38 #[.slice A0 l0.length c0] w fun e w' => ∃ v0_ : Value, e = .returned (.tuple #[v0_, .int .i64 r2]) ∧ Kd.R Kd.string 9 w' w.heap.size (fun _ => True) v0_ r1 ∧ Below w.heap.size w w' := by
  by_cases hs : l0.length ≤ 1000000 ∧ (combB l0 connName).size ≤ 1000000
  · rw [connection_Words.f, if_pos hs] at h
    have hres := Option.some.inj h
    clear h
    obtain ⟨hsl, hsc⟩ := hs
    have hCM := fun W hr => header_Combined.calls A0 c0 l0 connName (combB l0 connName) (decide (((allB l0 connName).length : Int) > 0)) W hr hc0 (combined_f l0 connName hsl (by decide) (by omega))
    have hC1 := hCM w hr0
    clear hCM hr0
    unfold connName at hC1
    have hSP := fun W => lists_Split.calls (combB l0 connName) (splitB (combB l0 connName)).1 (splitB (combB l0 connName)).2 W (by unfold lists_Split.f; rw [if_pos hsc])
    unfold wordsB at hres
    have hL := splitB_len (combB l0 connName)
    have hZ := splitB_size (combB l0 connName)
    unfold connName at hSP hres hL hZ hsc
    generalize combB l0 ⟨#[67, 111, 110, 110, 101, 99, 116, 105, 111, 110]⟩ = S at hSP hres hC1 hL hZ hsc
    generalize (splitB S).1 = L at hSP hres hL hZ
    generalize (splitB S).2 = ok at hSP hres
    have HRES := Aside0.mk hres
    have HZ := Aside0.mk hZ
    clear hres hZ
    cases ok with
    | false =>
      go_enter Try.func38, Try.ntmps38
      go_wp2_with (first
        | (go_at_call 71; refine hC1.mono ?_; rintro e w1 ⟨rfl, hb1⟩; have HB1 := Aside0.mk hb1; clear hb1)
        | (go_at_call 19; refine (hSP _).mono ?_; rintro e w2 ⟨v, rfl, hr2, hb2⟩; have HR2 := Aside0.mk hr2; have HB2 := Aside0.mk hb2; clear hr2 hb2))
      go_ret2
      have hr := HRES.out
      rw [if_neg (by simp)] at hr
      obtain ⟨rfl, rfl⟩ := Prod.mk.inj hr
      exact ⟨_, rfl, Kd.R_nil _ _ _ _ _, HB1.out.trans (HB2.out.mono HB1.out.size)⟩
    | true =>
      go_enter Try.func38, Try.ntmps38
      go_wp2_with (first
        | (go_at_call 71; refine hC1.mono ?_; rintro e w1 ⟨rfl, hb1⟩; have HB1 := Aside0.mk hb1; clear hb1)
        | (go_at_call 19; refine (hSP _).mono ?_; rintro e w2 ⟨v, rfl, hr2, hb2⟩; have HR2 := Aside0.mk hr2; have HB2 := Aside0.mk hb2; clear hr2 hb2))
      have hw2 : Below w.heap.size w w2 := HB1.out.trans (HB2.out.mono HB1.out.size)
      have HW2 := Aside0.mk hw2
      clear hw2
      rcases RowV.of_own (row_ownS HR2.out) with ⟨rfl, hn0⟩ | ⟨g, cap, rfl, hg, hcap, hmax, hrow⟩
      · have hnil : L = [] := List.eq_nil_of_length_eq_zero hn0
        refine (cntS_nil 72 #[] w2).mono ?_
        rintro e w3 ⟨rfl, rfl⟩
        go_wp2
        go_loopg [28] 0 (fun gg s28 wr => s28 = .int .i64 0 ∧ wr = w3)
        case atStart => exact ⟨rfl, rfl⟩
        case round =>
          obtain ⟨rfl, rfl⟩ := hrel
          go_wp2
          go_ret2
          have hr := HRES.out
          subst hnil
          rw [if_pos trivial, if_neg (by simp)] at hr
          obtain ⟨rfl, rfl⟩ := Prod.mk.inj hr
          exact ⟨_, rfl, Kd.R_nil _ _ _ _ _, HW2.out⟩
      · have hD := cntS_wp (fun x => !octetToken x) 72 #[] (enters_of Try.func72 (by kernel_rfl) rfl) g 0 cap L w2 (by omega) hrow.lt
          (fun j x hj => by rw [Nat.zero_add]; exact hrow.cell j _ (by simp [hj])) (fun W x _ _ => words1_wp x W)
        have HROW := Aside0.mk hrow
        clear hrow
        cases hany : L.any (fun x => !octetToken x) with
        | true =>
          rw [hany] at hD
          refine hD.mono ?_
          rintro e w3 ⟨rfl, hb3⟩
          go_wp2
          go_ret2
          have hr := HRES.out
          rw [if_pos trivial, if_pos hany] at hr
          obtain ⟨rfl, rfl⟩ := Prod.mk.inj hr
          exact ⟨_, rfl, Kd.R_nil _ _ _ _ _, HW2.out.trans (hb3.mono HW2.out.size)⟩
        | false =>
          rw [hany] at hD
          refine hD.mono ?_
          rintro e w3 ⟨rfl, hb3⟩
          have HROW3 := Aside0.mk (HROW.out.below hb3)
          have HW3 := Aside0.mk (HW2.out.trans (hb3.mono HW2.out.size))
          have hr := HRES.out
          rw [if_pos trivial, if_neg (by rw [hany]; simp)] at hr
          obtain ⟨rfl, rfl⟩ := Prod.mk.inj hr
          clear hb3 hany hr
          have hgw : w.heap.size ≤ g := Nat.le_trans HB1.out.size hg
          go_wp2
          go_loopg [28] L.length (fun gg s28 wr => ∃ kk : Nat, kk ≤ L.length ∧ L.length - kk ≤ gg ∧ s28 = .int .i64 kk ∧ Aside0 (Below w.heap.size w wr) ∧ Aside0 (RowV wr g 9 (cap * 1) ((lowsTo L kk).map Value.string)))
          case atStart => exact ⟨0, Nat.zero_le _, by omega, rfl, HW3, HROW3⟩
          case round =>
            obtain ⟨kk, hkk, hgg, rfl, BW, HO⟩ := hrel
            by_cases hlt : kk < L.length
            · have hltz : (kk : Int) < (L.length : Int) := by omega
              obtain ⟨y, hy⟩ : ∃ y, L[kk]'hlt = y := ⟨_, rfl⟩
              have hcell : wr.cell? ⟨g, kk, none⟩ = some (.string y) := HO.out.cell kk _ (by rw [List.getElem?_map, lowsTo_at L kk hlt, hy]; rfl)
              have hys : y.size ≤ S.size := by rw [← hy]; exact HZ.out _ (List.getElem_mem hlt)
              have hLW := octet_Lower.calls y (lowB y) wr (by unfold octet_Lower.f; rw [if_pos (by omega)])
              have HY := Aside0.mk hy
              clear hy
              go_wp2_with (go_at_call 70; refine hLW.mono ?_; rintro e w4 ⟨rfl, hb4⟩; have hc4 := (hb4.cell (p := ⟨g, kk, none⟩) HO.out.lt).trans hcell; have hf4 := (HO.out.below hb4).frozen kk)
              go_roundg (L.length - (kk + 1))
              case measure => omega
              case rel =>
                refine ⟨kk + 1, by omega, by omega, by go_num, ⟨(BW.out.trans (hb4.mono BW.out.size)).setCell hgw _⟩, ⟨?_⟩⟩
                have h6 := (HO.out.below hb4).put kk (.string (lowB y))
                rw [← List.map_set] at h6
                rw [← HY.out, lowsTo_set L kk hlt] at h6
                rw [← HY.out]
                exact h6
            · have hltz : ¬ (kk : Int) < (L.length : Int) := by omega
              have hke : kk = L.length := by omega
              subst hke
              go_wp2
              go_ret2
              have h6 := HO.out
              have e6 : lowsTo L L.length = L.map lowB := by unfold lowsTo; rw [List.take_length, List.drop_length, List.append_nil]
              rw [e6] at h6
              have h7 : wr.ownsRow w.heap.size 9 1 (.slice (some ⟨g, 0, none⟩) L.length cap) L.length ((L.map lowB).map Value.string) := h6.own (by simp) (by omega) hmax hgw
              have e7 : (L.map lowB).length = L.length := by simp
              refine ⟨_, rfl, rowR _ ?_, BW.out⟩
              rw [e7]
              exact h7
  · rw [connection_Words.f, if_neg hs] at h
    cases h


end Go.Proofs.Ytkjkbenmoogdjaa.X
namespace Go.Proofs.Ytkjkbenmoogdjaa.X
open Go.RowKit Go.Proofs.YtkjkbenmoogdjaaW.PrintWords Go.Proofs.YtkjkbenmoogdjaaW.PrintLast Go.Proofs.YtkjkbenmoogdjaaW.PrintMore
attribute [local go_sem] max2_int min2_int max_two min_two max_three min_three max_four min_four   -- for this text's walks alone
set_option linter.unusedVariables false
set_option linter.unusedSimpArgs false

/-! ### slices_Index_string_string: function 95 -/
def slices_Index_string_string.l0 : Nat → List ByteArray → ByteArray → Int → Int → Option (Int)
  | 0, _, _, _, _ => none
  | k + 1, x0, x1, x7, x8 => if x8 < x7 then (if 0 ≤ x8 then (if x8 < (x0.length : Int) then (if x1.toList = (rdOf ByteArray.empty x0 x8).toList then (some x8) else (slices_Index_string_string.l0 k x0 x1 x7 (wrap64 (x8 + 1)))) else (none)) else (none)) else (some (-1))
def slices_Index_string_string.f (k : Nat) (l0 : List ByteArray) (a1 : ByteArray) : Option (Int) := slices_Index_string_string.l0 k l0 a1 (l0.length : Int) 0
theorem slices_Index_string_string.mono_l : ∀ k, (∀ y0 y1 y2 y3, LeO (slices_Index_string_string.l0 k y0 y1 y2 y3) (slices_Index_string_string.l0 (k + 1) y0 y1 y2 y3))
  | 0 => fun _ _ _ _ r h => by simp [slices_Index_string_string.l0] at h
  | k + 1 => by
    have ih0 := slices_Index_string_string.mono_l k
    · intro y0 y1 y2 y3
      unfold slices_Index_string_string.l0
      repeat' first
      | (with_reducible exact ih0 _ _ _ _)
      | (with_reducible exact LeO.refl _)
      | (with_reducible exact LeO.none _)
      | (with_reducible refine LeO.ite ?_ ?_)
      | (with_reducible refine LeO.bind ?_ (fun _ => ?_))
      | exact ih0 _ _ _ _
      | exact LeO.none _
      | refine LeO.ite ?_ ?_
      | refine LeO.bind ?_ (fun _ => ?_)
theorem slices_Index_string_string.mono : ∀ a0 a1 k, LeO (slices_Index_string_string.f k a0 a1) (slices_Index_string_string.f (k + 1) a0 a1) := by
  intro a0 a1 k
  have ih0 := slices_Index_string_string.mono_l k
  unfold slices_Index_string_string.f
  repeat' first
      | (with_reducible exact ih0 _ _ _ _)
      | (with_reducible exact LeO.refl _)
      | (with_reducible exact LeO.none _)
      | (with_reducible refine LeO.ite ?_ ?_)
      | (with_reducible refine LeO.bind ?_ (fun _ => ?_))
      | exact ih0 _ _ _ _
      | exact LeO.none _
      | refine LeO.ite ?_ ?_
      | refine LeO.bind ?_ (fun _ => ?_)
set_option maxHeartbeats 8000000 in
set_option maxRecDepth 100000 in
theorem slices_Index_string_string.calls (k : Nat) (A0 : Option Addr) (c0 : Nat) (l0 : List ByteArray) (a1 : ByteArray) (r : Int) (w : World) (hr0 : Kd.C Kd.string w A0 l0.length l0) (hc0 : l0.length ≤ c0) (h : slices_Index_string_string.f k l0 a1 = some r) :
    Calls Try.prog 95 #[.slice A0 l0.length c0, .string a1] w fun e w' => e = .returned (.int .i64 r) ∧ Drawn0 w w' := by
  have HR0 := Aside0.mk hr0
  have HC0 := Aside0.mk hc0
  clear hr0 hc0
  have H : (slices_Index_string_string.l0 k l0 a1 (l0.length : Int) 0) = some r := h
  clear h
  have H' := Aside0.mk H
  clear H
  go_enter Try.func95, Try.ntmps95
  go_wp2
  go_loopg [8] k (fun kq v8 w' => ∃ (x8_1 : Int), v8 = .int .i64 x8_1 ∧ Aside0 (slices_Index_string_string.l0 kq l0 a1 (l0.length : Int) x8_1 = some r) ∧ Aside0 (kq ≤ k) ∧ Drawn0 w w')
  case atStart => exact ⟨(0), (by first | rfl | (simp; done) | (simp [*]; done)), H', ⟨Nat.le_refl _⟩, by repeat (first | exact Drawn0.refl _ | apply Drawn0.step)⟩
  case round =>
    clear H'
    try clear p2
    obtain ⟨x8_1, rfl, HA, HK1, ⟨m1, rfl⟩⟩ := hrel
    cases gk with
    | zero => exact absurd HA.out (by simp [slices_Index_string_string.l0])
    | succ k1 =>
      have H := HA.out
      clear HA
      simp only [slices_Index_string_string.l0] at H
      by_cases c3 : x8_1 < (l0.length : Int)
      · rw [if_pos c3] at H
        have c3b0 : decide (x8_1 < (l0.length : Int)) = true := decide_eq_true c3
        clear c3
        by_cases c4 : 0 ≤ x8_1
        · rw [if_pos c4] at H
          have c4b0 : decide (0 ≤ x8_1) = true := decide_eq_true c4
          clear c4
          by_cases c5 : x8_1 < (l0.length : Int)
          · rw [if_pos c5] at H
            have c5b0 : decide (x8_1 < (l0.length : Int)) = true := decide_eq_true c5
            clear c5
            by_cases c6 : a1.toList = (rdOf ByteArray.empty l0 x8_1).toList
            · rw [if_pos c6] at H
              have c6b0 : (a1.toList == (rdOf ByteArray.empty l0 x8_1).toList) = true := beq_iff_eq.mpr c6
              have c6b1 : (a1.toList != (rdOf ByteArray.empty l0 x8_1).toList) = false := bne_eq_false_iff_eq.mpr c6
              clear c6
              obtain rfl := Option.some.inj H
              have p101 : 0 ≤ (x8_1 : Int) := of_decide_eq_true (by first | (with_reducible assumption) | assumption)
              have q101 : x8_1 < (l0.length : Int) := of_decide_eq_true (by first | (with_reducible assumption) | assumption)
              obtain ⟨ad101, e101, hx101_0⟩ := Kd.at_string HR0.out x8_1 p101 q101
              cases e101
              replace p101 := eq_true p101
              replace q101 := eq_true q101
              go_wp2
              go_ret
              exact ⟨by first | rfl | (simp; done) | (simp [*]; done), by repeat (first | exact Drawn0.refl _ | apply Drawn0.step)⟩
            · rw [if_neg c6] at H
              have c6b0 : (a1.toList == (rdOf ByteArray.empty l0 x8_1).toList) = false := beq_eq_false_iff_ne.mpr c6
              have c6b1 : (a1.toList != (rdOf ByteArray.empty l0 x8_1).toList) = true := bne_iff_ne.mpr c6
              have H' := Aside0.mk H
              clear H
              have p101 : 0 ≤ (x8_1 : Int) := of_decide_eq_true (by first | (with_reducible assumption) | assumption)
              have q101 : x8_1 < (l0.length : Int) := of_decide_eq_true (by first | (with_reducible assumption) | assumption)
              obtain ⟨ad101, e101, hx101_0⟩ := Kd.at_string HR0.out x8_1 p101 q101
              cases e101
              replace p101 := eq_true p101
              replace q101 := eq_true q101
              go_wp2
              go_roundg k1
              case measure => have := HK1.out; omega
              case rel => exact ⟨(wrap64 (x8_1 + 1)), (by first | rfl | (simp; done) | (simp [*]; done)), H', ⟨by have := HK1.out; omega⟩, by repeat (first | exact Drawn0.refl _ | apply Drawn0.step)⟩
          · rw [if_neg c5] at H
            exact absurd H (by simp)
        · rw [if_neg c4] at H
          exact absurd H (by simp)
      · rw [if_neg c3] at H
        have c3b0 : decide (x8_1 < (l0.length : Int)) = false := decide_eq_false c3
        clear c3
        obtain rfl := Option.some.inj H
        go_wp2
        go_ret
        exact ⟨by first | rfl | (simp; done) | (simp [*]; done), by repeat (first | exact Drawn0.refl _ | apply Drawn0.step)⟩

end Go.Proofs.Ytkjkbenmoogdjaa.X
namespace Go.Proofs.Ytkjkbenmoogdjaa.X
open Go.RowKit Go.Proofs.YtkjkbenmoogdjaaW.PrintWords Go.Proofs.YtkjkbenmoogdjaaW.PrintLast Go.Proofs.YtkjkbenmoogdjaaW.PrintMore
attribute [local go_sem] max2_int min2_int max_two min_two max_three min_three max_four min_four   -- for this text's walks alone
set_option linter.unusedVariables false
set_option linter.unusedSimpArgs false

/-! ### slices_Contains_string_string: function 69 -/
def slices_Contains_string_string.f (k : Nat) (l0 : List ByteArray) (a1 : ByteArray) : Option (Bool) := (slices_Index_string_string.f k l0 a1).bind fun t101 => (some (decide (t101 ≥ 0)))
theorem slices_Contains_string_string.mono : ∀ a0 a1 k, LeO (slices_Contains_string_string.f k a0 a1) (slices_Contains_string_string.f (k + 1) a0 a1) := by
  intro a0 a1 k
  unfold slices_Contains_string_string.f
  repeat' first
      | (with_reducible exact slices_Index_string_string.mono _ _ _)
      | (with_reducible exact LeO.refl _)
      | (with_reducible exact LeO.none _)
      | (with_reducible refine LeO.ite ?_ ?_)
      | (with_reducible refine LeO.bind ?_ (fun _ => ?_))
      | exact slices_Index_string_string.mono _ _ _
      | exact LeO.none _
      | refine LeO.ite ?_ ?_
      | refine LeO.bind ?_ (fun _ => ?_)
set_option maxHeartbeats 8000000 in
set_option maxRecDepth 100000 in
theorem slices_Contains_string_string.calls (k : Nat) (A0 : Option Addr) (c0 : Nat) (l0 : List ByteArray) (a1 : ByteArray) (r : Bool) (w : World) (hr0 : Kd.C Kd.string w A0 l0.length l0) (hc0 : l0.length ≤ c0) (h : slices_Contains_string_string.f k l0 a1 = some r) :
    Calls Try.prog 69 #[.slice A0 l0.length c0, .string a1] w fun e w' => e = .returned (.bool r) ∧ Drawn0 w w' := by
  have HR0 := Aside0.mk hr0
  have HC0 := Aside0.mk hc0
  clear hr0 hc0
  have H : ((slices_Index_string_string.f k l0 a1).bind fun t101 => (some (decide (t101 ≥ 0)))) = some r := h
  clear h
  replace H := Option.bind_eq_some_iff.mp H
  obtain ⟨t101, A30, H⟩ := H
  replace H : (some (decide (t101 ≥ 0))) = some r := H
  have A3 := Aside0.mk A30
  clear A30
  obtain rfl := Option.some.inj H
  go_enter Try.func69, Try.ntmps69
  go_wp2_with (first | ((with_reducible refine gate_callee (f := 95) rfl ?_); refine goesL_ (some 7) rfl rfl Try.func95 (by kernel_rfl) rfl #[.slice A0 l0.length c0, .string a1] rfl (by (try simp only [List.map_toArray, List.map_cons, List.map_nil]); first | done | rfl | (simp only [List.length_drop, List.length_take]; rfl)) ?_; (with_reducible refine (slices_Index_string_string.calls k _ _ l0 a1 t101 _ ?side1 ?side2 A3.out).mono ?_); (case side1 => repeat (first | exact HR0.out | (with_reducible refine Kd.C_alloc ?_ _) | (with_reducible refine Kd.C_drewN ?_ _) | (with_reducible refine Kd.C_drew ?_))); (case side2 => exact HC0.out); rintro e w' ⟨rfl, ⟨nd, rfl⟩⟩; refine ⟨_, rfl, ?_⟩))
  go_ret
  exact ⟨by first | rfl | (simp; done) | (simp [*]; done), by repeat (first | exact Drawn0.refl _ | apply Drawn0.step)⟩

end Go.Proofs.Ytkjkbenmoogdjaa.X
namespace Go.Proofs.Ytkjkbenmoogdjaa.X
open Go.RowKit Go.Proofs.YtkjkbenmoogdjaaW.PrintWords Go.Proofs.YtkjkbenmoogdjaaW.PrintLast Go.Proofs.YtkjkbenmoogdjaaW.PrintMore
attribute [local go_sem] max2_int min2_int max_two min_two max_three min_three max_four min_four   -- for this text's walks alone
set_option linter.unusedVariables false
set_option linter.unusedSimpArgs false

/-! ### connection_Has: function 36 -/
def connection_Has.f (k : Nat) (l0 : List (S23)) (a1 : ByteArray) : Option (Bool) := (connection_Words.f l0).bind fun bt101 => ((octet_Lower.f a1).bind fun t105 => ((slices_Contains_string_string.f k bt101.1 t105).bind fun t106 => (some t106)))
theorem connection_Has.mono : ∀ a0 a1 k, LeO (connection_Has.f k a0 a1) (connection_Has.f (k + 1) a0 a1) := by
  intro a0 a1 k
  unfold connection_Has.f
  repeat' first
      | (with_reducible exact slices_Contains_string_string.mono _ _ _)
      | (with_reducible exact LeO.refl _)
      | (with_reducible exact LeO.none _)
      | (with_reducible refine LeO.ite ?_ ?_)
      | (with_reducible refine LeO.bind ?_ (fun _ => ?_))
      | exact slices_Contains_string_string.mono _ _ _
      | exact LeO.none _
      | refine LeO.ite ?_ ?_
      | refine LeO.bind ?_ (fun _ => ?_)
set_option maxHeartbeats 8000000 in
set_option maxRecDepth 100000 in
theorem connection_Has.calls (k : Nat) (A0 : Option Addr) (c0 : Nat) (l0 : List (S23)) (a1 : ByteArray) (r : Bool) (w : World) (hr0 : Kd.C k23 w A0 l0.length l0) (hc0 : l0.length ≤ c0) (h : connection_Has.f k l0 a1 = some r) :
    Calls Try.prog 36 #[.slice A0 l0.length c0, .string a1] w fun e w' => e = .returned (.bool r) ∧ Below w.heap.size w w' := by
  have HR0 := Aside0.mk hr0
  have HC0 := Aside0.mk hc0
  clear hr0 hc0
  have HB := Aside0.mk (Below.refl w.heap.size w)
  have H : ((connection_Words.f l0).bind fun bt101 => ((octet_Lower.f a1).bind fun t105 => ((slices_Contains_string_string.f k bt101.1 t105).bind fun t106 => (some t106)))) = some r := h
  clear h
  replace H := Option.bind_eq_some_iff.mp H
  obtain ⟨⟨t101, t102⟩, A30, H⟩ := H
  replace H : ((octet_Lower.f a1).bind fun t105 => ((slices_Contains_string_string.f k t101 t105).bind fun t106 => (some t106))) = some r := H
  have A3 := Aside0.mk A30
  clear A30
  replace H := Option.bind_eq_some_iff.mp H
  obtain ⟨t105, A40, H⟩ := H
  replace H : ((slices_Contains_string_string.f k t101 t105).bind fun t106 => (some t106)) = some r := H
  have A4 := Aside0.mk A40
  clear A40
  replace H := Option.bind_eq_some_iff.mp H
  obtain ⟨t106, A50, H⟩ := H
  replace H : (some t106) = some r := H
  have A5 := Aside0.mk A50
  clear A50
  obtain rfl := Option.some.inj H
  go_enter Try.func36, Try.ntmps36
  go_wp2_with (first | ((with_reducible refine gate_callee (f := 38) rfl ?_); refine goesL_ (some 9) rfl rfl Try.func38 (by kernel_rfl) rfl #[.slice A0 l0.length c0] rfl (by (try simp only [List.map_toArray, List.map_cons, List.map_nil]); first | done | rfl | (simp only [List.length_drop, List.length_take]; rfl)) ?_; (with_reducible refine (connection_Words.calls _ _ l0 t101 t102 _ ?side1 ?side2 A3.out).mono ?_); (case side1 => repeat (first | exact HR0.out | (with_reducible refine Kd.C_alloc ?_ _) | (with_reducible refine Kd.C_drewN ?_ _) | (with_reducible refine Kd.C_drew ?_))); (case side2 => exact HC0.out); rintro e w6 ⟨v103, rfl, ho0, hb⟩; refine ⟨_, rfl, ?_⟩; have n0_ := Aside0.mk (Kd.R_lower ho0 (below_size (by repeat (first | (with_reducible first | exact HB.out | apply below_alloc | apply pw_below_drewN | apply below_drew1) | exact HB.out)))); have n1_ := Aside0.mk (below_step (by repeat (first | (with_reducible first | exact HB.out | apply below_alloc | apply pw_below_drewN | apply below_drew1) | exact HB.out)) hb); clear HB; have HO104 := n0_; have HB := n1_; clear n0_ n1_; (try clear hb); (try clear hb2); (try clear hk); (try clear hi); (try clear ho0)) | ((with_reducible refine gate_callee (f := 70) rfl ?_); refine goesL_ (some 14) rfl rfl Try.func70 (by kernel_rfl) rfl #[.string a1] rfl (by (try simp only [List.map_toArray, List.map_cons, List.map_nil]); first | done | rfl | (simp only [List.length_drop, List.length_take]; rfl)) ?_; (with_reducible refine (octet_Lower.calls a1 t105 _ A4.out).mono ?_); rintro e w7 ⟨rfl, hb⟩; refine ⟨_, rfl, ?_⟩; have n0_ := Aside0.mk (Kd.R_below (by (with_reducible repeat (first | apply Kd.R_alloc | apply Kd.R_drewN | apply Kd.R_drew)); exact HO104.out) hb); have n1_ := Aside0.mk (below_step (by repeat (first | (with_reducible first | exact HB.out | apply below_alloc | apply pw_below_drewN | apply below_drew1) | exact HB.out)) hb); clear HO104; clear HB; have HO104 := n0_; have HB := n1_; clear n0_ n1_; (try clear hb); (try clear hb2); (try clear hk); (try clear hi); obtain ⟨Ao8, co8, eo8⟩ := Kd.R_slice HO104.out; subst eo8) | ((with_reducible refine gate_callee (f := 69) rfl ?_); refine goesL_ (some 15) rfl rfl Try.func69 (by kernel_rfl) rfl #[.slice Ao8 t101.length co8, .string t105] rfl (by (try simp only [List.map_toArray, List.map_cons, List.map_nil]); first | done | rfl | (simp only [List.length_drop, List.length_take]; rfl)) ?_; (with_reducible refine (slices_Contains_string_string.calls k _ _ t101 t105 t106 _ ?side1 ?side2 A5.out).mono ?_); (case side1 => repeat (first | exact (Kd.R_reads' HO104.out).2.2 | (with_reducible refine Kd.C_alloc ?_ _) | (with_reducible refine Kd.C_drewN ?_ _) | (with_reducible refine Kd.C_drew ?_))); (case side2 => exact (Kd.R_reads' HO104.out).2.1); rintro e w' ⟨rfl, ⟨nd, rfl⟩⟩; refine ⟨_, rfl, ?_⟩))
  go_ret
  exact ⟨by first | rfl | (simp [errW_none, errW_some] <;> rfl) | (simp [*, errW_none, errW_some] <;> rfl), by repeat (first | (with_reducible first | exact HB.out | apply below_alloc | apply pw_below_drewN | apply below_drew1) | exact HB.out)⟩

end Go.Proofs.Ytkjkbenmoogdjaa.X
namespace Go.Proofs.Ytkjkbenmoogdjaa.X
open Go.RowKit Go.Proofs.YtkjkbenmoogdjaaW.PrintWords Go.Proofs.YtkjkbenmoogdjaaW.PrintLast Go.Proofs.YtkjkbenmoogdjaaW.PrintMore
attribute [local go_sem] max2_int min2_int max_two min_two max_three min_three max_four min_four   -- for this text's walks alone
set_option linter.unusedVariables false
set_option linter.unusedSimpArgs false

/-! ### hop_held: function 60 -/
def heldL : List ByteArray := [⟨#[72, 111, 115, 116]⟩, ⟨#[67, 111, 110, 116, 101, 110, 116, 45, 76, 101, 110, 103, 116, 104]⟩, ⟨#[86, 105, 97]⟩]
theorem held_wp (w : World) : Calls Try.prog 60 #[] w fun e w' => e = .returned (.agg #[.string ⟨#[72, 111, 115, 116]⟩, .string ⟨#[67, 111, 110, 116, 101, 110, 116, 45, 76, 101, 110, 103, 116, 104]⟩, .string ⟨#[86, 105, 97]⟩]) ∧ Below w.heap.size w w' := by
  go_enter Try.func60, Try.ntmps60
  go_wp2
  go_returns
  exact ⟨rfl, (Below.refl _ w).alloc (Nat.le_refl _) _⟩


end Go.Proofs.Ytkjkbenmoogdjaa.X
namespace Go.Proofs.Ytkjkbenmoogdjaa.X
open Go.RowKit Go.Proofs.YtkjkbenmoogdjaaW.PrintWords Go.Proofs.YtkjkbenmoogdjaaW.PrintLast Go.Proofs.YtkjkbenmoogdjaaW.PrintMore
attribute [local go_sem] max2_int min2_int max_two min_two max_three min_three max_four min_four   -- for this text's walks alone
set_option linter.unusedVariables false
set_option linter.unusedSimpArgs false

/-! ### hop_Names_1_1: function 62 -/
set_option maxHeartbeats 1000000 in
theorem names11_wp (x f0 : ByteArray) (B : Nat) (w : World) (hx : x.size ≤ 140737488351232) (hc : w.cell? ⟨B, 0, none⟩ = some (.string f0)) :
    Calls Try.prog 62 (#[.string x] ++ #[.pointer (some ⟨B, 0, none⟩)]) w fun e w' => e = .returned (.bool (foldB x f0)) ∧ Below w.heap.size w w' := by
  have hC := octet_Fold.calls (x.size + 1) x f0 (foldB x f0) w (octet_fold x f0 hx _ (by omega))
  go_enter Try.func62, Try.ntmps62
  go_wp2_with (go_at_call 35; refine hC.mono ?_; rintro e w' ⟨rfl, hdr⟩)
  obtain ⟨q, rfl⟩ := hdr.out
  go_ret
  exact ⟨rfl, pw_below_drewN (Below.refl _ _) q⟩


end Go.Proofs.Ytkjkbenmoogdjaa.X
namespace Go.Proofs.Ytkjkbenmoogdjaa.X
open Go.RowKit Go.Proofs.YtkjkbenmoogdjaaW.PrintWords Go.Proofs.YtkjkbenmoogdjaaW.PrintLast Go.Proofs.YtkjkbenmoogdjaaW.PrintMore
attribute [local go_sem] max2_int min2_int max_two min_two max_three min_three max_four min_four   -- for this text's walks alone
set_option linter.unusedVariables false
set_option linter.unusedSimpArgs false

/-! ### hop_Names_1: function 61 -/
set_option maxHeartbeats 1000000 in
theorem names1_wp (f0 : ByteArray) (B : Nat) (w : World) (hB : w.heap[B]? = some (.cells #[.string ⟨#[72, 111, 115, 116]⟩, .string ⟨#[67, 111, 110, 116, 101, 110, 116, 45, 76, 101, 110, 103, 116, 104]⟩, .string ⟨#[86, 105, 97]⟩] 66 (0, 0))) :
    Calls Try.prog 61 (#[.string f0] ++ #[.pointer (some ⟨B, 0, none⟩)]) w fun e w' => e = .returned (.bool (heldL.any fun n => foldB n f0)) ∧ Below w.heap.size w w' := by
  have hBl : B < w.heap.size := (Array.getElem?_eq_some_iff.1 hB).1
  obtain ⟨W1, hW1⟩ : ∃ W1, w.alloc (.cells #[.string f0] 9) = W1 := ⟨_, rfl⟩
  have hb1 : Below w.heap.size w W1 := by rw [← hW1]; exact (Below.refl _ w).alloc (Nat.le_refl _) _
  have hs1 : W1.heap.size = w.heap.size + 1 := by rw [← hW1]; simp
  have hcell : W1.cell? ⟨w.heap.size, 0, none⟩ = some (.string f0) := by
    have := World.alloc_heap_new w (.cells #[.string f0] 9)
    rw [hW1] at this
    simp only [World.cell?, this]
    rfl
  have hB1 : W1.heap[B]? = some (.cells #[.string ⟨#[72, 111, 115, 116]⟩, .string ⟨#[67, 111, 110, 116, 101, 110, 116, 45, 76, 101, 110, 103, 116, 104]⟩, .string ⟨#[86, 105, 97]⟩] 66 (0, 0)) := (hb1.block B hBl).trans hB
  have hE := cntS_wp (fun n => foldB n f0) 62 #[.pointer (some ⟨w.heap.size, 0, none⟩)] (enters_of Try.func62 (by kernel_rfl) rfl) B 0 3 heldL W1 (by decide) (by omega)
    (fun j x hj => by
      match j, hj with
      | 0, hj => injection hj with hj; subst hj; simp only [World.cell?, hB1]; rfl
      | 1, hj => injection hj with hj; subst hj; simp only [World.cell?, hB1]; rfl
      | 2, hj => injection hj with hj; subst hj; simp only [World.cell?, hB1]; rfl
      | j + 3, hj => cases hj)
    (fun W x hx hb => names11_wp x f0 w.heap.size W (by
      have : ∀ y ∈ heldL, y.size ≤ 140737488351232 := by decide
      exact this x hx) ((hb.cell (p := ⟨w.heap.size, 0, none⟩) (by show w.heap.size < _; omega)).trans hcell))
  have HB1 := Aside0.mk hb1
  have HS1 := Aside0.mk hs1
  have HW1 := Aside0.mk hW1
  clear hb1 hs1 hW1 hcell hB hB1
  go_enter Try.func61, Try.ntmps61
  go_wp2_with (rw [HW1.out]; go_at_call 56; refine hE.mono ?_; rintro e w' ⟨rfl, hb'⟩)
  go_ret
  exact ⟨rfl, HB1.out.trans (hb'.mono (by have := HS1.out; omega))⟩


end Go.Proofs.Ytkjkbenmoogdjaa.X
namespace Go.Proofs.Ytkjkbenmoogdjaa.X
open Go.RowKit Go.Proofs.YtkjkbenmoogdjaaW.PrintWords Go.Proofs.YtkjkbenmoogdjaaW.PrintLast Go.Proofs.YtkjkbenmoogdjaaW.PrintMore
attribute [local go_sem] max2_int min2_int max_two min_two max_three min_three max_four min_four   -- for this text's walks alone
set_option linter.unusedVariables false
set_option linter.unusedSimpArgs false

/-! ### hop_always: function 63 -/
def alwaysL : List ByteArray := [⟨#[67, 111, 110, 110, 101, 99, 116, 105, 111, 110]⟩, ⟨#[75, 101, 101, 112, 45, 65, 108, 105, 118, 101]⟩, ⟨#[80, 114, 111, 120, 121, 45, 67, 111, 110, 110, 101, 99, 116, 105, 111, 110]⟩, ⟨#[84, 69]⟩, ⟨#[84, 114, 97, 105, 108, 101, 114]⟩, ⟨#[84, 114, 97, 110, 115, 102, 101, 114, 45, 69, 110, 99, 111, 100, 105, 110, 103]⟩, ⟨#[85, 112, 103, 114, 97, 100, 101]⟩]
theorem always_wp (w : World) : Calls Try.prog 63 #[] w fun e w' => e = .returned (.agg #[.string ⟨#[67, 111, 110, 110, 101, 99, 116, 105, 111, 110]⟩, .string ⟨#[75, 101, 101, 112, 45, 65, 108, 105, 118, 101]⟩, .string ⟨#[80, 114, 111, 120, 121, 45, 67, 111, 110, 110, 101, 99, 116, 105, 111, 110]⟩, .string ⟨#[84, 69]⟩, .string ⟨#[84, 114, 97, 105, 108, 101, 114]⟩, .string ⟨#[84, 114, 97, 110, 115, 102, 101, 114, 45, 69, 110, 99, 111, 100, 105, 110, 103]⟩, .string ⟨#[85, 112, 103, 114, 97, 100, 101]⟩]) ∧ Below w.heap.size w w' := by
  go_enter Try.func63, Try.ntmps63
  go_wp2
  go_returns
  exact ⟨rfl, (Below.refl _ w).alloc (Nat.le_refl _) _⟩


end Go.Proofs.Ytkjkbenmoogdjaa.X
namespace Go.Proofs.Ytkjkbenmoogdjaa.X
open Go.RowKit Go.Proofs.YtkjkbenmoogdjaaW.PrintWords Go.Proofs.YtkjkbenmoogdjaaW.PrintLast Go.Proofs.YtkjkbenmoogdjaaW.PrintMore
attribute [local go_sem] max2_int min2_int max_two min_two max_three min_three max_four min_four   -- for this text's walks alone
set_option linter.unusedVariables false
set_option linter.unusedSimpArgs false

/-! ### hop_Names: function 29 -/
def stays (w : ByteArray) : Bool := heldL.any fun n => foldB n w
/-- The words of the fields, without those that nobody may take out. -/
def moreB (l : List S23) : List ByteArray := (wordsB l).1.filter fun w => !stays w
/-- P29.1. -/
def namesB (l : List S23) : List ByteArray := alwaysL ++ moreB l
def namesTag (l : List S23) : Nat := if (moreB l).length = 0 then 68 else 9
def hop_Names.f (l0 : List (S23)) : Option (List ByteArray) := if l0.length ≤ 1000000 ∧ (combB l0 connName).size ≤ 1000000 then some (namesB l0) else none
theorem wordsB_len (l : List S23) : (wordsB l).1.length ≤ (combB l connName).size + 1 := by
  unfold wordsB
  have := splitB_len (combB l connName)
  split
  · split
    · simp
    · simpa using this
  · simp
theorem delS_nil (F : Nat) (caps : Array Value) (w : World) :
    Calls Try.prog 64 #[.slice none 0 0, .func (.func F) #[] caps] w fun e w' => e = .returned (.slice none 0 0) ∧ w' = w := by
  have hI : Calls Try.prog 87 #[.slice none 0 0, .func (.func F) #[] caps] w fun e w' => e = .returned (.int .i64 (-1)) ∧ w' = w := by
    go_enter Try.func87, Try.ntmps87
    go_wp2
    go_loopg [8] 0 (fun gg s8 wr => s8 = .int .i64 0 ∧ wr = w)
    case atStart => exact ⟨rfl, rfl⟩
    case round =>
      obtain ⟨rfl, rfl⟩ := hrel
      go_wp2
      go_ret
      exact ⟨rfl, rfl⟩
  go_enter Try.func64, Try.ntmps64
  go_wp2_with (go_at_call 87; refine hI.mono ?_; rintro e_ w' ⟨rfl, rfl⟩)
  go_ret
  exact ⟨rfl, rfl⟩
theorem always_cells (W : World) (B : Nat) (h : W.heap[B]? = some (.cells #[.string ⟨#[67, 111, 110, 110, 101, 99, 116, 105, 111, 110]⟩, .string ⟨#[75, 101, 101, 112, 45, 65, 108, 105, 118, 101]⟩, .string ⟨#[80, 114, 111, 120, 121, 45, 67, 111, 110, 110, 101, 99, 116, 105, 111, 110]⟩, .string ⟨#[84, 69]⟩, .string ⟨#[84, 114, 97, 105, 108, 101, 114]⟩, .string ⟨#[84, 114, 97, 110, 115, 102, 101, 114, 45, 69, 110, 99, 111, 100, 105, 110, 103]⟩, .string ⟨#[85, 112, 103, 114, 97, 100, 101]⟩] 68 (0, 0))) : ∀ j u, (alwaysL.map Value.string)[j]? = some u → W.cell? ⟨B, j, none⟩ = some u := by
  intro j u hj
  have e : (#[.string ⟨#[67, 111, 110, 110, 101, 99, 116, 105, 111, 110]⟩, .string ⟨#[75, 101, 101, 112, 45, 65, 108, 105, 118, 101]⟩, .string ⟨#[80, 114, 111, 120, 121, 45, 67, 111, 110, 110, 101, 99, 116, 105, 111, 110]⟩, .string ⟨#[84, 69]⟩, .string ⟨#[84, 114, 97, 105, 108, 101, 114]⟩, .string ⟨#[84, 114, 97, 110, 115, 102, 101, 114, 45, 69, 110, 99, 111, 100, 105, 110, 103]⟩, .string ⟨#[85, 112, 103, 114, 97, 100, 101]⟩] : Array Value)[j]? = (alwaysL.map Value.string)[j]? := by
    rw [← Array.getElem?_toList]; rfl
  simp only [World.cell?, h]
  rw [← hj]
  exact e
/-- What the last append of hop.Names gives. -/
theorem names_append (W : World) (n0 fb g cap : Nat) (D : List ByteArray) (hfb : W.heap[fb]? = some (.cells #[.string ⟨#[67, 111, 110, 110, 101, 99, 116, 105, 111, 110]⟩, .string ⟨#[75, 101, 101, 112, 45, 65, 108, 105, 118, 101]⟩, .string ⟨#[80, 114, 111, 120, 121, 45, 67, 111, 110, 110, 101, 99, 116, 105, 111, 110]⟩, .string ⟨#[84, 69]⟩, .string ⟨#[84, 114, 97, 105, 108, 101, 114]⟩, .string ⟨#[84, 114, 97, 110, 115, 102, 101, 114, 45, 69, 110, 99, 111, 100, 105, 110, 103]⟩, .string ⟨#[85, 112, 103, 114, 97, 100, 101]⟩] 68 (0, 0))) (hn0 : n0 ≤ fb) (hn1 : n0 ≤ W.heap.size) (hD : D.length ≤ 1000001) (hrow : RowV W g 9 (cap * 1) (D.map Value.string)) (ty : TypeId) :
    ∃ v7 w7, (Builtin.append_ #[31, 31] ty #[.slice (some ⟨fb, 0, none⟩) 7 7, .slice (some ⟨g, 0, none⟩) D.length cap]).run Try.prog W = .ok v7 w7 ∧ w7.ownsRow n0 (if D.length = 0 then 68 else 9) 1 v7 (alwaysL ++ D).length ((alwaysL ++ D).map Value.string) ∧ Below n0 W w7 := by
  obtain ⟨i0, hi, hz0, hz1, hz2⟩ := info_parts (show (Try.prog.info? 9).map (fun i => (i.zero, i.size, i.bytes)) = some (some (.string ⟨#[]⟩), 1, 16) from by kernel_rfl)
  by_cases h0 : D.length = 0
  · obtain rfl := List.eq_nil_of_length_eq_zero h0
    have hr := run_append_room_cells (P := Try.prog) W 31 ty 9 i0 Try.underlying31 hi fb 0 7 7 ⟨g, 0, none⟩ 0 cap [] (by simp) (fun j u hj => by simp at hj) (fun u hu => by cases hu) (by omega) (fun j hj => by simp at hj) (fun j hj => by simp at hj)
    refine ⟨_, _, hr, ?_, Below.refl _ _⟩
    rw [if_pos (by rfl), List.append_nil]
    exact ⟨rfl, .inr ⟨fb, 7, _, rfl, hn0, hfb, Nat.le_refl _, by decide, rfl, rfl⟩⟩
  · obtain ⟨v7, w7, hr, ho, hg⟩ := run_append_arg_grows (P := Try.prog) W 31 ty 9 i0 (.string ⟨#[]⟩) 1 16 Try.underlying31 hi hz0 hz1 hz2 rfl (by decide) ⟨fb, 0, none⟩ 7 7 (alwaysL.map Value.string) rfl (fun j u hj => by rw [Addr.add_lit, Nat.zero_add]; exact always_cells W fb hfb j u hj) ⟨g, 0, none⟩ D.length cap (D.map Value.string) (by simp) (fun j u hj => by rw [Addr.add_lit, Nat.zero_add]; exact hrow.cell j u hj) (by omega) (by unfold maxLen; omega) (by omega)
    refine ⟨v7, w7, hr, ?_, (Below.refl n0 W).grown hg hn1 (fun k hk => by cases hk)⟩
    rw [if_neg h0, List.map_append, List.length_append, show alwaysL.length = 7 from rfl]
    exact own_weaken ho hn1
theorem names_append_nil (W : World) (n0 fb : Nat) (hfb : W.heap[fb]? = some (.cells #[.string ⟨#[67, 111, 110, 110, 101, 99, 116, 105, 111, 110]⟩, .string ⟨#[75, 101, 101, 112, 45, 65, 108, 105, 118, 101]⟩, .string ⟨#[80, 114, 111, 120, 121, 45, 67, 111, 110, 110, 101, 99, 116, 105, 111, 110]⟩, .string ⟨#[84, 69]⟩, .string ⟨#[84, 114, 97, 105, 108, 101, 114]⟩, .string ⟨#[84, 114, 97, 110, 115, 102, 101, 114, 45, 69, 110, 99, 111, 100, 105, 110, 103]⟩, .string ⟨#[85, 112, 103, 114, 97, 100, 101]⟩] 68 (0, 0))) (hn0 : n0 ≤ fb) (ty : TypeId) :
    (Builtin.append_ #[31, 31] ty #[.slice (some ⟨fb, 0, none⟩) 7 7, .slice none 0 0]).run Try.prog W = .ok (.slice (some ⟨fb, 0, none⟩) 7 7) W ∧ W.ownsRow n0 68 1 (.slice (some ⟨fb, 0, none⟩) 7 7) alwaysL.length (alwaysL.map Value.string) := by
  obtain ⟨i0, hi, hz0, hz1, hz2⟩ := info_parts (show (Try.prog.info? 9).map (fun i => (i.zero, i.size, i.bytes)) = some (some (.string ⟨#[]⟩), 1, 16) from by kernel_rfl)
  refine ⟨?_, ⟨rfl, .inr ⟨fb, 7, _, rfl, hn0, hfb, Nat.le_refl _, by decide, rfl, rfl⟩⟩⟩
  have hu := run_underlying (P := Try.prog) Try.underlying31
  simp [Builtin.append_, hu, Go.sizeOf, typeInfo, hi, Builtin.lenOf, run_firstCells_none, storeCells]
/-- An append whose run is known, at a step of a region that draws. -/
theorem step_append_run {P : Program} {w : World} {ops : Array Oper} {o : Oper} {a : Act} {K : Act → World → Prop} {Q : Exit → Act → World → Prop} {E : Prop} (hgd : o.guard = none) (s x : Operand) (t : TypeId)
    (ho : o.op = .call { callee := .builtin .append, args := #[s, x], argTypes := #[t, t] }) (v1 v2 v' : Value) (w' : World) (hs : a.eval s = v1) (hx : a.eval x = v2)
    (hr : (Builtin.append_ #[t, t] o.type #[v1, v2]).run P w = .ok v' w') (h : K (a.put o.dst v') w') :
    if Region.wanted o (yielded ops a.tmps) = true then Oper.wp P o a w K Q else E := by
  have hw : Region.wanted o (yielded ops a.tmps) = true := by simp [Region.wanted, hgd]
  rw [if_pos hw]
  unfold Oper.wp execOp
  simp only [ho, resolve, invoke, builtin, Sem.run_bind, Sem.run_pure, Result.andThen_ok, List.map_toArray, List.map_cons, List.map_nil, hs, hx, hr]
  exact h
theorem infoStr3 : (Try.prog.info? 9).map (fun i => (i.zero, i.size, i.bytes)) = some (some (.string ⟨#[]⟩), 1, 16) := by kernel_rfl
set_option maxHeartbeats 8000000 in
set_option maxRecDepth 100000 in
theorem hop_Names.calls2 (A0 : Option Addr) (c0 : Nat) (l0 : List S23) (w : World) (hr0 : Kd.C k23 w A0 l0.length l0) (hc0 : l0.length ≤ c0) (h1 : l0.length ≤ 1000000) (h2 : (combB l0 connName).size ≤ 1000000) :
    Calls Try.prog 29 #[.slice A0 l0.length c0] w fun e w' => ∃ v0_ : Value, e = .returned v0_ ∧ Kd.R Kd.string (namesTag l0) w' w.heap.size (fun _ => True) v0_ (namesB l0) ∧ Below w.heap.size w w' := by
  have hW := connection_Words.calls A0 c0 l0 (wordsB l0).1 (wordsB l0).2 w hr0 hc0 (by unfold connection_Words.f; rw [if_pos ⟨h1, h2⟩])
  have hH := fun W => held_wp W
  have hA := fun W => always_wp W
  have hl := wordsB_len l0
  have HTAG : Aside0 (namesTag l0 = if (moreB l0).length = 0 then 68 else 9) := ⟨rfl⟩
  have HNM : Aside0 (namesB l0 = alwaysL ++ (wordsB l0).1.filter fun w => !stays w) := ⟨rfl⟩
  have HMORE : Aside0 (moreB l0 = (wordsB l0).1.filter fun w => !stays w) := ⟨rfl⟩
  generalize (wordsB l0).1 = L at hW hl HNM HMORE
  generalize (wordsB l0).2 = er at hW
  generalize namesTag l0 = tag at HTAG ⊢
  generalize namesB l0 = NB at HNM ⊢
  generalize moreB l0 = MB at HMORE HTAG
  clear hr0
  obtain ⟨i0, hi, hz0, hz1, hz2⟩ := info_parts infoStr3
  go_enter Try.func29, Try.ntmps29
  go_wp2_with (first
    | (go_at_call 38; refine hW.mono ?_; rintro e w1 ⟨v, rfl, hr1, hb1⟩; have HR1 := Aside0.mk hr1; have HB1 := Aside0.mk hb1; clear hr1 hb1)
    | (go_at_call 60; refine (hH _).mono ?_; rintro e w2 ⟨rfl, hb2⟩; have HB2 := Aside0.mk hb2; clear hb2)
    | (go_at_call 63; refine (hA _).mono ?_; rintro e w4 ⟨rfl, hb4⟩; have HB4 := Aside0.mk hb4; clear hb4))
  generalize hw3 : w2.alloc (.cells #[.string ⟨#[72, 111, 115, 116]⟩, .string ⟨#[67, 111, 110, 116, 101, 110, 116, 45, 76, 101, 110, 103, 116, 104]⟩, .string ⟨#[86, 105, 97]⟩] 66) = w3 at HB4
  generalize hw5 : w4.alloc (.cells #[.string ⟨#[67, 111, 110, 110, 101, 99, 116, 105, 111, 110]⟩, .string ⟨#[75, 101, 101, 112, 45, 65, 108, 105, 118, 101]⟩, .string ⟨#[80, 114, 111, 120, 121, 45, 67, 111, 110, 110, 101, 99, 116, 105, 111, 110]⟩, .string ⟨#[84, 69]⟩, .string ⟨#[84, 114, 97, 105, 108, 101, 114]⟩, .string ⟨#[84, 114, 97, 110, 115, 102, 101, 114, 45, 69, 110, 99, 111, 100, 105, 110, 103]⟩, .string ⟨#[85, 112, 103, 114, 97, 100, 101]⟩] 68) = w5
  have s3 : w3.heap.size = w2.heap.size + 1 := by rw [← hw3]; simp
  have s5 : w5.heap.size = w4.heap.size + 1 := by rw [← hw5]; simp
  have b3 : Below w2.heap.size w2 w3 := by rw [← hw3]; exact (Below.refl _ _).alloc (Nat.le_refl _) _
  have b5 : Below w4.heap.size w4 w5 := by rw [← hw5]; exact (Below.refl _ _).alloc (Nat.le_refl _) _
  have c3 : w3.heap[w2.heap.size]? = some (.cells #[.string ⟨#[72, 111, 115, 116]⟩, .string ⟨#[67, 111, 110, 116, 101, 110, 116, 45, 76, 101, 110, 103, 116, 104]⟩, .string ⟨#[86, 105, 97]⟩] 66 (0, 0)) := by rw [← hw3]; exact World.alloc_heap_new _ _
  have c5 : w5.heap[w4.heap.size]? = some (.cells #[.string ⟨#[67, 111, 110, 110, 101, 99, 116, 105, 111, 110]⟩, .string ⟨#[75, 101, 101, 112, 45, 65, 108, 105, 118, 101]⟩, .string ⟨#[80, 114, 111, 120, 121, 45, 67, 111, 110, 110, 101, 99, 116, 105, 111, 110]⟩, .string ⟨#[84, 69]⟩, .string ⟨#[84, 114, 97, 105, 108, 101, 114]⟩, .string ⟨#[84, 114, 97, 110, 115, 102, 101, 114, 45, 69, 110, 99, 111, 100, 105, 110, 103]⟩, .string ⟨#[85, 112, 103, 114, 97, 100, 101]⟩] 68 (0, 0)) := by rw [← hw5]; exact World.alloc_heap_new _ _
  have z1 := HB1.out.size
  have z2 := HB2.out.size
  have z4 := HB4.out.size
  have b35 : Below w3.heap.size w3 w5 := HB4.out.trans (b5.mono z4)
  have c35 : w5.heap[w2.heap.size]? = some (.cells #[.string ⟨#[72, 111, 115, 116]⟩, .string ⟨#[67, 111, 110, 116, 101, 110, 116, 45, 76, 101, 110, 103, 116, 104]⟩, .string ⟨#[86, 105, 97]⟩] 66 (0, 0)) := (b35.block _ (by omega)).trans c3
  have b15 : Below w1.heap.size w1 w5 := (HB2.out.trans (b3.mono z2)).trans (b35.mono (by omega))
  have b05 : Below w.heap.size w w5 := HB1.out.trans (b15.mono z1)
  have HW5 := Aside0.mk (⟨b05, b15, c35, c5⟩ : _ ∧ _ ∧ _ ∧ _)
  have q3 : w2.heap.size < w3.heap.size := by omega
  have q5 : w4.heap.size < w5.heap.size := by omega
  clear hw3 hw5 s3 s5 b3 b5 c3 c5 b35 c35 b15 b05
  rcases RowV.of_own (row_ownS HR1.out) with ⟨rfl, hn0⟩ | ⟨g, cap, rfl, hg, hcap, hmax, hrow⟩
  · have hnil : L = [] := List.eq_nil_of_length_eq_zero hn0
    subst hnil
    have hD := delS_nil 61 #[.pointer (some ⟨w2.heap.size, 0, none⟩)] w5.drew
    obtain ⟨hap, hown⟩ := names_append_nil w5.drew w.heap.size w4.heap.size HW5.out.2.2.2 (by omega) 31
    have HOWN := Aside0.mk hown
    clear hown
    go_region_with (go_at_call 64; refine hD.mono ?_; rintro e_ w6 ⟨rfl, rfl⟩)
    all_goals
      go_wp2
      go_ret
      have e1 : MB.length = 0 := by rw [HMORE.out]; rfl
      have e2 : NB = alwaysL := by rw [HNM.out]; rfl
      refine ⟨_, rfl, ?_, HW5.out.1.drew⟩
      rw [HTAG.out, if_pos e1, e2]
      exact rowR _ HOWN.out
  · have hrow5 := hrow.below HW5.out.2.1
    have hglt := hrow.lt
    have hD := delS_wp stays 61 #[.pointer (some ⟨w2.heap.size, 0, none⟩)] (enters_of Try.func61 (by kernel_rfl) rfl) w.heap.size g 9 (cap * 1) cap L w5.drew (by omega) hcap (by omega) hrow5
      (fun W x hx hk => names1_wp x w2.heap.size W ((hk.2.2 w2.heap.size (by show w2.heap.size < w5.heap.size; omega) (by omega)).trans HW5.out.2.2.1))
    have f5 : (L.filter fun x => !stays x).length ≤ 1000001 := Nat.le_trans (List.length_filter_le _ _) (by omega)
    generalize hDD : (L.filter fun x => !stays x) = D at hD HNM HMORE f5
    clear hDD
    have HD := Aside0.mk hD
    have f2 : w4.heap.size ≠ g := by omega
    have f3 : w.heap.size ≤ w4.heap.size := by omega
    have f4 : w.heap.size ≤ w5.drew.heap.size := by show w.heap.size ≤ w5.heap.size; omega
    clear hD hrow hrow5
    go_region_law (first | (refine step_append_run (by rfl) _ _ 31 (by rfl) _ _ _ _ (by rfl) (by rfl) hrun ?_) | (go_simp; go_wp2_with (go_at_call 64; refine HD.out.mono ?_; rintro e_ w6 ⟨rfl, hk6, hr6⟩; obtain ⟨v7, w7, hrun, hown, hb7⟩ := names_append w6 w.heap.size w4.heap.size g cap D ((hk6.2.2 w4.heap.size q5 f2).trans HW5.out.2.2.2) f3 (Nat.le_trans f4 hk6.2.1) f5 hr6 31; have HK6 := Aside0.mk hk6; have HOWN := Aside0.mk hown; have HB7 := Aside0.mk hb7; clear hk6 hr6 hown hb7)))
    all_goals
      go_wp2
      go_ret
      refine ⟨_, rfl, ?_, (HW5.out.1.drew.trans HK6.out.1).trans HB7.out⟩
      rw [HTAG.out, HMORE.out, HNM.out]
      exact rowR _ HOWN.out
set_option maxRecDepth 100000 in
theorem hop_Names.calls (A0 : Option Addr) (c0 : Nat) (l0 : List S23) (r : List ByteArray) (w : World) (hr0 : Kd.C k23 w A0 l0.length l0) (hc0 : l0.length ≤ c0) (h : hop_Names.f l0 = some r) :
    Calls Try.prog 29 #[.slice A0 l0.length c0] w fun e w' => ∃ v0_ : Value, e = .returned v0_ ∧ Kd.R Kd.string (namesTag l0) w' w.heap.size (fun _ => True) v0_ r ∧ Below w.heap.size w w' := by
  unfold hop_Names.f at h
  by_cases hs : l0.length ≤ 1000000 ∧ (combB l0 connName).size ≤ 1000000
  · rw [if_pos hs] at h
    obtain rfl := Option.some.inj h
    exact hop_Names.calls2 A0 c0 l0 w hr0 hc0 hs.1 hs.2
  · rw [if_neg hs] at h
    cases h


end Go.Proofs.Ytkjkbenmoogdjaa.X
namespace Go.Proofs.Ytkjkbenmoogdjaa.X
open Go.RowKit Go.Proofs.YtkjkbenmoogdjaaW.PrintWords Go.Proofs.YtkjkbenmoogdjaaW.PrintLast Go.Proofs.YtkjkbenmoogdjaaW.PrintMore
attribute [local go_sem] max2_int min2_int max_two min_two max_three min_three max_four min_four   -- for this text's walks alone
set_option linter.unusedVariables false
set_option linter.unusedSimpArgs false

/-! ### connection_Persists_1: function 74 -/
/-- Is a text one of some texts? -/
def inL (l : List ByteArray) (x : ByteArray) : Bool := l.any fun y => x.toList == y.toList
theorem index_l0 (l : List ByteArray) (x : ByteArray) (hl : l.length ≤ 140737488351232) : ∀ (d i k : Nat), l.length - i = d → i ≤ l.length → d < k →
    ∃ r, slices_Index_string_string.l0 k l x (l.length : Int) (i : Int) = some r ∧ decide (r ≥ 0) = (l.drop i).any (fun y => x.toList == y.toList) := by
  intro d
  induction d with
  | zero =>
    intro i k hd hi hk
    obtain ⟨k, rfl⟩ : ∃ m, k = m + 1 := ⟨k - 1, by omega⟩
    simp only [slices_Index_string_string.l0]
    refine ⟨-1, by rw [if_neg (by omega)], ?_⟩
    rw [List.drop_eq_nil_iff.2 (by omega)]
    rfl
  | succ d ih =>
    intro i k hd hi hk
    obtain ⟨k, rfl⟩ : ∃ m, k = m + 1 := ⟨k - 1, by omega⟩
    have hlt : i < l.length := by omega
    have hw : wrap64 ((i : Int) + 1) = ((i + 1 : Nat) : Int) := by rw [wrap_id _ (by omega) (by omega)]; omega
    have hrd : rdOf ByteArray.empty l (i : Int) = l[i]'hlt := by unfold rdOf; simp [hlt]
    simp only [slices_Index_string_string.l0]
    rw [if_pos (by omega), if_pos (by omega), if_pos (by omega), hrd, hw, List.drop_eq_getElem_cons hlt, List.any_cons]
    by_cases h : x.toList = (l[i]'hlt).toList
    · refine ⟨(i : Int), by rw [if_pos h], ?_⟩
      rw [beq_iff_eq.2 h, Bool.true_or]
      exact decide_eq_true (by omega)
    · obtain ⟨r, h1, h2⟩ := ih (i + 1) k (by omega) (by omega) (by omega)
      refine ⟨r, by rw [if_neg h]; exact h1, ?_⟩
      rw [h2, beq_eq_false_iff_ne.2 h, Bool.false_or]
theorem contains_f (l : List ByteArray) (x : ByteArray) (hl : l.length ≤ 140737488351232) (k : Nat) (hk : l.length < k) : slices_Contains_string_string.f k l x = some (inL l x) := by
  obtain ⟨r, h1, h2⟩ := index_l0 l x hl l.length 0 k (by omega) (by omega) hk
  unfold slices_Contains_string_string.f slices_Index_string_string.f
  rw [show (0 : Int) = ((0 : Nat) : Int) from rfl, h1]
  simp only [Option.bind_some]
  rw [show ((0 : Nat) : Int) = 0 from rfl, h2]
  rfl
set_option maxHeartbeats 1000000 in
theorem persists1_wp (l : List ByteArray) (x : ByteArray) (A : Option Addr) (c B : Nat) (w : World) (hB : w.cell? ⟨B, 0, none⟩ = some (.slice A l.length c)) (hC : Kd.C Kd.string w A l.length l) (hc : l.length ≤ c) (hl : l.length ≤ 140737488351232) :
    Calls Try.prog 74 #[.string x, .pointer (some ⟨B, 0, none⟩)] w fun e w' => e = .returned (.bool (inL l x)) ∧ Drawn0 w w' := by
  have hE := slices_Contains_string_string.calls (l.length + 1) A c l x (inL l x) w hC hc (contains_f l x hl _ (by omega))
  clear hC
  go_enter Try.func74, Try.ntmps74
  go_wp2_with (go_at_call 69; refine hE.mono ?_; rintro e w' ⟨rfl, hd⟩)
  obtain ⟨q, rfl⟩ := hd.out
  go_ret
  exact ⟨rfl, ⟨q, rfl⟩⟩


end Go.Proofs.Ytkjkbenmoogdjaa.X
namespace Go.Proofs.Ytkjkbenmoogdjaa.X
open Go.RowKit Go.Proofs.YtkjkbenmoogdjaaW.PrintWords Go.Proofs.YtkjkbenmoogdjaaW.PrintLast Go.Proofs.YtkjkbenmoogdjaaW.PrintMore
attribute [local go_sem] max2_int min2_int max_two min_two max_three min_three max_four min_four   -- for this text's walks alone
set_option linter.unusedVariables false
set_option linter.unusedSimpArgs false

/-! ### connection_Persists: function 41 -/
def closeName : ByteArray := ⟨#[99, 108, 111, 115, 101]⟩
def keepName : ByteArray := ⟨#[107, 101, 101, 112, 45, 97, 108, 105, 118, 101]⟩
/-- P17.2. -/
def persistsB (minor : Int) (l : List S23) : Bool := (wordsB l).2 == 0 && (!inL (wordsB l).1 closeName && (decide (minor > 0) || inL (wordsB l).1 keepName))
def connection_Persists.f (a0 : Int) (l1 : List (S23)) : Option (Bool) := if l1.length ≤ 1000000 ∧ (combB l1 connName).size ≤ 1000000 then some (persistsB a0 l1) else none
set_option maxHeartbeats 8000000 in
set_option maxRecDepth 100000 in
theorem connection_Persists.calls (a0 : Int) (A1 : Option Addr) (c1 : Nat) (l1 : List (S23)) (r : Bool) (w : World) (hr1 : Kd.C k23 w A1 l1.length l1) (hc1 : l1.length ≤ c1) (h : connection_Persists.f a0 l1 = some r) :
    Calls Try.prog 41 #[.int .i64 a0, .slice A1 l1.length c1] w fun e w' => e = .returned (.bool r) ∧ Below w.heap.size w w' := by
  by_cases hs : l1.length ≤ 1000000 ∧ (combB l1 connName).size ≤ 1000000
  · rw [connection_Persists.f, if_pos hs] at h
    have hres := Option.some.inj h
    clear h
    have hW := connection_Words.calls A1 c1 l1 (wordsB l1).1 (wordsB l1).2 w hr1 hc1 (by unfold connection_Words.f; rw [if_pos hs])
    have hl := wordsB_len l1
    have hs2 := hs.2
    unfold persistsB closeName keepName at hres
    generalize (wordsB l1).1 = L at hW hl hres
    generalize (wordsB l1).2 = er at hW hres
    have hll : L.length ≤ 1000001 := by omega
    clear hr1 hl hs hs2
    have HRES := Aside0.mk hres
    clear hres
    by_cases he : er = 0
    · subst he
      go_enter Try.func41, Try.ntmps41
      go_wp2_with (first
        | (go_at_call 38; refine hW.mono ?_; rintro e w1 ⟨v, rfl, hr1, hb1⟩; obtain ⟨A, c, rfl, hlc, hC⟩ := Kd.R_reads hr1; have HC1 := Aside0.mk hC; clear hr1 hC; have HB1 := Aside0.mk hb1; clear hb1)
        | fail)
      have hcell : (w1.alloc (.cells #[.slice A L.length c] 31)).cell? ⟨w1.heap.size, 0, none⟩ = some (.slice A L.length c) := by
        have := World.alloc_heap_new w1 (.cells #[.slice A L.length c] 31)
        simp only [World.cell?, this]
        rfl
      have hB2 : Below w.heap.size w (w1.alloc (.cells #[.slice A L.length c] 31)) := HB1.out.alloc HB1.out.size _
      have HB2 := Aside0.mk hB2
      have hP := fun x q => persists1_wp L x A c w1.heap.size ((w1.alloc (.cells #[.slice A L.length c] 31)).drewN q) hcell (Kd.C_drewN (Kd.C_alloc HC1.out _) _) hlc (by omega)
      have HP := Aside0.mk hP
      clear hP hB2 hcell
      refine (HP.out _ 0).mono ?_
      rintro e w3 ⟨rfl, hd3⟩
      obtain ⟨q3, hq3⟩ := hd3.out
      have hw3 : w3 = (w1.alloc (.cells #[.slice A L.length c] 31)).drewN (0 + q3) := hq3.trans (by rw [Nat.zero_add]; rfl)
      clear hq3 hd3
      rw [Nat.zero_add] at hw3
      subst hw3
      have HC := Aside0.mk (⟨_, rfl⟩ : ∃ b, inL L ⟨#[99, 108, 111, 115, 101]⟩ = b)
      cases hc : inL L ⟨#[99, 108, 111, 115, 101]⟩ with
      | true =>
        go_wp2
        go_ret
        exact ⟨by rw [← HRES.out, hc]; rfl, pw_below_drewN HB2.out q3⟩
      | false =>
        by_cases hm : a0 > 0
        · have hmb : decide (0 < a0) = true := decide_eq_true hm
          go_wp2
          go_ret
          exact ⟨by rw [← HRES.out, hc, decide_eq_true hm]; rfl, pw_below_drewN HB2.out q3⟩
        · have hmb : decide (0 < a0) = false := decide_eq_false hm
          have HM := Aside0.mk hm
          clear hm
          go_wp2_with fail
          refine (HP.out _ q3).mono ?_
          rintro e w4 ⟨rfl, hd4⟩
          obtain ⟨q4, hq4⟩ := hd4.out
          subst hq4
          go_wp2
          go_ret
          exact ⟨by rw [← HRES.out, hc, decide_eq_false (show ¬ a0 > 0 by have := HM.out; omega)]; rfl, pw_below_drewN HB2.out (q3 + q4)⟩
    · have he2 : (er == 0) = false := beq_eq_false_iff_ne.2 he
      go_enter Try.func41, Try.ntmps41
      go_wp2_with (first
        | (go_at_call 38; refine hW.mono ?_; rintro e w1 ⟨v, rfl, hr1, hb1⟩; obtain ⟨A, c, rfl, hlc, hC⟩ := Kd.R_reads hr1; have HC1 := Aside0.mk hC; clear hr1 hC; have HB1 := Aside0.mk hb1; clear hb1)
        | fail)
      go_ret
      exact ⟨by rw [← HRES.out, he2]; rfl, HB1.out.alloc HB1.out.size _⟩
  · rw [connection_Persists.f, if_neg hs] at h
    cases h


end Go.Proofs.Ytkjkbenmoogdjaa.X
namespace Go.Proofs.Ytkjkbenmoogdjaa.X
open Go.RowKit Go.Proofs.YtkjkbenmoogdjaaW.PrintWords Go.Proofs.YtkjkbenmoogdjaaW.PrintLast Go.Proofs.YtkjkbenmoogdjaaW.PrintMore
attribute [local go_sem] max2_int min2_int max_two min_two max_three min_three max_four min_four   -- for this text's walks alone
set_option linter.unusedVariables false
set_option linter.unusedSimpArgs false

/-! ### stringslite_Cut: function 78 -/
/-- Cut at a separator of one byte. -/
def cutAt (s : ByteArray) (c : UInt8) : ByteArray × ByteArray × Bool :=
  if 0 ≤ Lib.indexByte s.data.toList c then (s.extract 0 (Lib.indexByte s.data.toList c).toNat, s.extract ((Lib.indexByte s.data.toList c).toNat + 1) s.size, true) else (s, ⟨#[]⟩, false)
def stringslite_Cut.f (a0 : ByteArray) (a1 : ByteArray) : Option (ByteArray × ByteArray × Bool) := if a1.size = 1 ∧ a0.size ≤ 140737488351232 then some (cutAt a0 (a1.data.getD 0 0)) else none
theorem one_byte (s : ByteArray) (h : s.size = 1) : s = ⟨#[s.data.getD 0 0]⟩ := by
  obtain ⟨⟨l⟩⟩ := s
  match l, h with
  | [c], _ => rfl
theorem indexByte_cases (s : ByteArray) (c : UInt8) : Lib.indexByte s.data.toList c = -1 ∨ ∃ n : Nat, Lib.indexByte s.data.toList c = n ∧ n < s.size := by
  by_cases h : 0 ≤ Lib.indexByte s.data.toList c
  · obtain ⟨n, hn⟩ := Int.eq_ofNat_of_zero_le h
    refine .inr ⟨n, hn, ?_⟩
    have := (Lib.indexByte_some hn).1
    have h2 := (List.getElem?_eq_some_iff.1 this).1
    rw [Lib.size_eq]; exact h2
  · left
    have := Lib.indexByte_ge s.data.toList c
    omega
set_option maxHeartbeats 2000000 in
set_option maxRecDepth 100000 in
theorem stringslite_Cut_one (s : ByteArray) (c : UInt8) (w : World) (hs : s.size ≤ 140737488351232) :
    Calls Try.prog 78 #[.string s, .string ⟨#[c]⟩] w fun e w' => e = .returned (.tuple #[.string (cutAt s c).1, .string (cutAt s c).2.1, .bool (cutAt s c).2.2]) ∧ Drawn0 w w' := by
  have hC := fun W => Try.stringslite_Index_one s c W
  rcases indexByte_cases s c with hi | ⟨n, hi, hn⟩
  · rw [hi] at hC
    have HR : Aside0 (cutAt s c = (s, ⟨#[]⟩, false)) := ⟨by unfold cutAt; rw [hi, if_neg (by omega)]⟩
    clear hi
    go_enter Try.func78, Try.ntmps78
    go_wp2_with (go_at_call 99; refine (hC _).mono ?_; rintro e w' ⟨rfl, rfl⟩)
    go_ret3
    exact ⟨by rw [HR.out]; rfl, Drawn0.refl _⟩
  · rw [hi] at hC
    have HR : Aside0 (cutAt s c = (s.extract 0 n, s.extract (n + 1) s.size, true)) := ⟨by unfold cutAt; rw [hi, if_pos (by omega)]; rfl⟩
    clear hi
    have c1 : (0 : Int) ≤ ↑n := by omega
    have c2 : (↑n : Int) ≤ ↑s.size := by omega
    have c3 : (0 : Int) ≤ ↑n + 1 := by omega
    have c4 : (↑n + 1 : Int) ≤ ↑s.size := by omega
    go_enter Try.func78, Try.ntmps78
    go_wp2_with (go_at_call 99; refine (hC _).mono ?_; rintro e w' ⟨rfl, rfl⟩)
    go_region
    go_wp2
    go_ret3
    exact ⟨by rw [HR.out]; rfl, ⟨1, rfl⟩⟩
theorem stringslite_Cut.calls (a0 : ByteArray) (a1 : ByteArray) (r1 : ByteArray) (r2 : ByteArray) (r3 : Bool) (w : World) (h : stringslite_Cut.f a0 a1 = some (r1, r2, r3)) :
    Calls Try.prog 78 #[.string a0, .string a1] w fun e w' => e = .returned (.tuple #[.string r1, .string r2, .bool r3]) ∧ Drawn0 w w' := by
  by_cases hh : a1.size = 1 ∧ a0.size ≤ 140737488351232
  · rw [stringslite_Cut.f, if_pos hh] at h
    have he := one_byte a1 hh.1
    generalize a1.data.getD 0 0 = c at he h
    subst he
    have h2 := Option.some.inj h
    obtain ⟨rfl, rfl, rfl⟩ : (cutAt a0 c).1 = r1 ∧ (cutAt a0 c).2.1 = r2 ∧ (cutAt a0 c).2.2 = r3 := by rw [h2]; exact ⟨rfl, rfl, rfl⟩
    exact stringslite_Cut_one a0 c w hh.2
  · rw [stringslite_Cut.f, if_neg hh] at h
    cases h


end Go.Proofs.Ytkjkbenmoogdjaa.X
namespace Go.Proofs.Ytkjkbenmoogdjaa.X
open Go.RowKit Go.Proofs.YtkjkbenmoogdjaaW.PrintWords Go.Proofs.YtkjkbenmoogdjaaW.PrintLast Go.Proofs.YtkjkbenmoogdjaaW.PrintMore
attribute [local go_sem] max2_int min2_int max_two min_two max_three min_three max_four min_four   -- for this text's walks alone
set_option linter.unusedVariables false
set_option linter.unusedSimpArgs false

/-! ### strings_Cut: function 46 -/
def strings_Cut.f (a0 : ByteArray) (a1 : ByteArray) : Option (ByteArray × ByteArray × Bool) := stringslite_Cut.f a0 a1
set_option maxHeartbeats 2000000 in
set_option maxRecDepth 100000 in
theorem strings_Cut.calls (a0 : ByteArray) (a1 : ByteArray) (r1 : ByteArray) (r2 : ByteArray) (r3 : Bool) (w : World) (h : strings_Cut.f a0 a1 = some (r1, r2, r3)) :
    Calls Try.prog 46 #[.string a0, .string a1] w fun e w' => e = .returned (.tuple #[.string r1, .string r2, .bool r3]) ∧ Drawn0 w w' := by
  have hC := fun W => stringslite_Cut.calls a0 a1 r1 r2 r3 W h
  clear h
  go_enter Try.func46, Try.ntmps46
  go_wp2_with (go_at_call 78; refine (hC _).mono ?_; rintro e w' ⟨rfl, hd⟩)
  go_ret3
  exact ⟨rfl, hd⟩


end Go.Proofs.Ytkjkbenmoogdjaa.X
namespace Go.Proofs.Ytkjkbenmoogdjaa.X
open Go.RowKit Go.Proofs.YtkjkbenmoogdjaaW.PrintWords Go.Proofs.YtkjkbenmoogdjaaW.PrintLast Go.Proofs.YtkjkbenmoogdjaaW.PrintMore
attribute [local go_sem] max2_int min2_int max_two min_two max_three min_three max_four min_four   -- for this text's walks alone
set_option linter.unusedVariables false
set_option linter.unusedSimpArgs false

/-! ### digits_digit: function 105 -/
mutual
def digits_digit.j0 : Nat → Int → Bool → Option (Int)
  | 0, _, _ => none
  | k + 1, x0, x3 => if x3 = true then (some (wrap64 (wrap32 (x0 - 48)))) else (if x0 ≥ 97 then (digits_digit.j1 k x0 (decide (x0 ≤ 102))) else (digits_digit.j1 k x0 false))
def digits_digit.j1 : Nat → Int → Bool → Option (Int)
  | 0, _, _ => none
  | k + 1, x0, x13 => if x13 = true then (some (wrap64 ((wrap64 (wrap32 (x0 - 97))) + 10))) else (if x0 ≥ 65 then (if x0 ≤ 70 then (some (wrap64 ((wrap64 (wrap32 (x0 - 65))) + 10))) else (some (-1))) else (some (-1)))
end
def digits_digit.f (k : Nat) (a0 : Int) : Option (Int) := if a0 ≥ 48 then (digits_digit.j0 k a0 (decide (a0 ≤ 57))) else (digits_digit.j0 k a0 false)
theorem digits_digit.mono_l : ∀ k, (∀ y0 y1, LeO (digits_digit.j0 k y0 y1) (digits_digit.j0 (k + 1) y0 y1)) ∧ (∀ y0 y1, LeO (digits_digit.j1 k y0 y1) (digits_digit.j1 (k + 1) y0 y1))
  | 0 => ⟨fun _ _ r h => by simp [digits_digit.j0] at h, fun _ _ r h => by simp [digits_digit.j1] at h⟩
  | k + 1 => by
    obtain ⟨ih0, ih1⟩ := digits_digit.mono_l k
    refine ⟨?_, ?_⟩
    · intro y0 y1
      unfold digits_digit.j0
      repeat' first
      | (with_reducible exact ih0 _ _)
      | (with_reducible exact ih1 _ _)
      | (with_reducible exact LeO.refl _)
      | (with_reducible exact LeO.none _)
      | (with_reducible refine LeO.ite ?_ ?_)
      | (with_reducible refine LeO.bind ?_ (fun _ => ?_))
      | exact ih0 _ _
      | exact ih1 _ _
      | exact LeO.none _
      | refine LeO.ite ?_ ?_
      | refine LeO.bind ?_ (fun _ => ?_)
    · intro y0 y1
      unfold digits_digit.j1
      repeat' first
      | (with_reducible exact ih0 _ _)
      | (with_reducible exact ih1 _ _)
      | (with_reducible exact LeO.refl _)
      | (with_reducible exact LeO.none _)
      | (with_reducible refine LeO.ite ?_ ?_)
      | (with_reducible refine LeO.bind ?_ (fun _ => ?_))
      | exact ih0 _ _
      | exact ih1 _ _
      | exact LeO.none _
      | refine LeO.ite ?_ ?_
      | refine LeO.bind ?_ (fun _ => ?_)
theorem digits_digit.mono : ∀ a0 k, LeO (digits_digit.f k a0) (digits_digit.f (k + 1) a0) := by
  intro a0 k
  obtain ⟨ih0, ih1⟩ := digits_digit.mono_l k
  unfold digits_digit.f
  repeat' first
      | (with_reducible exact ih0 _ _)
      | (with_reducible exact ih1 _ _)
      | (with_reducible exact LeO.refl _)
      | (with_reducible exact LeO.none _)
      | (with_reducible refine LeO.ite ?_ ?_)
      | (with_reducible refine LeO.bind ?_ (fun _ => ?_))
      | exact ih0 _ _
      | exact ih1 _ _
      | exact LeO.none _
      | refine LeO.ite ?_ ?_
      | refine LeO.bind ?_ (fun _ => ?_)
set_option maxHeartbeats 8000000 in
set_option maxRecDepth 100000 in
theorem digits_digit.calls (k : Nat) (a0 : Int) (r : Int) (w : World) (h : digits_digit.f k a0 = some r) :
    Calls Try.prog 105 #[.int .i32 a0] w fun e w' => e = .returned (.int .i64 r) ∧ Drawn0 w w' := by
  have H : (if a0 ≥ 48 then (digits_digit.j0 k a0 (decide (a0 ≤ 57))) else (digits_digit.j0 k a0 false)) = some r := h
  clear h
  have HC2 := Aside0.mk H
  clear H
  go_enter Try.func105, Try.ntmps105
  go_upto_region 1 with (fail)
  go_cut [3] (fun v3 wc => ∃ (kq : Nat) (x3_1 : Bool), v3 = .bool x3_1 ∧ Aside0 (digits_digit.j0 kq a0 x3_1 = some r) ∧ Aside0 (kq ≤ k) ∧ Drawn0 w wc)
  case first =>
    have H := HC2.out
    clear HC2
    by_cases c3 : a0 ≥ 48
    · rw [if_pos c3] at H
      have c3b0 : decide (48 ≤ a0) = true := decide_eq_true c3
      clear c3
      (first | rw [c3b0] | (simp only [i64_w, i32_w]; rw [c3b0]) | skip)
      have H' := Aside0.mk H
      clear H
      go_wp2
      go_meet
      case rel => exact ⟨_, (decide (a0 ≤ 57)), (by first | rfl | (simp; done) | (simp [*]; done)), H', ⟨by first | omega | exact Nat.le_refl _⟩, by repeat (first | exact Drawn0.refl _ | apply Drawn0.step)⟩
    · rw [if_neg c3] at H
      have c3b0 : decide (48 ≤ a0) = false := decide_eq_false c3
      clear c3
      (first | rw [c3b0] | (simp only [i64_w, i32_w]; rw [c3b0]) | skip)
      have H' := Aside0.mk H
      clear H
      go_wp2
      go_meet
      case rel => exact ⟨_, (false), (by first | rfl | (simp; done) | (simp [*]; done)), H', ⟨by first | omega | exact Nat.le_refl _⟩, by repeat (first | exact Drawn0.refl _ | apply Drawn0.step)⟩
  case rest =>
    clear HC2
    try clear c1
    try clear p2
    try clear c3
    try clear c3b0
    obtain ⟨kq, x3_1, rfl, HA, HJ1, ⟨mc1, rfl⟩⟩ := hcut
    cases kq with
    | zero => exact absurd HA.out (by simp [digits_digit.j0])
    | succ kj1 =>
      have H := HA.out
      clear HA
      simp only [digits_digit.j0] at H
      by_cases c4 : x3_1 = true
      · subst c4
        have H1 : (some (wrap64 (wrap32 (a0 - 48)))) = some r := by rw [if_pos rfl] at H; exact H
        clear H
        have H := H1
        clear H1
        obtain rfl := Option.some.inj H
        go_wp2
        go_ret
        exact ⟨by first | rfl | (simp; done) | (simp [*]; done), by repeat (first | exact Drawn0.refl _ | apply Drawn0.step)⟩
      · replace c4 := Bool.eq_false_iff.mpr c4
        subst c4
        have H1 : (if a0 ≥ 97 then (digits_digit.j1 kj1 a0 (decide (a0 ≤ 102))) else (digits_digit.j1 kj1 a0 false)) = some r := by rw [if_neg (show ¬ (false = true) by decide)] at H; exact H
        clear H
        have H := H1
        clear H1
        have HC5 := Aside0.mk H
        clear H
        go_upto_region 3 with (fail)
        go_cut [13] (fun v13 wc => ∃ (kq : Nat) (x13_4 : Bool), v13 = .bool x13_4 ∧ Aside0 (digits_digit.j1 kq a0 x13_4 = some r) ∧ Aside0 (kq ≤ kj1) ∧ Drawn0 w wc)
        case first =>
          have H := HC5.out
          clear HC5
          by_cases c6 : a0 ≥ 97
          · rw [if_pos c6] at H
            have c6b0 : decide (97 ≤ a0) = true := decide_eq_true c6
            clear c6
            (first | rw [c6b0] | (simp only [i64_w, i32_w]; rw [c6b0]) | skip)
            have H' := Aside0.mk H
            clear H
            go_wp2
            go_meet
            case rel => exact ⟨_, (decide (a0 ≤ 102)), (by first | rfl | (simp; done) | (simp [*]; done)), H', ⟨by have := HJ1.out; first | omega | exact Nat.le_refl _⟩, by repeat (first | exact Drawn0.refl _ | apply Drawn0.step)⟩
          · rw [if_neg c6] at H
            have c6b0 : decide (97 ≤ a0) = false := decide_eq_false c6
            clear c6
            (first | rw [c6b0] | (simp only [i64_w, i32_w]; rw [c6b0]) | skip)
            have H' := Aside0.mk H
            clear H
            go_wp2
            go_meet
            case rel => exact ⟨_, (false), (by first | rfl | (simp; done) | (simp [*]; done)), H', ⟨by have := HJ1.out; first | omega | exact Nat.le_refl _⟩, by repeat (first | exact Drawn0.refl _ | apply Drawn0.step)⟩
        case rest =>
          clear HC5
          try clear c1
          try clear p2
          try clear c3
          try clear c3b0
          try clear p3
          try clear c4
          try clear c6
          try clear c6b0
          try clear p6
          try clear p2
          obtain ⟨kq, x13_4, rfl, HA, HJ4, ⟨mc4, rfl⟩⟩ := hcut
          cases kq with
          | zero => exact absurd HA.out (by simp [digits_digit.j1])
          | succ kj4 =>
            have H := HA.out
            clear HA
            simp only [digits_digit.j1] at H
            by_cases c7 : x13_4 = true
            · subst c7
              have H1 : (some (wrap64 ((wrap64 (wrap32 (a0 - 97))) + 10))) = some r := by rw [if_pos rfl] at H; exact H
              clear H
              have H := H1
              clear H1
              obtain rfl := Option.some.inj H
              go_wp2
              go_ret
              exact ⟨by first | rfl | (simp; done) | (simp [*]; done), by repeat (first | exact Drawn0.refl _ | apply Drawn0.step)⟩
            · replace c7 := Bool.eq_false_iff.mpr c7
              subst c7
              have H1 : (if a0 ≥ 65 then (if a0 ≤ 70 then (some (wrap64 ((wrap64 (wrap32 (a0 - 65))) + 10))) else (some (-1))) else (some (-1))) = some r := by rw [if_neg (show ¬ (false = true) by decide)] at H; exact H
              clear H
              have H := H1
              clear H1
              by_cases c8 : a0 ≥ 65
              · rw [if_pos c8] at H
                have c8b0 : decide (65 ≤ a0) = true := decide_eq_true c8
                clear c8
                by_cases c9 : a0 ≤ 70
                · rw [if_pos c9] at H
                  have c9b0 : decide (a0 ≤ 70) = true := decide_eq_true c9
                  clear c9
                  obtain rfl := Option.some.inj H
                  go_wp2
                  go_ret
                  exact ⟨by first | rfl | (simp; done) | (simp [*]; done), by repeat (first | exact Drawn0.refl _ | apply Drawn0.step)⟩
                · rw [if_neg c9] at H
                  have c9b0 : decide (a0 ≤ 70) = false := decide_eq_false c9
                  clear c9
                  obtain rfl := Option.some.inj H
                  go_wp2
                  go_ret
                  exact ⟨by first | rfl | (simp; done) | (simp [*]; done), by repeat (first | exact Drawn0.refl _ | apply Drawn0.step)⟩
              · rw [if_neg c8] at H
                have c8b0 : decide (65 ≤ a0) = false := decide_eq_false c8
                clear c8
                obtain rfl := Option.some.inj H
                go_wp2
                go_ret
                exact ⟨by first | rfl | (simp; done) | (simp [*]; done), by repeat (first | exact Drawn0.refl _ | apply Drawn0.step)⟩

end Go.Proofs.Ytkjkbenmoogdjaa.X
namespace Go.Proofs.Ytkjkbenmoogdjaa.X
open Go.RowKit Go.Proofs.YtkjkbenmoogdjaaW.PrintWords Go.Proofs.YtkjkbenmoogdjaaW.PrintLast Go.Proofs.YtkjkbenmoogdjaaW.PrintMore
attribute [local go_sem] max2_int min2_int max_two min_two max_three min_three max_four min_four   -- for this text's walks alone
set_option linter.unusedVariables false
set_option linter.unusedSimpArgs false

/-! ### digits_number: function 97 -/
/-- P2.1: a digit's value, or -1. -/
def digR (r : Nat) : Int := if 48 ≤ r ∧ r ≤ 57 then (r : Int) - 48 else if 97 ≤ r ∧ r ≤ 102 then (r : Int) - 87 else if 65 ≤ r ∧ r ≤ 70 then (r : Int) - 55 else -1
theorem digR_bounds (r : Nat) : -1 ≤ digR r ∧ digR r ≤ 15 := by unfold digR; split <;> (try split) <;> (try split) <;> omega
theorem digit_f (r : Nat) (hr : r ≤ 2147483647) (k : Nat) (hk : 2 < k) : digits_digit.f k (r : Int) = some (digR r) := by
  obtain ⟨k, rfl⟩ : ∃ m, k = m + 2 := ⟨k - 2, by omega⟩
  unfold digits_digit.f digR
  by_cases h1 : 48 ≤ r ∧ r ≤ 57
  · rw [if_pos (by omega), if_pos h1, decide_eq_true (by omega)]
    simp only [digits_digit.j0, if_true]
    congr 1
    unfold wrap64 wrap32; omega
  · rw [if_neg h1]
    have e0 : (if (r : Int) ≥ 48 then digits_digit.j0 (k + 2) (r : Int) (decide ((r : Int) ≤ 57)) else digits_digit.j0 (k + 2) (r : Int) false) = digits_digit.j0 (k + 2) (r : Int) false := by
      by_cases h : (r : Int) ≥ 48
      · rw [if_pos h, decide_eq_false (by omega)]
      · rw [if_neg h]
    rw [e0]
    simp only [digits_digit.j0]
    rw [if_neg (by simp)]
    by_cases h2 : 97 ≤ r ∧ r ≤ 102
    · rw [if_pos h2, if_pos (by omega), decide_eq_true (by omega)]
      simp only [digits_digit.j1, if_true]
      congr 1
      unfold wrap64 wrap32; omega
    · rw [if_neg h2]
      have e1 : (if (r : Int) ≥ 97 then digits_digit.j1 (k + 1) (r : Int) (decide ((r : Int) ≤ 102)) else digits_digit.j1 (k + 1) (r : Int) false) = digits_digit.j1 (k + 1) (r : Int) false := by
        by_cases h : (r : Int) ≥ 97
        · rw [if_pos h, decide_eq_false (by omega)]
        · rw [if_neg h]
      rw [e1]
      simp only [digits_digit.j1]
      rw [if_neg (by simp)]
      by_cases h3 : 65 ≤ r ∧ r ≤ 70
      · rw [if_pos h3, if_pos (by omega), if_pos (by omega)]
        congr 1
        unfold wrap64 wrap32; omega
      · rw [if_neg h3]
        by_cases h4 : 65 ≤ r
        · rw [if_pos (by omega), if_neg (by omega)]
        · rw [if_neg (by omega)]
def stepO (base most n : Int) (ov : Bool) (d : Int) : Bool := ov || (decide (most < d) || decide ((most - d) / base < n))
/-- digits.number from place pos on, by at most so many runes. -/
def numFrom (base most : Int) (s : ByteArray) : Nat → Nat → Int → Bool → Int × Int
  | 0, _, n, ov => if ov = true then (0, 5) else (n, 0)
  | f + 1, pos, n, ov => if pos < s.size then (if digR (Utf8.decode s pos).1 < 0 ∨ base ≤ digR (Utf8.decode s pos).1 then (0, 3) else numFrom base most s f (pos + (Utf8.decode s pos).2) (if stepO base most n ov (digR (Utf8.decode s pos).1) = true then n else n * base + digR (Utf8.decode s pos).1) (stepO base most n ov (digR (Utf8.decode s pos).1))) else (if ov = true then (0, 5) else (n, 0))
theorem numFrom_end (base most : Int) (s : ByteArray) (f pos : Nat) (n : Int) (ov : Bool) (h : ¬ pos < s.size) : numFrom base most s f pos n ov = if ov = true then (0, 5) else (n, 0) := by cases f <;> simp [numFrom, h]
/-- P2.1. -/
def numberB (s : ByteArray) (base most : Int) : Int × Int := if s.toList = [] then (0, 2) else numFrom base most s s.size 0 0 false
def digits_number.f (a0 : ByteArray) (a1 : Int) (a2 : Int) : Option (Int × Int) := if 2 ≤ a1 ∧ a1 ≤ 16 ∧ 0 ≤ a2 ∧ a2 ≤ 4611686018427387904 then some (numberB a0 a1 a2) else none
theorem mul_le_of (n q base : Int) (hb : 0 < base) (m : Int) (h : n ≤ m / base) : n * base ≤ m := Int.le_trans (Int.mul_le_mul_of_nonneg_right h (by omega)) (Int.ediv_mul_le m (by omega))
set_option maxHeartbeats 8000000 in
set_option maxRecDepth 1000000 in
theorem digits_number.calls (a0 : ByteArray) (a1 : Int) (a2 : Int) (r1 : Int) (r2 : Int) (w : World) (h : digits_number.f a0 a1 a2 = some (r1, r2)) :
    Calls Try.prog 97 #[.string a0, .int .i64 a1, .int .i64 a2] w fun e w' => e = .returned (.tuple #[.int .i64 r1, .int .i64 r2]) ∧ Below w.heap.size w w' := by
  by_cases hh : 2 ≤ a1 ∧ a1 ≤ 16 ∧ 0 ≤ a2 ∧ a2 ≤ 4611686018427387904
  · rw [digits_number.f, if_pos hh] at h
    have hres := Option.some.inj h
    clear h
    obtain ⟨hb1, hb2, hm1, hm2⟩ := hh
    unfold numberB at hres
    by_cases he : a0.toList = []
    · rw [if_pos he] at hres
      obtain ⟨rfl, rfl⟩ := Prod.mk.inj hres
      have he2 : (a0.toList == ([] : List UInt8)) = true := beq_iff_eq.mpr he
      clear hres he
      go_enter Try.func97, Try.ntmps97
      go_wp2
      go_ret2
      exact ⟨rfl, Below.refl _ _⟩
    · rw [if_neg he] at hres
      have he2 : (a0.toList == ([] : List UInt8)) = false := beq_eq_false_iff_ne.mpr he
      have HRES := Aside0.mk hres
      clear hres he
      have hbne : (a1 == 0) = false := beq_eq_false_iff_ne.2 (by omega)
      go_enter Try.func97, Try.ntmps97
      go_wp2
      go_loopg [8, 9] a0.size (fun gf s8 s9 wx => ∃ (pos : Nat) (n : Int) (ov : Bool), s8 = .int .i64 n ∧ s9 = .bool ov ∧ wx.heap[w.heap.size]? = some (.stringIter a0 pos) ∧ Below w.heap.size w wx ∧ Aside0 (numFrom a1 a2 a0 gf pos n ov = (r1, r2)) ∧ a0.size ≤ pos + gf ∧ 0 ≤ n ∧ n ≤ a2)
      case atStart => exact ⟨0, 0, false, rfl, rfl, World.iter_heap w a0 0, (Below.refl _ w).alloc (Nat.le_refl _) _, HRES, by omega, by omega, by omega⟩
      case round =>
        obtain ⟨pos, n, ov, rfl, rfl, hit, hbw, HL, hfu, hn0, hnm⟩ := hrel
        by_cases hps : pos < a0.size
        · obtain ⟨g', rfl⟩ : ∃ g', gk = g' + 1 := ⟨gk - 1, by omega⟩
          have hnx : ∀ ty, (Instr.next (.pointer (some ⟨w.heap.size, 0, none⟩)) true ty).run Try.prog wr = _ := fun ty => Lib.run_next_any_at wr w.heap.size a0 pos ty hit hps
          have hwd := Lib.width_pos a0 pos
          have hleft := HL.out
          obtain ⟨R, hR⟩ : ∃ R, (Utf8.decode a0 pos).1 = R := ⟨_, rfl⟩
          obtain ⟨K, hK⟩ : ∃ K, (Utf8.decode a0 pos).2 = K := ⟨_, rfl⟩
          simp only [numFrom, hps, if_true, hR, hK] at hleft
          rw [hR, hK] at hnx
          rw [hK] at hwd
          have hit2 := Lib.iterAt_heap wr w.heap.size a0 pos (pos + K) hit
          have hbw2 := Lib.below_iterAt hbw (k := w.heap.size) (Nat.le_refl _) a0 (pos + K)
          obtain ⟨W, hWd⟩ : ∃ W, wr.iterAt w.heap.size a0 (pos + K) = W := ⟨_, rfl⟩
          rw [hWd] at hnx hit2 hbw2
          have hRm : R ≤ 2147483647 := by rw [← hR]; exact decode_le a0 pos
          have hdb := digR_bounds R
          have cS := digits_digit.calls 3 (R : Int) (digR R) W (digit_f R hRm 3 (by omega))
          obtain ⟨D, hD⟩ : ∃ D, digR R = D := ⟨_, rfl⟩
          rw [hD] at hleft hdb cS
          clear HL hD hR hK
          have hlt2 : w.heap.size < W.heap.size := (Array.getElem?_eq_some_iff.1 hit2).1
          by_cases hd1 : D < 0
          · rw [if_pos (Or.inl hd1)] at hleft
            obtain ⟨rfl, rfl⟩ := Prod.mk.inj hleft
            have hd1b : decide (D < 0) = true := decide_eq_true hd1
            clear hleft hd1
            go_wp2_with (go_at_call 105; refine cS.mono ?_; rintro e W' ⟨rfl, hd⟩; obtain ⟨q, rfl⟩ := hd.out)
            go_ret2
            exact ⟨rfl, pw_below_drewN hbw2 q⟩
          · have hd1b : decide (D < 0) = false := decide_eq_false hd1
            by_cases hd2 : a1 ≤ D
            · rw [if_pos (Or.inr hd2)] at hleft
              obtain ⟨rfl, rfl⟩ := Prod.mk.inj hleft
              have hd2b : decide (a1 ≤ D) = true := decide_eq_true hd2
              clear hleft hd1 hd2
              go_wp2_with (go_at_call 105; refine cS.mono ?_; rintro e W' ⟨rfl, hd⟩; obtain ⟨q, rfl⟩ := hd.out)
              go_ret2
              exact ⟨rfl, pw_below_drewN hbw2 q⟩
            · rw [if_neg (by omega)] at hleft
              have hd2b : decide (a1 ≤ D) = false := decide_eq_false hd2
              have HB := Aside0.mk (⟨hd1, hd2, hn0, hnm, hb1, hb2, hm1, hm2⟩ : _ ∧ _ ∧ _ ∧ _ ∧ _ ∧ _ ∧ _ ∧ _)
              have HF := Aside0.mk hfu
              have HLT := Aside0.mk (⟨hwd, hlt2⟩ : _ ∧ _)
              cases ov with
              | true =>
                have hs : stepO a1 a2 n true D = true := rfl
                rw [hs, if_pos rfl] at hleft
                have HL := Aside0.mk hleft
                clear hleft hs hd1 hd2 hdb
                go_wp2_with (go_at_call 105; refine cS.mono ?_; rintro e W' ⟨rfl, hd⟩; obtain ⟨q, rfl⟩ := hd.out)
                go_roundg g'
                case measure => omega
                case rel => exact ⟨pos + K, n, true, rfl, rfl, hit2, pw_below_drewN hbw2 q, HL, by have := HF.out; have := HLT.out; omega, HB.out.2.2.1, HB.out.2.2.2.1⟩
              | false =>
                by_cases hm : a2 < D
                · have hs : stepO a1 a2 n false D = true := by unfold stepO; rw [decide_eq_true hm]; simp
                  rw [hs, if_pos rfl] at hleft
                  have hmb : decide (a2 < D) = true := decide_eq_true hm
                  have HL := Aside0.mk hleft
                  clear hleft hs hd1 hd2 hdb hm
                  go_wp2_with (go_at_call 105; refine cS.mono ?_; rintro e W' ⟨rfl, hd⟩; obtain ⟨q, rfl⟩ := hd.out)
                  go_roundg g'
                  case measure => omega
                  case rel => exact ⟨pos + K, n, true, rfl, rfl, hit2, pw_below_drewN hbw2 q, HL, by have := HF.out; have := HLT.out; omega, HB.out.2.2.1, HB.out.2.2.2.1⟩
                · have hmb : decide (a2 < D) = false := decide_eq_false hm
                  have hs : stepO a1 a2 n false D = decide ((a2 - D) / a1 < n) := by unfold stepO; rw [hmb]; simp
                  have hq0 : 0 ≤ (a2 - D) / a1 := Int.ediv_nonneg (by omega) (by omega)
                  have hq1 : (a2 - D) / a1 ≤ a2 - D := Int.ediv_le_self _ (by omega)
                  have hq2 : (a2 - D).tdiv a1 = (a2 - D) / a1 := Int.tdiv_eq_ediv_of_nonneg (by omega)
                  have hml : n ≤ (a2 - D) / a1 → n * a1 ≤ a2 - D := fun h => mul_le_of n 0 a1 (by omega) (a2 - D) h
                  have hmn : 0 ≤ n * a1 := Int.mul_nonneg hn0 (by omega)
                  obtain ⟨Q, hQ⟩ : ∃ Q, (a2 - D) / a1 = Q := ⟨_, rfl⟩
                  obtain ⟨M, hM⟩ : ∃ M, n * a1 = M := ⟨_, rfl⟩
                  rw [hQ] at hs hq0 hq1 hq2 hml
                  rw [hM] at hml hmn hleft
                  clear hQ
                  by_cases hn : Q < n
                  · have hnb : decide (Q < n) = true := decide_eq_true hn
                    rw [hs, hnb, if_pos rfl] at hleft
                    have HL := Aside0.mk hleft
                    clear hleft hs hm hn hml
                    go_wp2_with (go_at_call 105; refine cS.mono ?_; rintro e W' ⟨rfl, hd⟩; obtain ⟨q, rfl⟩ := hd.out)
                    go_roundg g'
                    case measure => omega
                    case rel => exact ⟨pos + K, n, true, rfl, rfl, hit2, pw_below_drewN hbw2 q, HL, by have := HF.out; have := HLT.out; omega, HB.out.2.2.1, HB.out.2.2.2.1⟩
                  · have hnb : decide (Q < n) = false := decide_eq_false hn
                    rw [hs, hnb, if_neg (by simp)] at hleft
                    have HL := Aside0.mk hleft
                    have hmd := hml (by omega)
                    clear hleft hs hm hn hml
                    go_wp2_with (go_at_call 105; refine cS.mono ?_; rintro e W' ⟨rfl, hd⟩; obtain ⟨q, rfl⟩ := hd.out)
                    go_roundg g'
                    case measure => omega
                    case rel => exact ⟨pos + K, M + D, false, by go_num, rfl, hit2, pw_below_drewN hbw2 q, HL, by have := HF.out; have := HLT.out; omega, by have := HB.out; omega, by omega⟩
        · have hnx : ∀ ty, (Instr.next (.pointer (some ⟨w.heap.size, 0, none⟩)) true ty).run Try.prog wr = _ := fun ty => Lib.run_next_end_at wr w.heap.size a0 pos ty hit hps
          have hleft := HL.out
          rw [numFrom_end _ _ a0 gk pos n ov hps] at hleft
          clear HL
          cases ov with
          | true =>
            rw [if_pos rfl] at hleft
            obtain ⟨rfl, rfl⟩ := Prod.mk.inj hleft
            clear hleft
            go_wp2
            go_ret2
            exact ⟨rfl, hbw⟩
          | false =>
            rw [if_neg (by simp)] at hleft
            obtain ⟨rfl, rfl⟩ := Prod.mk.inj hleft
            clear hleft
            go_wp2
            go_ret2
            exact ⟨rfl, hbw⟩
  · rw [digits_number.f, if_neg hh] at h
    cases h


end Go.Proofs.Ytkjkbenmoogdjaa.X
namespace Go.Proofs.Ytkjkbenmoogdjaa.X
open Go.RowKit Go.Proofs.YtkjkbenmoogdjaaW.PrintWords Go.Proofs.YtkjkbenmoogdjaaW.PrintLast Go.Proofs.YtkjkbenmoogdjaaW.PrintMore
attribute [local go_sem] max2_int min2_int max_two min_two max_three min_three max_four min_four   -- for this text's walks alone
set_option linter.unusedVariables false
set_option linter.unusedSimpArgs false

/-! ### digits_Dec: function 76 -/
def digits_Dec.f (a0 : ByteArray) (a1 : Int) : Option (Int × Int) := (digits_number.f a0 10 a1).bind fun bt101 => (some (bt101.1, bt101.2))
set_option maxHeartbeats 8000000 in
set_option maxRecDepth 100000 in
theorem digits_Dec.calls (a0 : ByteArray) (a1 : Int) (r1 : Int) (r2 : Int) (w : World) (h : digits_Dec.f a0 a1 = some (r1, r2)) :
    Calls Try.prog 76 #[.string a0, .int .i64 a1] w fun e w' => e = .returned (.tuple #[.int .i64 r1, .int .i64 r2]) ∧ Below w.heap.size w w' := by
  have HB := Aside0.mk (Below.refl w.heap.size w)
  have H : ((digits_number.f a0 10 a1).bind fun bt101 => (some (bt101.1, bt101.2))) = some (r1, r2) := h
  clear h
  replace H := Option.bind_eq_some_iff.mp H
  obtain ⟨⟨t101, t102⟩, A30, H⟩ := H
  replace H : (some (t101, t102)) = some (r1, r2) := H
  have A3 := Aside0.mk A30
  clear A30
  simp only [Option.some.injEq, Prod.mk.injEq] at H
  obtain ⟨rfl, rfl⟩ := H
  go_enter Try.func76, Try.ntmps76
  go_wp2_with (first | ((with_reducible refine gate_callee (f := 97) rfl ?_); refine goesL_ (some 8) rfl rfl Try.func97 (by kernel_rfl) rfl #[.string a0, .int .i64 10, .int .i64 a1] rfl (by (try simp only [List.map_toArray, List.map_cons, List.map_nil]); first | done | rfl | (simp only [List.length_drop, List.length_take]; rfl)) ?_; (with_reducible refine (digits_number.calls a0 10 a1 t101 t102 _ A3.out).mono ?_); rintro e w4 ⟨rfl, hb⟩; refine ⟨_, rfl, ?_⟩; have n0_ := Aside0.mk (below_step (by repeat (first | (with_reducible first | exact HB.out | apply below_alloc | apply pw_below_drewN | apply below_drew1) | exact HB.out)) hb); clear HB; have HB := n0_; clear n0_; (try clear hb); (try clear hb2); (try clear hk); (try clear hi)))
  go_ret2
  exact ⟨by first | rfl | (simp [errW_none, errW_some] <;> rfl) | (simp [*, errW_none, errW_some] <;> rfl), by repeat (first | (with_reducible first | exact HB.out | apply below_alloc | apply pw_below_drewN | apply below_drew1) | exact HB.out)⟩

end Go.Proofs.Ytkjkbenmoogdjaa.X
namespace Go.Proofs.Ytkjkbenmoogdjaa.X
open Go.RowKit Go.Proofs.YtkjkbenmoogdjaaW.PrintWords Go.Proofs.YtkjkbenmoogdjaaW.PrintLast Go.Proofs.YtkjkbenmoogdjaaW.PrintMore
attribute [local go_sem] max2_int min2_int max_two min_two max_three min_three max_four min_four   -- for this text's walks alone
set_option linter.unusedVariables false
set_option linter.unusedSimpArgs false

/-! ### connection_Alive_1: function 75 -/
/-- What a call keeps that writes two blocks. -/
def Kept2 (a b : Nat) (w W : World) : Prop := W.os = w.os ∧ W.tape = w.tape ∧ W.output = w.output ∧ w.heap.size ≤ W.heap.size ∧ ∀ k, k < w.heap.size → k ≠ a → k ≠ b → W.heap[k]? = w.heap[k]?
def decMost : Int := 1073741824
theorem dec_f (s : ByteArray) : digits_Dec.f s 1073741824 = some (numberB s 10 1073741824) := by
  unfold digits_Dec.f digits_number.f
  rw [if_pos (by decide)]
  rfl
theorem two_sets (W : World) (ab G no : Nat) (c : Array Value) (v g : Value) (hne : ab ≠ G) (hab : W.heap[ab]? = some (.cells c 52 (0, 0))) (hG : W.heap[G]? = some (.cells #[g] 4 (0, 0))) (v' g' : Value) :
    ∀ W', (W' = (W.setCell ⟨ab, no, none⟩ v').setCell ⟨G, 0, none⟩ g' ∨ W' = (W.setCell ⟨G, 0, none⟩ g').setCell ⟨ab, no, none⟩ v') →
    W'.heap[ab]? = some (.cells (c.setIfInBounds no v') 52 (0, 0)) ∧ W'.heap[G]? = some (.cells #[g'] 4 (0, 0)) ∧ Kept2 ab G W W' := by
  have hset : ∀ (X : World) (b o : Nat) (cs : Array Value) (t : TypeId) (u : Value), X.heap[b]? = some (.cells cs t (0, 0)) → (X.setCell ⟨b, o, none⟩ u).heap[b]? = some (.cells (cs.setIfInBounds o u) t (0, 0)) := by
    intro X b o cs t u h
    simp only [World.setCell, Array.getElem?_modify, h]
    simp
  rintro W' (rfl | rfl)
  · refine ⟨?_, ?_, rfl, rfl, rfl, by simp [World.setCell], fun k hk h1 h2 => ?_⟩
    · rw [Below.heap_setCell _ _ _ _ hne]; exact hset _ _ _ _ _ _ hab
    · exact hset _ _ _ _ _ _ ((Below.heap_setCell _ _ _ _ hne.symm).trans hG)
    · rw [Below.heap_setCell _ _ _ _ h2, Below.heap_setCell _ _ _ _ h1]
  · refine ⟨?_, ?_, rfl, rfl, rfl, by simp [World.setCell], fun k hk h1 h2 => ?_⟩
    · exact hset _ _ _ _ _ _ ((Below.heap_setCell _ _ _ _ hne).trans hab)
    · rw [Below.heap_setCell _ _ _ _ hne.symm]; exact hset _ _ _ _ _ _ hG
    · rw [Below.heap_setCell _ _ _ _ h1, Below.heap_setCell _ _ _ _ h2]
theorem Kept2.from_below {a b : Nat} {w W X : World} (h : Below w.heap.size w W) (k : Kept2 a b W X) : Kept2 a b w X :=
  ⟨k.1.trans h.os, k.2.1.trans h.tape, k.2.2.1.trans h.output, Nat.le_trans h.size k.2.2.2.1, fun i hi h1 h2 => (k.2.2.2.2 i (Nat.lt_of_lt_of_le hi h.size) h1 h2).trans (h.block i hi)⟩
set_option maxHeartbeats 4000000 in
set_option maxRecDepth 100000 in
theorem alive1_wp (s : ByteArray) (ab G no : Nat) (c : Array Value) (old : Int) (g : Bool) (w : World) (hne : ab ≠ G) (hab : w.heap[ab]? = some (.cells c 52 (0, 0))) (hG : w.heap[G]? = some (.cells #[.bool g] 4 (0, 0))) (hc : c[no]? = some (.int .i64 old)) :
    Calls Try.prog 75 #[.pointer (some ⟨ab, no, none⟩), .string s, .pointer (some ⟨G, 0, none⟩)] w fun e w' => e = .returned (.tuple #[]) ∧
      w'.heap[ab]? = some (.cells (c.setIfInBounds no (.int .i64 (numberB s 10 1073741824).1)) 52 (0, 0)) ∧ w'.heap[G]? = some (.cells #[.bool (g && (numberB s 10 1073741824).2 == 0)] 4 (0, 0)) ∧ Kept2 ab G w w' := by
  have hD := digits_Dec.calls s 1073741824 (numberB s 10 1073741824).1 (numberB s 10 1073741824).2 w (dec_f s)
  generalize (numberB s 10 1073741824).1 = x at hD
  generalize (numberB s 10 1073741824).2 = er at hD
  have hal := (Array.getElem?_eq_some_iff.1 hab).1
  have hGl := (Array.getElem?_eq_some_iff.1 hG).1
  have HAB := Aside0.mk hab
  have HG := Aside0.mk hG
  have HC := Aside0.mk hc
  have hne2 : G ≠ ab := hne.symm
  clear hab hG hc
  have hend : ∀ (w1 : World) (b : Bool), Below w.heap.size w w1 → w1.heap[ab]? = some (.cells c 52 (0, 0)) → w1.heap[G]? = some (.cells #[.bool g] 4 (0, 0)) → ∀ W', (W' = (w1.setCell ⟨ab, no, none⟩ (.int .i64 x)).setCell ⟨G, 0, none⟩ (.bool b) ∨ W' = (w1.setCell ⟨G, 0, none⟩ (.bool b)).setCell ⟨ab, no, none⟩ (.int .i64 x)) →
      W'.drew.heap[ab]? = some (.cells (c.setIfInBounds no (.int .i64 x)) 52 (0, 0)) ∧ W'.drew.heap[G]? = some (.cells #[.bool b] 4 (0, 0)) ∧ Kept2 ab G w W'.drew := by
    intro w1 b hb h1 h2 W' hW
    obtain ⟨r1, r2, r3⟩ := two_sets w1 ab G no c (.int .i64 old) (.bool g) hne h1 h2 (.int .i64 x) (.bool b) W' hW
    exact ⟨r1, r2, r3.from_below hb⟩
  have HEND := Aside0.mk hend
  clear hend
  cases g with
  | true =>
    by_cases he : er = 0
    · subst he
      go_enter Try.func75, Try.ntmps75
      go_wp2_with (go_at_call 76; refine hD.mono ?_; rintro e w1 ⟨rfl, hb1⟩)
      have hab1 := (hb1.block ab hal).trans HAB.out
      have hG1 := (hb1.block G hGl).trans HG.out
      have hca : w1.cell? ⟨ab, no, none⟩ = some (.int .i64 old) := by simp only [World.cell?, hab1]; exact HC.out
      have hcg : w1.cell? ⟨G, 0, none⟩ = some (.bool true) := by simp only [World.cell?, hG1]; rfl
      have hfa : w1.frozen? ⟨ab, no, none⟩ = false := by simp [World.frozen?, hab1]
      have hfg : w1.frozen? ⟨G, 0, none⟩ = false := by simp [World.frozen?, hG1]
      have HAB1 := Aside0.mk hab1
      have HG1 := Aside0.mk hG1
      have HB1 := Aside0.mk hb1
      clear hab1 hG1 hb1
      go_region
      all_goals
        go_returns
        have HE := HEND.out w1 true HB1.out HAB1.out HG1.out _ (by first | exact Or.inl rfl | exact Or.inr rfl)
        refine ⟨by rfl, HE.1, ?_, HE.2.2⟩
        exact HE.2.1
    · have heb : (er == 0) = false := beq_eq_false_iff_ne.2 he
      have HER := Aside0.mk heb
      clear he
      go_enter Try.func75, Try.ntmps75
      go_wp2_with (go_at_call 76; refine hD.mono ?_; rintro e w1 ⟨rfl, hb1⟩)
      have hab1 := (hb1.block ab hal).trans HAB.out
      have hG1 := (hb1.block G hGl).trans HG.out
      have hca : w1.cell? ⟨ab, no, none⟩ = some (.int .i64 old) := by simp only [World.cell?, hab1]; exact HC.out
      have hcg : w1.cell? ⟨G, 0, none⟩ = some (.bool true) := by simp only [World.cell?, hG1]; rfl
      have hfa : w1.frozen? ⟨ab, no, none⟩ = false := by simp [World.frozen?, hab1]
      have hfg : w1.frozen? ⟨G, 0, none⟩ = false := by simp [World.frozen?, hG1]
      have HAB1 := Aside0.mk hab1
      have HG1 := Aside0.mk hG1
      have HB1 := Aside0.mk hb1
      clear hab1 hG1 hb1
      go_region
      all_goals
        go_returns
        have HE := HEND.out w1 false HB1.out HAB1.out HG1.out _ (by first | exact Or.inl rfl | exact Or.inr rfl)
        refine ⟨by rfl, HE.1, ?_, HE.2.2⟩
        rw [HER.out]; exact HE.2.1
  | false =>
    go_enter Try.func75, Try.ntmps75
    go_wp2_with (go_at_call 76; refine hD.mono ?_; rintro e w1 ⟨rfl, hb1⟩)
    have hab1 := (hb1.block ab hal).trans HAB.out
    have hG1 := (hb1.block G hGl).trans HG.out
    have hca : w1.cell? ⟨ab, no, none⟩ = some (.int .i64 old) := by simp only [World.cell?, hab1]; exact HC.out
    have hcg : w1.cell? ⟨G, 0, none⟩ = some (.bool false) := by simp only [World.cell?, hG1]; rfl
    have hfa : w1.frozen? ⟨ab, no, none⟩ = false := by simp [World.frozen?, hab1]
    have hfg : w1.frozen? ⟨G, 0, none⟩ = false := by simp [World.frozen?, hG1]
    have HAB1 := Aside0.mk hab1
    have HG1 := Aside0.mk hG1
    have HB1 := Aside0.mk hb1
    clear hab1 hG1 hb1
    go_region
    all_goals
      go_returns
      have HE := HEND.out w1 false HB1.out HAB1.out HG1.out _ (by first | exact Or.inl rfl | exact Or.inr rfl)
      refine ⟨by rfl, HE.1, ?_, HE.2.2⟩
      exact HE.2.1


end Go.Proofs.Ytkjkbenmoogdjaa.X
namespace Go.Proofs.Ytkjkbenmoogdjaa.X
open Go.RowKit Go.Proofs.YtkjkbenmoogdjaaW.PrintWords Go.Proofs.YtkjkbenmoogdjaaW.PrintLast Go.Proofs.YtkjkbenmoogdjaaW.PrintMore
attribute [local go_sem] max2_int min2_int max_two min_two max_three min_three max_four min_four   -- for this text's walks alone
set_option linter.unusedVariables false
set_option linter.unusedSimpArgs false

/-! ### connection_Alive: function 43 -/
def keepAlive : ByteArray := ⟨#[75, 101, 101, 112, 45, 65, 108, 105, 118, 101]⟩
def timeoutL : List UInt8 := [116, 105, 109, 101, 111, 117, 116]
def maxL : List UInt8 := [109, 97, 120]
theorem cut_one (s : ByteArray) (c : UInt8) (hs : s.size ≤ 140737488351232) : strings_Cut.f s (⟨#[c]⟩ : ByteArray) = some (cutAt s c) := by
  unfold strings_Cut.f stringslite_Cut.f
  rw [if_pos ⟨rfl, hs⟩]
  rfl
/-- P17.3: what one element says. -/
def stepA (st : Int × Int × Bool) (e : ByteArray) : Int × Int × Bool :=
  if (cutAt e 61).2.2 = true then
    (if (lowB (trimB (cutAt e 61).1)).toList = timeoutL then ((numberB (trimB (cutAt e 61).2.1) 10 1073741824).1, st.2.1, (st.2.2 && (numberB (trimB (cutAt e 61).2.1) 10 1073741824).2 == 0))
     else if (lowB (trimB (cutAt e 61).1)).toList = maxL then (st.1, (numberB (trimB (cutAt e 61).2.1) 10 1073741824).1, (st.2.2 && (numberB (trimB (cutAt e 61).2.1) 10 1073741824).2 == 0))
     else st)
  else st
def runA (L : List ByteArray) : Int × Int × Bool := L.foldl stepA (0, 0, true)
/-- P17.3. -/
def aliveB (l : List S23) : Int × Int × Bool :=
  if (decide (((allB l keepAlive).length : Int) > 0) && (splitB (combB l keepAlive)).2) = true then (if (runA (splitB (combB l keepAlive)).1).2.2 = true then ((runA (splitB (combB l keepAlive)).1).1, (runA (splitB (combB l keepAlive)).1).2.1, true) else (0, 0, false)) else (0, 0, false)
def connection_Alive.f (l0 : List (S23)) : Option (Int × Int × Bool) := if l0.length ≤ 1000000 ∧ (combB l0 keepAlive).size ≤ 1000000 then some (aliveB l0) else none
theorem Drawn0_below {w W : World} (h : Drawn0 w W) : Below w.heap.size w W := by
  obtain ⟨q, rfl⟩ := h.out
  exact pw_below_drewN (Below.refl _ _) q
theorem cutAt_size' (s : ByteArray) (c : UInt8) : (cutAt s c).1.size ≤ s.size ∧ (cutAt s c).2.1.size ≤ s.size := by
  unfold cutAt
  split
  · simp only [ByteArray.size_extract]
    omega
  · exact ⟨Nat.le_refl _, Nat.zero_le _⟩
theorem alive_results (X : World) (r0 : Nat) (a b : Value) (hX : X.heap[r0]? = some (.cells #[a, b] 52 (0, 0))) (tmps : Array Value) (r : Bool) (h2 : tmps.getD 2 undef = .pointer (some ⟨r0, 0, none⟩)) (h3 : tmps.getD 3 undef = .bool r) :
    (results Try.f43 tmps).run Try.prog X = .ok (.tuple #[.agg #[a, b], .bool r]) X := by
  have hc0 : X.cell? ⟨r0, 0, none⟩ = some a := by simp only [World.cell?, hX]; rfl
  have hc1 : X.cell? ⟨r0, 1, none⟩ = some b := by simp only [World.cell?, hX]; rfl
  rw [results_cell_tmp rfl, h2, h3]
  simp [go_sem, hc0, hc1]
theorem alive_put (W : World) (r0 : Nat) (o1 o2 a b : Value) (h : W.heap[r0]? = some (.cells #[o1, o2] 52 (0, 0))) : ((W.setCell ⟨r0, 0, none⟩ a).setCell ⟨r0, 1, none⟩ b).heap[r0]? = some (.cells #[a, b] 52 (0, 0)) := by
  simp only [World.setCell, Array.getElem?_modify, h]
  simp
set_option maxHeartbeats 8000000 in
set_option maxRecDepth 100000 in
theorem connection_Alive.calls (A0 : Option Addr) (c0 : Nat) (l0 : List (S23)) (r1 : Int) (r2 : Int) (r3 : Bool) (w : World) (hr0 : Kd.C k23 w A0 l0.length l0) (hc0 : l0.length ≤ c0) (h : connection_Alive.f l0 = some (r1, r2, r3)) :
    Calls Try.prog 43 #[.slice A0 l0.length c0] w fun e w' => e = .returned (.tuple #[.agg #[.int .i64 r1, .int .i64 r2], .bool r3]) ∧ Below w.heap.size w w' := by
  by_cases hs : l0.length ≤ 1000000 ∧ (combB l0 keepAlive).size ≤ 1000000
  · rw [connection_Alive.f, if_pos hs] at h
    have hres := Option.some.inj h
    clear h
    obtain ⟨hsl, hsc⟩ := hs
    have hCM := fun W hr => header_Combined.calls A0 c0 l0 keepAlive (combB l0 keepAlive) (decide (((allB l0 keepAlive).length : Int) > 0)) W hr hc0 (combined_f l0 keepAlive hsl (by decide) (by omega))
    unfold keepAlive at hCM
    have hSP := fun W => lists_Split.calls (combB l0 keepAlive) (splitB (combB l0 keepAlive)).1 (splitB (combB l0 keepAlive)).2 W (by unfold lists_Split.f; rw [if_pos hsc])
    unfold aliveB at hres
    have hL := splitB_len (combB l0 keepAlive)
    have hZ := splitB_size (combB l0 keepAlive)
    unfold keepAlive at hSP hres hL hZ hsc
    generalize combB l0 ⟨#[75, 101, 101, 112, 45, 65, 108, 105, 118, 101]⟩ = S at hSP hres hCM hL hZ hsc
    generalize decide (((allB l0 ⟨#[75, 101, 101, 112, 45, 65, 108, 105, 118, 101]⟩).length : Int) > 0) = has at hres hCM
    generalize (splitB S).1 = L at hSP hres hL hZ
    generalize (splitB S).2 = ok at hSP hres
    have HRES := Aside0.mk hres
    have HZ := Aside0.mk hZ
    have hC1 := hCM (w.alloc (.cells #[.int .i64 0, .int .i64 0] 52)) (Kd.C_alloc hr0 _)
    clear hCM hr0 hres hZ
    cases has with
    | false =>
      go_enter Try.func43, Try.ntmps43
      go_wp2_with (first
        | (go_at_call 71; refine hC1.mono ?_; rintro e w1 ⟨rfl, hb1⟩; have HB1 := Aside0.mk hb1; clear hb1)
        | (go_at_call 19; refine (hSP _).mono ?_; rintro e w2 ⟨v, rfl, hr2, hb2⟩; obtain ⟨A, cp, rfl, hlc, hC⟩ := Kd.R_reads hr2; have HC2 := Aside0.mk hC; have HB2 := Aside0.mk hb2; have z1 := HB1.out.size; have hr0b : w1.heap[w.heap.size]? = some (.cells #[.int .i64 0, .int .i64 0] 52 (0, 0)) := (HB1.out.block w.heap.size (by simp)).trans (World.alloc_heap_new w _); have hr0c : w2.heap[w.heap.size]? = some (.cells #[.int .i64 0, .int .i64 0] 52 (0, 0)) := (HB2.out.block w.heap.size (by simp at z1; omega)).trans hr0b; have hB02 : Below w.heap.size w w2 := ((Below.refl _ w).alloc (Nat.le_refl _) _).trans ((HB1.out.mono (by simp)).trans (HB2.out.mono (by simp at z1; omega))); have HR0 := Aside0.mk hr0c; have HB02 := Aside0.mk hB02; have q0 : w2.cell? ⟨w.heap.size, 0, none⟩ = some (.int .i64 0) := (by simp only [World.cell?, hr0c]; rfl); have q1 : w2.cell? ⟨w.heap.size, 1, none⟩ = some (.int .i64 0) := (by simp only [World.cell?, hr0c]; rfl); have f0 : w2.frozen? ⟨w.heap.size, 0, none⟩ = false := (by simp [World.frozen?, hr0c]); have f1 : w2.frozen? ⟨w.heap.size, 1, none⟩ = false := (by simp [World.frozen?, hr0c]); have zz : w.heap.size < w2.heap.size := (Array.getElem?_eq_some_iff.1 hr0c).1; clear hr2 hC hb2 z1 hr0b hr0c hB02))
      refine bodyPost_ret (alive_results _ w.heap.size (.int .i64 0) (.int .i64 0) (alive_put _ _ _ _ _ _ HR0.out) _ false rfl rfl) rfl ?_
      have hr := HRES.out
      rw [Bool.false_and, if_neg (by simp)] at hr
      obtain ⟨hr1, hr2⟩ := Prod.mk.inj hr
      obtain ⟨hr3, hr4⟩ := Prod.mk.inj hr2
      subst hr1 hr3 hr4
      exact ⟨rfl, (HB02.out.setCell (Nat.le_refl _) _).setCell (Nat.le_refl _) _⟩
    | true =>
      cases ok with
      | false =>
        go_enter Try.func43, Try.ntmps43
        go_wp2_with (first
          | (go_at_call 71; refine hC1.mono ?_; rintro e w1 ⟨rfl, hb1⟩; have HB1 := Aside0.mk hb1; clear hb1)
          | (go_at_call 19; refine (hSP _).mono ?_; rintro e w2 ⟨v, rfl, hr2, hb2⟩; obtain ⟨A, cp, rfl, hlc, hC⟩ := Kd.R_reads hr2; have HC2 := Aside0.mk hC; have HB2 := Aside0.mk hb2; have z1 := HB1.out.size; have hr0b : w1.heap[w.heap.size]? = some (.cells #[.int .i64 0, .int .i64 0] 52 (0, 0)) := (HB1.out.block w.heap.size (by simp)).trans (World.alloc_heap_new w _); have hr0c : w2.heap[w.heap.size]? = some (.cells #[.int .i64 0, .int .i64 0] 52 (0, 0)) := (HB2.out.block w.heap.size (by simp at z1; omega)).trans hr0b; have hB02 : Below w.heap.size w w2 := ((Below.refl _ w).alloc (Nat.le_refl _) _).trans ((HB1.out.mono (by simp)).trans (HB2.out.mono (by simp at z1; omega))); have HR0 := Aside0.mk hr0c; have HB02 := Aside0.mk hB02; have q0 : w2.cell? ⟨w.heap.size, 0, none⟩ = some (.int .i64 0) := (by simp only [World.cell?, hr0c]; rfl); have q1 : w2.cell? ⟨w.heap.size, 1, none⟩ = some (.int .i64 0) := (by simp only [World.cell?, hr0c]; rfl); have f0 : w2.frozen? ⟨w.heap.size, 0, none⟩ = false := (by simp [World.frozen?, hr0c]); have f1 : w2.frozen? ⟨w.heap.size, 1, none⟩ = false := (by simp [World.frozen?, hr0c]); have zz : w.heap.size < w2.heap.size := (Array.getElem?_eq_some_iff.1 hr0c).1; clear hr2 hC hb2 z1 hr0b hr0c hB02))
        refine bodyPost_ret (alive_results _ w.heap.size (.int .i64 0) (.int .i64 0) (alive_put _ _ _ _ _ _ HR0.out) _ false rfl rfl) rfl ?_
        have hr := HRES.out
        rw [Bool.and_false, if_neg (by simp)] at hr
        obtain ⟨hr1, hr2⟩ := Prod.mk.inj hr
        obtain ⟨hr3, hr4⟩ := Prod.mk.inj hr2
        subst hr1 hr3 hr4
        exact ⟨rfl, (HB02.out.setCell (Nat.le_refl _) _).setCell (Nat.le_refl _) _⟩
      | true =>
        go_enter Try.func43, Try.ntmps43
        go_wp2_with (first
          | (go_at_call 71; refine hC1.mono ?_; rintro e w1 ⟨rfl, hb1⟩; have HB1 := Aside0.mk hb1; clear hb1)
          | (go_at_call 19; refine (hSP _).mono ?_; rintro e w2 ⟨v, rfl, hr2, hb2⟩; obtain ⟨A, cp, rfl, hlc, hC⟩ := Kd.R_reads hr2; have HC2 := Aside0.mk hC; have HB2 := Aside0.mk hb2; have z1 := HB1.out.size; have hr0b : w1.heap[w.heap.size]? = some (.cells #[.int .i64 0, .int .i64 0] 52 (0, 0)) := (HB1.out.block w.heap.size (by simp)).trans (World.alloc_heap_new w _); have hr0c : w2.heap[w.heap.size]? = some (.cells #[.int .i64 0, .int .i64 0] 52 (0, 0)) := (HB2.out.block w.heap.size (by simp at z1; omega)).trans hr0b; have hB02 : Below w.heap.size w w2 := ((Below.refl _ w).alloc (Nat.le_refl _) _).trans ((HB1.out.mono (by simp)).trans (HB2.out.mono (by simp at z1; omega))); have HR0 := Aside0.mk hr0c; have HB02 := Aside0.mk hB02; have q0 : w2.cell? ⟨w.heap.size, 0, none⟩ = some (.int .i64 0) := (by simp only [World.cell?, hr0c]; rfl); have q1 : w2.cell? ⟨w.heap.size, 1, none⟩ = some (.int .i64 0) := (by simp only [World.cell?, hr0c]; rfl); have f0 : w2.frozen? ⟨w.heap.size, 0, none⟩ = false := (by simp [World.frozen?, hr0c]); have f1 : w2.frozen? ⟨w.heap.size, 1, none⟩ = false := (by simp [World.frozen?, hr0c]); have zz : w.heap.size < w2.heap.size := (Array.getElem?_eq_some_iff.1 hr0c).1; clear hr2 hC hb2 z1 hr0b hr0c hB02))
        have hab : ((w2.alloc (.cells #[.int .i64 0, .int .i64 0] 52)).alloc (.cells #[.bool true] 4)).heap[w2.heap.size]? = some (.cells #[.int .i64 0, .int .i64 0] 52 (0, 0)) := by
          rw [Below.heap_alloc _ _ _ (by simp)]
          exact World.alloc_heap_new _ _
        have hG : ((w2.alloc (.cells #[.int .i64 0, .int .i64 0] 52)).alloc (.cells #[.bool true] 4)).heap[w2.heap.size + 1]? = some (.cells #[.bool true] 4 (0, 0)) := by
          have := World.alloc_heap_new (w2.alloc (.cells #[.int .i64 0, .int .i64 0] 52)) (.cells #[.bool true] 4)
          rwa [World.size_alloc] at this
        have hB24 : Below w2.heap.size w2 ((w2.alloc (.cells #[.int .i64 0, .int .i64 0] 52)).alloc (.cells #[.bool true] 4)) := ((Below.refl _ w2).alloc (Nat.le_refl _) _).alloc (by simp) _
        have HAB := Aside0.mk hab
        have HG := Aside0.mk hG
        have HB24 := Aside0.mk hB24
        clear hab hG hB24
        go_loopg [36] L.length (fun gg s36 wr => ∃ (kk : Nat) (t m : Int) (g : Bool), kk ≤ L.length ∧ L.length - kk ≤ gg ∧ s36 = .int .i64 kk ∧ Aside0 (wr.heap[w2.heap.size]? = some (.cells #[.int .i64 t, .int .i64 m] 52 (0, 0))) ∧ Aside0 (wr.heap[w2.heap.size + 1]? = some (.cells #[.bool g] 4 (0, 0))) ∧ Aside0 (Below w2.heap.size w2 wr) ∧ Aside0 ((L.take kk).foldl stepA (0, 0, true) = (t, m, g)))
        case atStart => exact ⟨0, 0, 0, true, Nat.zero_le _, by omega, rfl, HAB, HG, HB24, ⟨rfl⟩⟩
        case round =>
          obtain ⟨kk, t, m, g, hkk, hgg, rfl, HA, HGG, BW, HF⟩ := hrel
          clear HAB HG HB24
          by_cases hlt : kk < L.length
          · have hltz : (kk : Int) < (L.length : Int) := by omega
            obtain ⟨y, hy⟩ : ∃ y, L[kk]? = some y := ⟨_, List.getElem?_eq_getElem hlt⟩
            obtain ⟨gw, ow, rfl, hgw, hcw⟩ := reads_cells HC2.out (by rintro rfl; simp at hlt)
            have hcell : wr.cell? ⟨gw, ow + kk, none⟩ = some (.string y) := (BW.out.cell (p := ⟨gw, ow + kk, none⟩) hgw).trans (hcw kk y hy)
            have hys : y.size ≤ S.size := HZ.out y (List.mem_of_getElem? hy)
            have hstep : (L.take (kk + 1)).foldl stepA (0, 0, true) = stepA (t, m, g) y := by
              rw [List.take_add_one, hy, List.foldl_append, HF.out]
              rfl
            have hcs := cutAt_size' y 61
            have hCut := fun W => strings_Cut.calls y ⟨#[61]⟩ (cutAt y 61).1 (cutAt y 61).2.1 (cutAt y 61).2.2 W (cut_one y 61 (by omega))
            unfold stepA at hstep
            have hAl : ∀ W, Below wr.heap.size wr W → ∀ (V : ByteArray) (no : Nat) (old : Int), (#[.int .i64 t, .int .i64 m] : Array Value)[no]? = some (.int .i64 old) → Calls Try.prog 75 #[.pointer (some ⟨w2.heap.size, no, none⟩), .string V, .pointer (some ⟨w2.heap.size + 1, 0, none⟩)] W fun e w' => e = .returned (.tuple #[]) ∧
                w'.heap[w2.heap.size]? = some (.cells ((#[.int .i64 t, .int .i64 m] : Array Value).setIfInBounds no (.int .i64 (numberB V 10 1073741824).1)) 52 (0, 0)) ∧ w'.heap[w2.heap.size + 1]? = some (.cells #[.bool (g && (numberB V 10 1073741824).2 == 0)] 4 (0, 0)) ∧ Below w2.heap.size w2 w' := by
              intro W hW V no old hno
              have l1 := (Array.getElem?_eq_some_iff.1 HA.out).1
              have l2 := (Array.getElem?_eq_some_iff.1 HGG.out).1
              refine (alive1_wp V w2.heap.size (w2.heap.size + 1) no _ old g W (by omega) ((hW.block _ l1).trans HA.out) ((hW.block _ l2).trans HGG.out) hno).mono ?_
              rintro e w' ⟨rfl, h1, h2, h3⟩
              have h4 := BW.out.trans (hW.mono BW.out.size)
              exact ⟨rfl, h1, h2, h4.trans ⟨h3.1, h3.2.1, h3.2.2.1, h3.2.2.2.1, fun k hk => h3.2.2.2.2 k (Nat.lt_of_lt_of_le hk h4.size) (by omega) (by omega)⟩⟩
            have hT := fun (x : ByteArray) (hx : x.size ≤ 1000000) W => octet_Trim.calls (2 * x.size + 3) x (trimB x) W (octet_trim x (by omega) _ (by omega))
            have hLw := fun (x : ByteArray) (hx : x.size ≤ 1000000) W => octet_Lower.calls x (lowB x) W (by unfold octet_Lower.f; rw [if_pos (by omega)])
            generalize (cutAt y 61).1 = C1 at hCut hstep hcs
            generalize (cutAt y 61).2.1 = C2 at hCut hstep hcs
            generalize (cutAt y 61).2.2 = is at hCut hstep
            have hT1 := hT C1 (by omega)
            have hT2 := hT C2 (by omega)
            have hL1 := hLw (trimB C1) (by have := trimB_size C1; omega)
            clear hT hLw
            generalize trimB C1 = T1 at hT1 hL1 hstep
            generalize trimB C2 = T2 at hT2 hstep
            generalize lowB T1 = N1 at hL1 hstep
            have HAL := Aside0.mk hAl
            have HLT := Aside0.mk (⟨hlt, hgg⟩ : _ ∧ _)
            clear hAl hcs hys hcw hy
            cases is with
            | false =>
              rw [if_neg (by simp)] at hstep
              have HST := Aside0.mk hstep
              clear hstep
              go_wp2_with (first
                | (go_at_call 46; refine (hCut _).mono ?_; rintro e wa ⟨rfl, hda⟩; have HA1 := Aside0.mk (Drawn0_below hda); clear hda)
                | (go_at_call 49; (with_reducible refine (hT1 _).mono ?_); rintro e wb ⟨rfl, hdb⟩; have HA2 := Aside0.mk (Drawn0_below hdb); clear hdb)
                | (go_at_call 70; refine (hL1 _).mono ?_; rintro e wc ⟨rfl, hdc⟩; have HA3 := Aside0.mk hdc; clear hdc)
                | (go_at_call 49; (with_reducible refine (hT2 _).mono ?_); rintro e wd ⟨rfl, hdd⟩; have HA4 := Aside0.mk (Drawn0_below hdd); clear hdd; have HBD := Aside0.mk (HA1.out.trans ((HA2.out.mono HA1.out.size).trans ((HA3.out.mono (Nat.le_trans HA1.out.size HA2.out.size)).trans (HA4.out.mono (Nat.le_trans (Nat.le_trans HA1.out.size HA2.out.size) HA3.out.size)))))))
              go_roundg (L.length - (kk + 1))
              case measure => have := HLT.out; omega
              case rel =>
                have l1 := (Array.getElem?_eq_some_iff.1 HA.out).1
                have l2 := (Array.getElem?_eq_some_iff.1 HGG.out).1
                exact ⟨kk + 1, t, m, g, by have := HLT.out; omega, by have := HLT.out; omega, by go_num, ⟨(HBD.out.block _ l1).trans HA.out⟩, ⟨(HBD.out.block _ l2).trans HGG.out⟩, ⟨BW.out.trans (HBD.out.mono BW.out.size)⟩, HST⟩
            | true =>
              rw [if_pos rfl] at hstep
              by_cases hn1 : N1.toList = timeoutL
              · rw [if_pos hn1] at hstep
                have hn1b : (N1.toList == ([116, 105, 109, 101, 111, 117, 116] : List UInt8)) = true := beq_iff_eq.2 hn1
                have HST := Aside0.mk hstep
                clear hstep hn1
                go_wp2_with (first
                  | (go_at_call 46; refine (hCut _).mono ?_; rintro e wa ⟨rfl, hda⟩; have HA1 := Aside0.mk (Drawn0_below hda); clear hda)
                  | (go_at_call 49; (with_reducible refine (hT1 _).mono ?_); rintro e wb ⟨rfl, hdb⟩; have HA2 := Aside0.mk (Drawn0_below hdb); clear hdb)
                  | (go_at_call 70; refine (hL1 _).mono ?_; rintro e wc ⟨rfl, hdc⟩; have HA3 := Aside0.mk hdc; clear hdc)
                  | (go_at_call 49; (with_reducible refine (hT2 _).mono ?_); rintro e wd ⟨rfl, hdd⟩; have HA4 := Aside0.mk (Drawn0_below hdd); clear hdd; have HBD := Aside0.mk (HA1.out.trans ((HA2.out.mono HA1.out.size).trans ((HA3.out.mono (Nat.le_trans HA1.out.size HA2.out.size)).trans (HA4.out.mono (Nat.le_trans (Nat.le_trans HA1.out.size HA2.out.size) HA3.out.size))))))
                  | (go_at_call 75; refine (HAL.out wd HBD.out T2 0 t rfl).mono ?_; rintro e we ⟨rfl, he1, he2, he3⟩; have HE := Aside0.mk (⟨he1, he2, he3⟩ : _ ∧ _ ∧ _); clear he1 he2 he3))
                go_roundg (L.length - (kk + 1))
                case measure => have := HLT.out; omega
                case rel => exact ⟨kk + 1, (numberB T2 10 1073741824).1, m, _, by have := HLT.out; omega, by have := HLT.out; omega, by go_num, ⟨HE.out.1⟩, ⟨HE.out.2.1⟩, ⟨HE.out.2.2⟩, HST⟩
              · rw [if_neg hn1] at hstep
                have hn1b : (N1.toList == ([116, 105, 109, 101, 111, 117, 116] : List UInt8)) = false := beq_eq_false_iff_ne.2 hn1
                by_cases hn2 : N1.toList = maxL
                · rw [if_pos hn2] at hstep
                  have hn2b : (N1.toList == ([109, 97, 120] : List UInt8)) = true := beq_iff_eq.2 hn2
                  have HST := Aside0.mk hstep
                  clear hstep hn1 hn2
                  go_wp2_with (first
                    | (go_at_call 46; refine (hCut _).mono ?_; rintro e wa ⟨rfl, hda⟩; have HA1 := Aside0.mk (Drawn0_below hda); clear hda)
                    | (go_at_call 49; (with_reducible refine (hT1 _).mono ?_); rintro e wb ⟨rfl, hdb⟩; have HA2 := Aside0.mk (Drawn0_below hdb); clear hdb)
                    | (go_at_call 70; refine (hL1 _).mono ?_; rintro e wc ⟨rfl, hdc⟩; have HA3 := Aside0.mk hdc; clear hdc)
                    | (go_at_call 49; (with_reducible refine (hT2 _).mono ?_); rintro e wd ⟨rfl, hdd⟩; have HA4 := Aside0.mk (Drawn0_below hdd); clear hdd; have HBD := Aside0.mk (HA1.out.trans ((HA2.out.mono HA1.out.size).trans ((HA3.out.mono (Nat.le_trans HA1.out.size HA2.out.size)).trans (HA4.out.mono (Nat.le_trans (Nat.le_trans HA1.out.size HA2.out.size) HA3.out.size))))))
                    | (go_at_call 75; refine (HAL.out wd HBD.out T2 1 m rfl).mono ?_; rintro e we ⟨rfl, he1, he2, he3⟩; have HE := Aside0.mk (⟨he1, he2, he3⟩ : _ ∧ _ ∧ _); clear he1 he2 he3))
                  go_roundg (L.length - (kk + 1))
                  case measure => have := HLT.out; omega
                  case rel => exact ⟨kk + 1, t, (numberB T2 10 1073741824).1, _, by have := HLT.out; omega, by have := HLT.out; omega, by go_num, ⟨HE.out.1⟩, ⟨HE.out.2.1⟩, ⟨HE.out.2.2⟩, HST⟩
                · rw [if_neg hn2] at hstep
                  have hn2b : (N1.toList == ([109, 97, 120] : List UInt8)) = false := beq_eq_false_iff_ne.2 hn2
                  have HST := Aside0.mk hstep
                  clear hstep hn1 hn2
                  go_wp2_with (first
                    | (go_at_call 46; refine (hCut _).mono ?_; rintro e wa ⟨rfl, hda⟩; have HA1 := Aside0.mk (Drawn0_below hda); clear hda)
                    | (go_at_call 49; (with_reducible refine (hT1 _).mono ?_); rintro e wb ⟨rfl, hdb⟩; have HA2 := Aside0.mk (Drawn0_below hdb); clear hdb)
                    | (go_at_call 70; refine (hL1 _).mono ?_; rintro e wc ⟨rfl, hdc⟩; have HA3 := Aside0.mk hdc; clear hdc)
                    | (go_at_call 49; (with_reducible refine (hT2 _).mono ?_); rintro e wd ⟨rfl, hdd⟩; have HA4 := Aside0.mk (Drawn0_below hdd); clear hdd; have HBD := Aside0.mk (HA1.out.trans ((HA2.out.mono HA1.out.size).trans ((HA3.out.mono (Nat.le_trans HA1.out.size HA2.out.size)).trans (HA4.out.mono (Nat.le_trans (Nat.le_trans HA1.out.size HA2.out.size) HA3.out.size)))))))
                  go_roundg (L.length - (kk + 1))
                  case measure => have := HLT.out; omega
                  case rel =>
                    have l1 := (Array.getElem?_eq_some_iff.1 HA.out).1
                    have l2 := (Array.getElem?_eq_some_iff.1 HGG.out).1
                    exact ⟨kk + 1, t, m, g, by have := HLT.out; omega, by have := HLT.out; omega, by go_num, ⟨(HBD.out.block _ l1).trans HA.out⟩, ⟨(HBD.out.block _ l2).trans HGG.out⟩, ⟨BW.out.trans (HBD.out.mono BW.out.size)⟩, HST⟩
          · have hltz : ¬ (kk : Int) < (L.length : Int) := by omega
            have hke : kk = L.length := by omega
            subst hke
            have hrun : runA L = (t, m, g) := by
              have := HF.out
              rw [List.take_length] at this
              exact this
            have hr := HRES.out
            rw [Bool.true_and, if_pos rfl, hrun] at hr
            have hr0w := (BW.out.block w.heap.size zz).trans HR0.out
            have q0' : wr.cell? ⟨w.heap.size, 0, none⟩ = some (.int .i64 0) := (by simp only [World.cell?, hr0w]; rfl)
            have q1' : wr.cell? ⟨w.heap.size, 1, none⟩ = some (.int .i64 0) := (by simp only [World.cell?, hr0w]; rfl)
            have f0' : wr.frozen? ⟨w.heap.size, 0, none⟩ = false := (by simp [World.frozen?, hr0w])
            have f1' : wr.frozen? ⟨w.heap.size, 1, none⟩ = false := (by simp [World.frozen?, hr0w])
            have g0 : wr.cell? ⟨w2.heap.size + 1, 0, none⟩ = some (.bool g) := (by simp only [World.cell?, HGG.out]; rfl)
            have a0 : wr.cell? ⟨w2.heap.size, 0, none⟩ = some (.int .i64 t) := (by simp only [World.cell?, HA.out]; rfl)
            have a1 : wr.cell? ⟨w2.heap.size, 1, none⟩ = some (.int .i64 m) := (by simp only [World.cell?, HA.out]; rfl)
            have HR0W := Aside0.mk hr0w
            have hBW := HB02.out.trans (BW.out.mono HB02.out.size)
            have HBW := Aside0.mk hBW
            clear hr0w hBW q0 q1 f0 f1 hrun
            cases g with
            | false =>
              rw [if_neg (by simp)] at hr
              obtain ⟨hr1, hr2⟩ := Prod.mk.inj hr
              obtain ⟨hr3, hr4⟩ := Prod.mk.inj hr2
              subst hr1 hr3 hr4
              clear hr hr2
              go_wp2
              refine bodyPost_ret (alive_results _ w.heap.size (.int .i64 0) (.int .i64 0) (alive_put _ _ _ _ _ _ HR0W.out) _ false rfl rfl) rfl ?_
              exact ⟨rfl, (HBW.out.setCell (Nat.le_refl _) _).setCell (Nat.le_refl _) _⟩
            | true =>
              rw [if_pos rfl] at hr
              replace hr : (t, m, true) = (r1, r2, r3) := hr
              obtain ⟨hr1, hr2⟩ := Prod.mk.inj hr
              obtain ⟨hr3, hr4⟩ := Prod.mk.inj hr2
              subst hr1 hr3 hr4
              clear hr hr2
              go_wp2
              refine bodyPost_ret (alive_results _ w.heap.size (.int .i64 t) (.int .i64 m) (alive_put _ _ _ _ _ _ HR0W.out) _ true rfl rfl) rfl ?_
              exact ⟨rfl, (HBW.out.setCell (Nat.le_refl _) _).setCell (Nat.le_refl _) _⟩
  · rw [connection_Alive.f, if_neg hs] at h
    cases h


end Go.Proofs.Ytkjkbenmoogdjaa.X
namespace Go.Proofs.Ytkjkbenmoogdjaa.X
open Go.RowKit Go.Proofs.YtkjkbenmoogdjaaW.PrintWords Go.Proofs.YtkjkbenmoogdjaaW.PrintLast Go.Proofs.YtkjkbenmoogdjaaW.PrintMore
attribute [local go_sem] max2_int min2_int max_two min_two max_three min_three max_four min_four   -- for this text's walks alone
set_option linter.unusedVariables false
set_option linter.unusedSimpArgs false

/-! ### abutmentlaw17_lives: function 37 -/
def aliveL : List S23 := [⟨⟨#[67, 111, 110, 110, 101, 99, 116, 105, 111, 110]⟩, ⟨#[75, 101, 101, 112, 45, 65, 108, 105, 118, 101]⟩⟩, ⟨⟨#[75, 101, 101, 112, 45, 65, 108, 105, 118, 101]⟩, ⟨#[116, 105, 109, 101, 111, 117, 116, 61, 53, 44, 32, 109, 97, 120, 61, 49, 48]⟩⟩]
theorem own_C {W : World} {base : Nat} {A : Option Addr} {c : Nat} {l : List S23} (h : W.ownsRow base 23 2 (.slice A l.length c) l.length (cellsF l)) : Kd.C k23 W A l.length l := by
  obtain ⟨A', c', he, _, hC⟩ := Kd.R_reads (rowRF _ h)
  injection he with h1 h2 h3
  rw [h1]
  exact hC
theorem own_le {W : World} {base : Nat} {A : Option Addr} {c e n : Nat} {xs : List Value} (h : W.ownsRow base e 2 (.slice A n c) n xs) : n ≤ c := by
  rcases h.2 with ⟨he, _⟩ | ⟨g, cap, cur, he, _, _, hc, _⟩
  · injection he with _ h2 h3; omega
  · injection he with _ h2 h3; omega
theorem alive_val : aliveB aliveL = (5, 10, true) := by kernel_rfl
theorem persists_val : persistsB 0 aliveL = true ∧ persistsB 0 [] = false ∧ persistsB 1 [] = true := ⟨by kernel_rfl, by kernel_rfl, by kernel_rfl⟩
theorem comb_val : (combB aliveL connName).size ≤ 1000000 ∧ (combB aliveL keepAlive).size ≤ 1000000 ∧ (combB [] connName).size ≤ 1000000 := by decide +kernel
theorem has_val : connection_Has.f 10 aliveL ⟨#[75, 69, 69, 80, 45, 65, 76, 73, 86, 69]⟩ = some true := by
  unfold connection_Has.f
  rw [show connection_Words.f aliveL = some (wordsB aliveL) from by unfold connection_Words.f; rw [if_pos ⟨by decide, comb_val.1⟩]]
  simp only [Option.bind_some]
  rw [show octet_Lower.f ⟨#[75, 69, 69, 80, 45, 65, 76, 73, 86, 69]⟩ = some (lowB ⟨#[75, 69, 69, 80, 45, 65, 76, 73, 86, 69]⟩) from by unfold octet_Lower.f; rw [if_pos (by decide)]]
  simp only [Option.bind_some]
  rw [show wordsB aliveL = ([keepName], 0) from by kernel_rfl, contains_f [keepName] _ (by decide) 10 (by decide)]
  simp only [Option.bind_some]
  kernel_rfl
def abutmentlaw17_lives.f  : Option (Bool) := some true
set_option maxHeartbeats 4000000 in
set_option maxRecDepth 100000 in
theorem abutmentlaw17_lives.calls  (r : Bool) (w : World) (h : abutmentlaw17_lives.f  = some r) :
    Calls Try.prog 37 #[] w fun e w' => e = .returned (.bool r) ∧ Below w.heap.size w w' := by
  obtain rfl := Option.some.inj h
  clear h
  have hA := fun W (hC : Kd.C k23 W (some ⟨w.heap.size, 0, none⟩) aliveL.length aliveL) => connection_Alive.calls (some ⟨w.heap.size, 0, none⟩) 2 aliveL 5 10 true W hC (Nat.le_refl _) (by unfold connection_Alive.f; rw [if_pos ⟨by decide, comb_val.2.1⟩, alive_val])
  have hP1 := fun W (hC : Kd.C k23 W (some ⟨w.heap.size, 0, none⟩) aliveL.length aliveL) => connection_Persists.calls 0 (some ⟨w.heap.size, 0, none⟩) 2 aliveL true W hC (Nat.le_refl _) (by unfold connection_Persists.f; rw [if_pos ⟨by decide, comb_val.1⟩, persists_val.1])
  have hP2 := fun W => connection_Persists.calls 0 none 0 [] false W (own_C (World.ownsRow_nil W 0 _ _)) (Nat.le_refl _) (by unfold connection_Persists.f; rw [if_pos ⟨by decide, comb_val.2.2⟩, persists_val.2.1])
  have hP3 := fun W => connection_Persists.calls 1 none 0 [] true W (own_C (World.ownsRow_nil W 0 _ _)) (Nat.le_refl _) (by unfold connection_Persists.f; rw [if_pos ⟨by decide, comb_val.2.2⟩, persists_val.2.2])
  have hH := fun W (hC : Kd.C k23 W (some ⟨w.heap.size, 0, none⟩) aliveL.length aliveL) => connection_Has.calls 10 (some ⟨w.heap.size, 0, none⟩) 2 aliveL ⟨#[75, 69, 69, 80, 45, 65, 76, 73, 86, 69]⟩ true W hC (Nat.le_refl _) has_val
  have HA := Aside0.mk hA
  have HP1 := Aside0.mk hP1
  have HP2 := Aside0.mk hP2
  have HP3 := Aside0.mk hP3
  have HH := Aside0.mk hH
  clear hA hP1 hP2 hP3 hH
  go_enter Try.func37, Try.ntmps37
  go_wp2_with fail
  generalize hw1 : w.alloc _ = w1
  have hown : w1.ownsRow w.heap.size 23 2 (.slice (some ⟨w.heap.size, 0, none⟩) 2 2) 2 (cellsF aliveL) := by
    rw [← hw1]
    exact ⟨rfl, .inr ⟨w.heap.size, 2, _, rfl, Nat.le_refl _, World.alloc_heap_new _ _, Nat.le_refl _, by decide, rfl, rfl⟩⟩
  have hb1 : Below w.heap.size w w1 := by rw [← hw1]; exact (Below.refl _ w).alloc (Nat.le_refl _) _
  clear hw1
  refine (HA.out w1 (own_C hown)).mono ?_
  rintro e w2 ⟨rfl, hb2⟩
  have hown2 := own_below hown hb2
  have hbw2 := hb1.trans (hb2.mono hb1.size)
  clear hown hb1 hb2
  go_wp2_with fail
  generalize hw3 : w2.alloc _ = w3
  have hbx : Below w2.heap.size w2 w3 := by rw [← hw3]; exact (Below.refl _ w2).alloc (Nat.le_refl _) _
  have hbox : w3.heap[w2.heap.size]? = some (.cells #[.int .i64 5, .int .i64 10] 52 (0, 0)) := by rw [← hw3]; exact World.alloc_heap_new _ _
  have hl3 := (Array.getElem?_eq_some_iff.1 hbox).1
  clear hw3
  have hown3 := own_below hown2 hbx
  have hbw3 := hbw2.trans (hbx.mono hbw2.size)
  refine (HP1.out w3 (own_C hown3)).mono ?_
  rintro e w4 ⟨rfl, hb4⟩
  have hbox4 := (hb4.block _ hl3).trans hbox
  have hown4 := own_below hown3 hb4
  have hbw4 := hbw3.trans (hb4.mono hbw3.size)
  have hl4 := (Array.getElem?_eq_some_iff.1 hbox4).1
  clear hbx hown2 hown3 hbw2 hbw3 hbox hl3 hb4
  go_wp2_with fail
  refine (HP2.out w4).mono ?_
  rintro e w5 ⟨rfl, hb5⟩
  have hbox5 := (hb5.block _ hl4).trans hbox4
  have hown5 := own_below hown4 hb5
  have hbw5 := hbw4.trans (hb5.mono hbw4.size)
  have hl5 := (Array.getElem?_eq_some_iff.1 hbox5).1
  clear hown4 hbw4 hbox4 hl4 hb5
  go_wp2_with fail
  refine (HP3.out w5).mono ?_
  rintro e w6 ⟨rfl, hb6⟩
  have hbox6 := (hb6.block _ hl5).trans hbox5
  have hown6 := own_below hown5 hb6
  have hbw6 := hbw5.trans (hb6.mono hbw5.size)
  clear hown5 hbw5 hbox5 hl5 hb6
  have c0 : w6.cell? ⟨w2.heap.size, 0, none⟩ = some (.int .i64 5) := by simp only [World.cell?, hbox6]; rfl
  have c1 : w6.cell? ⟨w2.heap.size, 1, none⟩ = some (.int .i64 10) := by simp only [World.cell?, hbox6]; rfl
  have HO6 := Aside0.mk hown6
  have HB6 := Aside0.mk hbw6
  clear hown6 hbw6 hbox6
  go_wp2_with fail
  refine (HH.out w6 (own_C HO6.out)).mono ?_
  rintro e w7 ⟨rfl, hb7⟩
  go_wp2
  go_ret
  exact ⟨rfl, HB6.out.trans (hb7.mono HB6.out.size)⟩


end Go.Proofs.Ytkjkbenmoogdjaa.X
namespace Go.Proofs.Ytkjkbenmoogdjaa.X
open Go.RowKit Go.Proofs.YtkjkbenmoogdjaaW.PrintWords Go.Proofs.YtkjkbenmoogdjaaW.PrintLast Go.Proofs.YtkjkbenmoogdjaaW.PrintMore
attribute [local go_sem] max2_int min2_int max_two min_two max_three min_three max_four min_four   -- for this text's walks alone
set_option linter.unusedVariables false
set_option linter.unusedSimpArgs false

/-! ### abutmentref01_Trim: function 52 -/
mutual
def abutmentref01_Trim.j1 : Nat → ByteArray → Option (ByteArray)
  | 0, _ => none
  | k + 1, x0 => abutmentref01_Trim.l1 k x0
def abutmentref01_Trim.l1 : Nat → ByteArray → Option (ByteArray)
  | 0, _ => none
  | k + 1, x0 => if (x0.size : Int) > 0 then (if 0 ≤ (wrap64 ((x0.size : Int) - 1)) then (if (wrap64 ((x0.size : Int) - 1)) < (x0.size : Int) then (if (bt x0 (wrap64 ((x0.size : Int) - 1))) = 32 then (if (wrap64 ((x0.size : Int) - 1)) ≤ (x0.size : Int) then (abutmentref01_Trim.l1 k (x0.extract 0 ((wrap64 ((x0.size : Int) - 1)) : Int).toNat)) else (none)) else (if (bt x0 (wrap64 ((x0.size : Int) - 1))) = 9 then (if (wrap64 ((x0.size : Int) - 1)) ≤ (x0.size : Int) then (abutmentref01_Trim.l1 k (x0.extract 0 ((wrap64 ((x0.size : Int) - 1)) : Int).toNat)) else (none)) else (some x0))) else (none)) else (none)) else (some x0)
def abutmentref01_Trim.l0 : Nat → ByteArray → Option (ByteArray)
  | 0, _ => none
  | k + 1, x0 => if (x0.size : Int) > 0 then (if 0 < (x0.size : Int) then (if (bt x0 0) = 32 then (if 1 ≤ (x0.size : Int) then (abutmentref01_Trim.l0 k (x0.extract 1 x0.size)) else (none)) else (if (bt x0 0) = 9 then (if 1 ≤ (x0.size : Int) then (abutmentref01_Trim.l0 k (x0.extract 1 x0.size)) else (none)) else (abutmentref01_Trim.j1 k x0))) else (none)) else (abutmentref01_Trim.j1 k x0)
end
def abutmentref01_Trim.f (k : Nat) (a0 : ByteArray) : Option (ByteArray) := abutmentref01_Trim.l0 k a0
theorem abutmentref01_Trim.mono_l : ∀ k, (∀ y0, LeO (abutmentref01_Trim.j1 k y0) (abutmentref01_Trim.j1 (k + 1) y0)) ∧ (∀ y0, LeO (abutmentref01_Trim.l1 k y0) (abutmentref01_Trim.l1 (k + 1) y0)) ∧ (∀ y0, LeO (abutmentref01_Trim.l0 k y0) (abutmentref01_Trim.l0 (k + 1) y0))
  | 0 => ⟨fun _ r h => by simp [abutmentref01_Trim.j1] at h, fun _ r h => by simp [abutmentref01_Trim.l1] at h, fun _ r h => by simp [abutmentref01_Trim.l0] at h⟩
  | k + 1 => by
    obtain ⟨ih0, ih1, ih2⟩ := abutmentref01_Trim.mono_l k
    refine ⟨?_, ?_, ?_⟩
    · intro y0
      unfold abutmentref01_Trim.j1
      repeat' first
      | (with_reducible exact ih0 _)
      | (with_reducible exact ih1 _)
      | (with_reducible exact ih2 _)
      | (with_reducible exact LeO.refl _)
      | (with_reducible exact LeO.none _)
      | (with_reducible refine LeO.ite ?_ ?_)
      | (with_reducible refine LeO.bind ?_ (fun _ => ?_))
      | exact ih0 _
      | exact ih1 _
      | exact ih2 _
      | exact LeO.none _
      | refine LeO.ite ?_ ?_
      | refine LeO.bind ?_ (fun _ => ?_)
    · intro y0
      unfold abutmentref01_Trim.l1
      repeat' first
      | (with_reducible exact ih0 _)
      | (with_reducible exact ih1 _)
      | (with_reducible exact ih2 _)
      | (with_reducible exact LeO.refl _)
      | (with_reducible exact LeO.none _)
      | (with_reducible refine LeO.ite ?_ ?_)
      | (with_reducible refine LeO.bind ?_ (fun _ => ?_))
      | exact ih0 _
      | exact ih1 _
      | exact ih2 _
      | exact LeO.none _
      | refine LeO.ite ?_ ?_
      | refine LeO.bind ?_ (fun _ => ?_)
    · intro y0
      unfold abutmentref01_Trim.l0
      repeat' first
      | (with_reducible exact ih0 _)
      | (with_reducible exact ih1 _)
      | (with_reducible exact ih2 _)
      | (with_reducible exact LeO.refl _)
      | (with_reducible exact LeO.none _)
      | (with_reducible refine LeO.ite ?_ ?_)
      | (with_reducible refine LeO.bind ?_ (fun _ => ?_))
      | exact ih0 _
      | exact ih1 _
      | exact ih2 _
      | exact LeO.none _
      | refine LeO.ite ?_ ?_
      | refine LeO.bind ?_ (fun _ => ?_)
theorem abutmentref01_Trim.mono : ∀ a0 k, LeO (abutmentref01_Trim.f k a0) (abutmentref01_Trim.f (k + 1) a0) := by
  intro a0 k
  obtain ⟨ih0, ih1, ih2⟩ := abutmentref01_Trim.mono_l k
  unfold abutmentref01_Trim.f
  repeat' first
      | (with_reducible exact ih0 _)
      | (with_reducible exact ih1 _)
      | (with_reducible exact ih2 _)
      | (with_reducible exact LeO.refl _)
      | (with_reducible exact LeO.none _)
      | (with_reducible refine LeO.ite ?_ ?_)
      | (with_reducible refine LeO.bind ?_ (fun _ => ?_))
      | exact ih0 _
      | exact ih1 _
      | exact ih2 _
      | exact LeO.none _
      | refine LeO.ite ?_ ?_
      | refine LeO.bind ?_ (fun _ => ?_)
set_option maxHeartbeats 8000000 in
set_option maxRecDepth 100000 in
theorem abutmentref01_Trim.calls (k : Nat) (a0 : ByteArray) (r : ByteArray) (w : World) (h : abutmentref01_Trim.f k a0 = some r) :
    Calls Try.prog 52 #[.string a0] w fun e w' => e = .returned (.string r) ∧ Drawn0 w w' := by
  have H : (abutmentref01_Trim.l0 k a0) = some r := h
  clear h
  have HC2 := Aside0.mk H
  clear H
  go_enter Try.func52, Try.ntmps52
  go_upto_block 0 with (fail)
  go_cut [0] (fun v0 wc => ∃ (kq : Nat) (x0_1 : ByteArray), v0 = .string x0_1 ∧ Aside0 (abutmentref01_Trim.j1 kq x0_1 = some r) ∧ Aside0 (kq ≤ k) ∧ Drawn0 w wc)
  case first =>
    have H := HC2.out
    clear HC2
    have H' := Aside0.mk H
    clear H
    go_wp2
    go_loopg [0] k (fun kq v0 w' => ∃ (x0_1 : ByteArray), v0 = .string x0_1 ∧ Aside0 (abutmentref01_Trim.l0 kq x0_1 = some r) ∧ Aside0 (kq ≤ k) ∧ Drawn0 w w')
    case atStart => exact ⟨(a0), (by first | rfl | (simp; done) | (simp [*]; done)), H', ⟨Nat.le_refl _⟩, by repeat (first | exact Drawn0.refl _ | apply Drawn0.step)⟩
    case round =>
      clear H'
      try clear p2
      obtain ⟨x0_1, rfl, HA, HK1, ⟨m1, rfl⟩⟩ := hrel
      cases gk with
      | zero => exact absurd HA.out (by simp [abutmentref01_Trim.l0])
      | succ k1 =>
        have H := HA.out
        clear HA
        simp only [abutmentref01_Trim.l0] at H
        by_cases c3 : (x0_1.size : Int) > 0
        · rw [if_pos c3] at H
          have c3b0 : decide (0 < (x0_1.size : Int)) = true := decide_eq_true c3
          have c3b1 : decide (0 < x0_1.size) = true := decide_eq_true (by omega)
          clear c3
          (first | rw [c3b0] | (simp only [i64_w, i32_w]; rw [c3b0]) | skip)
          by_cases c4 : 0 < (x0_1.size : Int)
          · rw [if_pos c4] at H
            have c4b0 : decide (0 < (x0_1.size : Int)) = true := decide_eq_true c4
            have c4b1 : decide (0 < x0_1.size) = true := decide_eq_true (by omega)
            clear c4
            by_cases c6 : (bt x0_1 0) = 32
            · rw [if_pos c6] at H
              have c6b0 : ((bt x0_1 0) == 32) = true := beq_iff_eq.mpr c6
              have c6b1 : ((bt x0_1 0) != 32) = false := bne_eq_false_iff_eq.mpr c6
              clear c6
              by_cases c7 : 1 ≤ (x0_1.size : Int)
              · rw [if_pos c7] at H
                have c7b0 := eq_true c7
                have c7b1 : decide (1 ≤ (x0_1.size : Int)) = true := decide_eq_true c7
                clear c7
                have H' := Aside0.mk H
                clear H
                have p5 : 0 ≤ (0 : Int) := (by omega)
                have q5 : 0 < x0_1.size := (by have : (0 : Int) < (x0_1.size : Int) := of_decide_eq_true (by first | (with_reducible assumption) | assumption); omega)
                have hx5 : ∀ h : 0 < x0_1.size, ((x0_1[0]'h).toNat : Int) = bt x0_1 0 := bt_at x0_1 0
                clear p5
                have qi5 : (0 < (x0_1.size : Int)) = True := eq_true (of_decide_eq_true (by first | (with_reducible assumption) | assumption))
                replace q5 := eq_true q5
                go_wp2
                go_roundg k1
                case measure => have := HK1.out; omega
                case rel => exact ⟨(x0_1.extract 1 x0_1.size), (by first | rfl | (simp; done) | (simp [*]; done)), H', ⟨by have := HK1.out; omega⟩, by repeat (first | exact Drawn0.refl _ | apply Drawn0.step)⟩
              · rw [if_neg c7] at H
                exact absurd H (by simp)
            · rw [if_neg c6] at H
              have c6b0 : ((bt x0_1 0) == 32) = false := beq_eq_false_iff_ne.mpr c6
              have c6b1 : ((bt x0_1 0) != 32) = true := bne_iff_ne.mpr c6
              by_cases c9 : (bt x0_1 0) = 9
              · rw [if_pos c9] at H
                have c9b0 : ((bt x0_1 0) == 9) = true := beq_iff_eq.mpr c9
                have c9b1 : ((bt x0_1 0) != 9) = false := bne_eq_false_iff_eq.mpr c9
                clear c9
                by_cases c10 : 1 ≤ (x0_1.size : Int)
                · rw [if_pos c10] at H
                  have c10b0 := eq_true c10
                  have c10b1 : decide (1 ≤ (x0_1.size : Int)) = true := decide_eq_true c10
                  clear c10
                  have H' := Aside0.mk H
                  clear H
                  have p5 : 0 ≤ (0 : Int) := (by omega)
                  have q5 : 0 < x0_1.size := (by have : (0 : Int) < (x0_1.size : Int) := of_decide_eq_true (by first | (with_reducible assumption) | assumption); omega)
                  have hx5 : ∀ h : 0 < x0_1.size, ((x0_1[0]'h).toNat : Int) = bt x0_1 0 := bt_at x0_1 0
                  clear p5
                  have qi5 : (0 < (x0_1.size : Int)) = True := eq_true (of_decide_eq_true (by first | (with_reducible assumption) | assumption))
                  replace q5 := eq_true q5
                  have p8 : 0 ≤ (0 : Int) := (by omega)
                  have q8 : 0 < x0_1.size := (by have : (0 : Int) < (x0_1.size : Int) := of_decide_eq_true (by first | (with_reducible assumption) | assumption); omega)
                  have hx8 : ∀ h : 0 < x0_1.size, ((x0_1[0]'h).toNat : Int) = bt x0_1 0 := bt_at x0_1 0
                  clear p8
                  have qi8 : (0 < (x0_1.size : Int)) = True := eq_true (of_decide_eq_true (by first | (with_reducible assumption) | assumption))
                  replace q8 := eq_true q8
                  go_wp2
                  go_roundg k1
                  case measure => have := HK1.out; omega
                  case rel => exact ⟨(x0_1.extract 1 x0_1.size), (by first | rfl | (simp; done) | (simp [*]; done)), H', ⟨by have := HK1.out; omega⟩, by repeat (first | exact Drawn0.refl _ | apply Drawn0.step)⟩
                · rw [if_neg c10] at H
                  exact absurd H (by simp)
              · rw [if_neg c9] at H
                have c9b0 : ((bt x0_1 0) == 9) = false := beq_eq_false_iff_ne.mpr c9
                have c9b1 : ((bt x0_1 0) != 9) = true := bne_iff_ne.mpr c9
                have H' := Aside0.mk H
                clear H
                have p5 : 0 ≤ (0 : Int) := (by omega)
                have q5 : 0 < x0_1.size := (by have : (0 : Int) < (x0_1.size : Int) := of_decide_eq_true (by first | (with_reducible assumption) | assumption); omega)
                have hx5 : ∀ h : 0 < x0_1.size, ((x0_1[0]'h).toNat : Int) = bt x0_1 0 := bt_at x0_1 0
                clear p5
                have qi5 : (0 < (x0_1.size : Int)) = True := eq_true (of_decide_eq_true (by first | (with_reducible assumption) | assumption))
                replace q5 := eq_true q5
                have p8 : 0 ≤ (0 : Int) := (by omega)
                have q8 : 0 < x0_1.size := (by have : (0 : Int) < (x0_1.size : Int) := of_decide_eq_true (by first | (with_reducible assumption) | assumption); omega)
                have hx8 : ∀ h : 0 < x0_1.size, ((x0_1[0]'h).toNat : Int) = bt x0_1 0 := bt_at x0_1 0
                clear p8
                have qi8 : (0 < (x0_1.size : Int)) = True := eq_true (of_decide_eq_true (by first | (with_reducible assumption) | assumption))
                replace q8 := eq_true q8
                go_wp2
                go_meet
                case rel => exact ⟨_, (x0_1), (by first | rfl | (simp; done) | (simp [*]; done)), H', ⟨by have := HK1.out; first | omega | exact Nat.le_refl _⟩, by repeat (first | exact Drawn0.refl _ | apply Drawn0.step)⟩
          · rw [if_neg c4] at H
            exact absurd H (by simp)
        · rw [if_neg c3] at H
          have c3b0 : decide (0 < (x0_1.size : Int)) = false := decide_eq_false c3
          have c3b1 : decide (0 < x0_1.size) = false := decide_eq_false (by omega)
          clear c3
          (first | rw [c3b0] | (simp only [i64_w, i32_w]; rw [c3b0]) | skip)
          have H' := Aside0.mk H
          clear H
          go_wp2
          go_meet
          case rel => exact ⟨_, (x0_1), (by first | rfl | (simp; done) | (simp [*]; done)), H', ⟨by have := HK1.out; first | omega | exact Nat.le_refl _⟩, by repeat (first | exact Drawn0.refl _ | apply Drawn0.step)⟩
  case rest =>
    clear HC2
    try clear c1
    try clear p2
    try clear c3
    try clear c3b0
    try clear c3b1
    try clear c4
    try clear c4b0
    try clear c4b1
    try clear c5
    try clear p5
    try clear q5
    try clear hx5
    try clear qi5
    try clear c6
    try clear c6b0
    try clear c6b1
    try clear c7
    try clear c7b0
    try clear c7b1
    try clear p8
    try clear q8
    try clear hx8
    try clear qi8
    try clear c9
    try clear c9b0
    try clear c9b1
    try clear c10
    try clear c10b0
    try clear c10b1
    try clear p2
    try clear p5
    try clear p8
    try clear q5
    try clear q8
    obtain ⟨kq, x0_1, rfl, HA, HJ1, ⟨mc1, rfl⟩⟩ := hcut
    cases kq with
    | zero => exact absurd HA.out (by simp [abutmentref01_Trim.j1])
    | succ kj1 =>
      have H := HA.out
      clear HA
      simp only [abutmentref01_Trim.j1] at H
      have H' := Aside0.mk H
      clear H
      go_wp2
      go_loopg [0] kj1 (fun kq v0 w' => ∃ (x0_2 : ByteArray), v0 = .string x0_2 ∧ Aside0 (abutmentref01_Trim.l1 kq x0_2 = some r) ∧ Aside0 (kq ≤ kj1) ∧ Drawn0 w w')
      case atStart => exact ⟨(x0_1), (by first | rfl | (simp; done) | (simp [*]; done)), H', ⟨Nat.le_refl _⟩, by repeat (first | exact Drawn0.refl _ | apply Drawn0.step)⟩
      case round =>
        clear H'
        try clear c1
        try clear p2
        try clear c3
        try clear c3b0
        try clear c3b1
        try clear c4
        try clear c4b0
        try clear c4b1
        try clear c5
        try clear p5
        try clear q5
        try clear hx5
        try clear qi5
        try clear c6
        try clear c6b0
        try clear c6b1
        try clear c7
        try clear c7b0
        try clear c7b1
        try clear p8
        try clear q8
        try clear hx8
        try clear qi8
        try clear c9
        try clear c9b0
        try clear c9b1
        try clear c10
        try clear c10b0
        try clear c10b1
        try clear p2
        try clear p5
        try clear p8
        try clear q5
        try clear q8
        obtain ⟨x0_2, rfl, HA, HK2, ⟨m2, rfl⟩⟩ := hrel
        cases gk with
        | zero => exact absurd HA.out (by simp [abutmentref01_Trim.l1])
        | succ k2 =>
          have H := HA.out
          clear HA
          simp only [abutmentref01_Trim.l1] at H
          by_cases c11 : (x0_2.size : Int) > 0
          · rw [if_pos c11] at H
            have c11b0 : decide (0 < (x0_2.size : Int)) = true := decide_eq_true c11
            have c11b1 : decide (0 < x0_2.size) = true := decide_eq_true (by omega)
            clear c11
            obtain ⟨ji12, hji12⟩ : ∃ j_ : Int, (wrap64 ((x0_2.size : Int) - 1)) = j_ := ⟨_, rfl⟩
            replace H : (if 0 ≤ (ji12) then (if (ji12) < (x0_2.size : Int) then (if (bt x0_2 (ji12)) = 32 then (if (ji12) ≤ (x0_2.size : Int) then (abutmentref01_Trim.l1 k2 (x0_2.extract 0 ((ji12) : Int).toNat)) else (none)) else (if (bt x0_2 (ji12)) = 9 then (if (ji12) ≤ (x0_2.size : Int) then (abutmentref01_Trim.l1 k2 (x0_2.extract 0 ((ji12) : Int).toNat)) else (none)) else (some x0_2))) else (none)) else (none)) = some r := by first | (rw [hji12] at H; exact H) | (simp only [hji12] at H ⊢; exact H)
            have hji12w : (IntKind.i64.wrap ((x0_2.size : Int) - 1)) = ji12 := (i64_w _).trans hji12
            by_cases c13 : 0 ≤ (ji12)
            · rw [if_pos c13] at H
              have c13b0 : decide (0 ≤ (ji12)) = true := decide_eq_true c13
              clear c13
              by_cases c14 : (ji12) < (x0_2.size : Int)
              · rw [if_pos c14] at H
                have c14b0 : decide ((ji12) < (x0_2.size : Int)) = true := decide_eq_true c14
                clear c14
                by_cases c16 : (bt x0_2 (ji12)) = 32
                · rw [if_pos c16] at H
                  have c16b0 : ((bt x0_2 (ji12)) == 32) = true := beq_iff_eq.mpr c16
                  have c16b1 : ((bt x0_2 (ji12)) != 32) = false := bne_eq_false_iff_eq.mpr c16
                  clear c16
                  have c17b0 := eq_true (of_decide_eq_true (by first | (with_reducible assumption) | assumption) : 0 ≤ (ji12))
                  by_cases c18 : (ji12) ≤ (x0_2.size : Int)
                  · rw [if_pos c18] at H
                    have c18b0 := eq_true c18
                    have c18b1 : decide ((ji12) ≤ (x0_2.size : Int)) = true := decide_eq_true c18
                    clear c18
                    have H' := Aside0.mk H
                    clear H
                    have p15 : 0 ≤ ((ji12) : Int) := of_decide_eq_true (by first | (with_reducible assumption) | assumption)
                    have q15 : (ji12) < (x0_2.size : Int) := of_decide_eq_true (by first | (with_reducible assumption) | assumption)
                    have hx15 := bt_at x0_2 (ji12)
                    replace p15 := eq_true p15
                    replace q15 := eq_true q15
                    go_wp2
                    go_roundg k2
                    case measure => have := HJ1.out; have := HK2.out; omega
                    case rel => exact ⟨(x0_2.extract 0 ((ji12) : Int).toNat), (by first | rfl | (simp; done) | (simp only [← hji12] <;> (first | rfl | simp)) | (simp [*]; done)), H', ⟨by have := HJ1.out; have := HK2.out; omega⟩, by repeat (first | exact Drawn0.refl _ | apply Drawn0.step)⟩
                  · rw [if_neg c18] at H
                    exact absurd H (by simp)
                · rw [if_neg c16] at H
                  have c16b0 : ((bt x0_2 (ji12)) == 32) = false := beq_eq_false_iff_ne.mpr c16
                  have c16b1 : ((bt x0_2 (ji12)) != 32) = true := bne_iff_ne.mpr c16
                  by_cases c20 : (bt x0_2 (ji12)) = 9
                  · rw [if_pos c20] at H
                    have c20b0 : ((bt x0_2 (ji12)) == 9) = true := beq_iff_eq.mpr c20
                    have c20b1 : ((bt x0_2 (ji12)) != 9) = false := bne_eq_false_iff_eq.mpr c20
                    clear c20
                    have c21b0 := eq_true (of_decide_eq_true (by first | (with_reducible assumption) | assumption) : 0 ≤ (ji12))
                    by_cases c22 : (ji12) ≤ (x0_2.size : Int)
                    · rw [if_pos c22] at H
                      have c22b0 := eq_true c22
                      have c22b1 : decide ((ji12) ≤ (x0_2.size : Int)) = true := decide_eq_true c22
                      clear c22
                      have H' := Aside0.mk H
                      clear H
                      have p15 : 0 ≤ ((ji12) : Int) := of_decide_eq_true (by first | (with_reducible assumption) | assumption)
                      have q15 : (ji12) < (x0_2.size : Int) := of_decide_eq_true (by first | (with_reducible assumption) | assumption)
                      have hx15 := bt_at x0_2 (ji12)
                      replace p15 := eq_true p15
                      replace q15 := eq_true q15
                      have p19 : 0 ≤ ((ji12) : Int) := of_decide_eq_true (by first | (with_reducible assumption) | assumption)
                      have q19 : (ji12) < (x0_2.size : Int) := of_decide_eq_true (by first | (with_reducible assumption) | assumption)
                      have hx19 := bt_at x0_2 (ji12)
                      replace p19 := eq_true p19
                      replace q19 := eq_true q19
                      go_wp2
                      go_roundg k2
                      case measure => have := HJ1.out; have := HK2.out; omega
                      case rel => exact ⟨(x0_2.extract 0 ((ji12) : Int).toNat), (by first | rfl | (simp; done) | (simp only [← hji12] <;> (first | rfl | simp)) | (simp [*]; done)), H', ⟨by have := HJ1.out; have := HK2.out; omega⟩, by repeat (first | exact Drawn0.refl _ | apply Drawn0.step)⟩
                    · rw [if_neg c22] at H
                      exact absurd H (by simp)
                  · rw [if_neg c20] at H
                    have c20b0 : ((bt x0_2 (ji12)) == 9) = false := beq_eq_false_iff_ne.mpr c20
                    have c20b1 : ((bt x0_2 (ji12)) != 9) = true := bne_iff_ne.mpr c20
                    obtain rfl := Option.some.inj H
                    have p15 : 0 ≤ ((ji12) : Int) := of_decide_eq_true (by first | (with_reducible assumption) | assumption)
                    have q15 : (ji12) < (x0_2.size : Int) := of_decide_eq_true (by first | (with_reducible assumption) | assumption)
                    have hx15 := bt_at x0_2 (ji12)
                    replace p15 := eq_true p15
                    replace q15 := eq_true q15
                    have p19 : 0 ≤ ((ji12) : Int) := of_decide_eq_true (by first | (with_reducible assumption) | assumption)
                    have q19 : (ji12) < (x0_2.size : Int) := of_decide_eq_true (by first | (with_reducible assumption) | assumption)
                    have hx19 := bt_at x0_2 (ji12)
                    replace p19 := eq_true p19
                    replace q19 := eq_true q19
                    go_wp2
                    go_ret
                    exact ⟨by first | rfl | (simp; done) | (simp only [← hji12] <;> (first | rfl | simp)) | (simp [*]; done), by repeat (first | exact Drawn0.refl _ | apply Drawn0.step)⟩
              · rw [if_neg c14] at H
                exact absurd H (by simp)
            · rw [if_neg c13] at H
              exact absurd H (by simp)
          · rw [if_neg c11] at H
            have c11b0 : decide (0 < (x0_2.size : Int)) = false := decide_eq_false c11
            have c11b1 : decide (0 < x0_2.size) = false := decide_eq_false (by omega)
            clear c11
            obtain rfl := Option.some.inj H
            go_wp2
            go_ret
            exact ⟨by first | rfl | (simp; done) | (simp [*]; done), by repeat (first | exact Drawn0.refl _ | apply Drawn0.step)⟩

end Go.Proofs.Ytkjkbenmoogdjaa.X
namespace Go.Proofs.Ytkjkbenmoogdjaa.X
open Go.RowKit Go.Proofs.YtkjkbenmoogdjaaW.PrintWords Go.Proofs.YtkjkbenmoogdjaaW.PrintLast Go.Proofs.YtkjkbenmoogdjaaW.PrintMore
attribute [local go_sem] max2_int min2_int max_two min_two max_three min_three max_four min_four   -- for this text's walks alone
set_option linter.unusedVariables false
set_option linter.unusedSimpArgs false

/-! ### abutmentref07_Split: function 20 -/
mutual
def abutmentref07_Split.l0 : Nat → ByteArray → List ByteArray → Int → Int → Option (List ByteArray × Bool)
  | 0, _, _, _, _ => none
  | k + 1, x0, x4, x5, x6 => if x6 < (x0.size : Int) then (if 0 ≤ x6 then (if (bt x0 x6) = 34 then (abutmentref07_Split.j1 k x0 x4 x5 x6 true) else (abutmentref07_Split.j1 k x0 x4 x5 x6 ((bt x0 x6) == 40))) else (none)) else (if 0 ≤ x5 then (if x5 ≤ (x0.size : Int) then (if x4.length < 8796093022208 then (abutmentref07_Split.l1 k (x4 ++ [x0.extract (x5 : Int).toNat x0.size]) (([] : List ByteArray)) 0) else (none)) else (none)) else (none))
def abutmentref07_Split.j1 : Nat → ByteArray → List ByteArray → Int → Int → Bool → Option (List ByteArray × Bool)
  | 0, _, _, _, _, _ => none
  | k + 1, x0, x4, x5, x6, x24 => if x24 = true then ((abutmentref07_Behind.f x0 x6).bind fun t104 => (if t104 < 0 then (some (([] : List ByteArray), false)) else (abutmentref07_Split.l0 k x0 x4 x5 t104))) else (if 0 ≤ x6 then (if x6 < (x0.size : Int) then (if (bt x0 x6) = 44 then (if 0 ≤ x5 then (if x5 ≤ x6 then (if x6 ≤ (x0.size : Int) then (if x4.length < 8796093022208 then (abutmentref07_Split.l0 k x0 (x4 ++ [x0.extract (x5 : Int).toNat (x6 : Int).toNat]) (wrap64 (x6 + 1)) (wrap64 (x6 + 1))) else (none)) else (none)) else (none)) else (none)) else (abutmentref07_Split.l0 k x0 x4 x5 (wrap64 (x6 + 1)))) else (none)) else (none))
def abutmentref07_Split.l1 : Nat → List ByteArray → List ByteArray → Int → Option (List ByteArray × Bool)
  | 0, _, _, _ => none
  | k + 1, x4, x7, x8 => if x8 < (x4.length : Int) then (if 0 ≤ x8 then ((abutmentref01_Trim.f k (rdOf ByteArray.empty x4 x8)).bind fun t115 => (if t115.toList = ([] : List UInt8) then (abutmentref07_Split.l1 k x4 x7 (wrap64 (x8 + 1))) else (if x7.length < 8796093022208 then (abutmentref07_Split.l1 k x4 (x7 ++ [t115]) (wrap64 (x8 + 1))) else (none)))) else (none)) else (some (x7, true))
end
def abutmentref07_Split.f (k : Nat) (a0 : ByteArray) : Option (List ByteArray × Bool) := abutmentref07_Split.l0 k a0 (([] : List ByteArray)) 0 0
theorem abutmentref07_Split.mono_l : ∀ k, (∀ y0 y1 y2 y3, LeO (abutmentref07_Split.l0 k y0 y1 y2 y3) (abutmentref07_Split.l0 (k + 1) y0 y1 y2 y3)) ∧ (∀ y0 y1 y2 y3 y4, LeO (abutmentref07_Split.j1 k y0 y1 y2 y3 y4) (abutmentref07_Split.j1 (k + 1) y0 y1 y2 y3 y4)) ∧ (∀ y0 y1 y2, LeO (abutmentref07_Split.l1 k y0 y1 y2) (abutmentref07_Split.l1 (k + 1) y0 y1 y2))
  | 0 => ⟨fun _ _ _ _ r h => by simp [abutmentref07_Split.l0] at h, fun _ _ _ _ _ r h => by simp [abutmentref07_Split.j1] at h, fun _ _ _ r h => by simp [abutmentref07_Split.l1] at h⟩
  | k + 1 => by
    obtain ⟨ih0, ih1, ih2⟩ := abutmentref07_Split.mono_l k
    refine ⟨?_, ?_, ?_⟩
    · intro y0 y1 y2 y3
      unfold abutmentref07_Split.l0
      repeat' first
      | (with_reducible exact ih0 _ _ _ _)
      | (with_reducible exact ih1 _ _ _ _ _)
      | (with_reducible exact ih2 _ _ _)
      | (with_reducible exact abutmentref01_Trim.mono _ _)
      | (with_reducible exact LeO.refl _)
      | (with_reducible exact LeO.none _)
      | (with_reducible refine LeO.ite ?_ ?_)
      | (with_reducible refine LeO.bind ?_ (fun _ => ?_))
      | exact ih0 _ _ _ _
      | exact ih1 _ _ _ _ _
      | exact ih2 _ _ _
      | exact abutmentref01_Trim.mono _ _
      | exact LeO.none _
      | refine LeO.ite ?_ ?_
      | refine LeO.bind ?_ (fun _ => ?_)
    · intro y0 y1 y2 y3 y4
      unfold abutmentref07_Split.j1
      repeat' first
      | (with_reducible exact ih0 _ _ _ _)
      | (with_reducible exact ih1 _ _ _ _ _)
      | (with_reducible exact ih2 _ _ _)
      | (with_reducible exact abutmentref01_Trim.mono _ _)
      | (with_reducible exact LeO.refl _)
      | (with_reducible exact LeO.none _)
      | (with_reducible refine LeO.ite ?_ ?_)
      | (with_reducible refine LeO.bind ?_ (fun _ => ?_))
      | exact ih0 _ _ _ _
      | exact ih1 _ _ _ _ _
      | exact ih2 _ _ _
      | exact abutmentref01_Trim.mono _ _
      | exact LeO.none _
      | refine LeO.ite ?_ ?_
      | refine LeO.bind ?_ (fun _ => ?_)
    · intro y0 y1 y2
      unfold abutmentref07_Split.l1
      repeat' first
      | (with_reducible exact ih0 _ _ _ _)
      | (with_reducible exact ih1 _ _ _ _ _)
      | (with_reducible exact ih2 _ _ _)
      | (with_reducible exact abutmentref01_Trim.mono _ _)
      | (with_reducible exact LeO.refl _)
      | (with_reducible exact LeO.none _)
      | (with_reducible refine LeO.ite ?_ ?_)
      | (with_reducible refine LeO.bind ?_ (fun _ => ?_))
      | exact ih0 _ _ _ _
      | exact ih1 _ _ _ _ _
      | exact ih2 _ _ _
      | exact abutmentref01_Trim.mono _ _
      | exact LeO.none _
      | refine LeO.ite ?_ ?_
      | refine LeO.bind ?_ (fun _ => ?_)
theorem abutmentref07_Split.mono : ∀ a0 k, LeO (abutmentref07_Split.f k a0) (abutmentref07_Split.f (k + 1) a0) := by
  intro a0 k
  obtain ⟨ih0, ih1, ih2⟩ := abutmentref07_Split.mono_l k
  unfold abutmentref07_Split.f
  repeat' first
      | (with_reducible exact ih0 _ _ _ _)
      | (with_reducible exact ih1 _ _ _ _ _)
      | (with_reducible exact ih2 _ _ _)
      | (with_reducible exact abutmentref01_Trim.mono _ _)
      | (with_reducible exact LeO.refl _)
      | (with_reducible exact LeO.none _)
      | (with_reducible refine LeO.ite ?_ ?_)
      | (with_reducible refine LeO.bind ?_ (fun _ => ?_))
      | exact ih0 _ _ _ _
      | exact ih1 _ _ _ _ _
      | exact ih2 _ _ _
      | exact abutmentref01_Trim.mono _ _
      | exact LeO.none _
      | refine LeO.ite ?_ ?_
      | refine LeO.bind ?_ (fun _ => ?_)
set_option maxHeartbeats 8000000 in
set_option maxRecDepth 100000 in
theorem abutmentref07_Split.calls (k : Nat) (a0 : ByteArray) (r1 : List ByteArray) (r2 : Bool) (w : World) (h : abutmentref07_Split.f k a0 = some (r1, r2)) :
    Calls Try.prog 20 #[.string a0] w fun e w' => ∃ v0_ : Value, e = .returned (.tuple #[v0_, .bool r2]) ∧ Kd.R Kd.string 9 w' w.heap.size (fun _ => True) v0_ r1 ∧ Below w.heap.size w w' := by
  have HB := Aside0.mk (Below.refl w.heap.size w)
  have H : (abutmentref07_Split.l0 k a0 (([] : List ByteArray)) 0 0) = some (r1, r2) := h
  clear h
  obtain ⟨y101, hy101⟩ : ∃ y_ : List ByteArray, y_ = (([] : List ByteArray)) := ⟨_, rfl⟩
  replace H : (abutmentref07_Split.l0 k a0 y101 0 0) = some (r1, r2) := by first | (rw [hy101]; with_reducible exact H) | (have H2_ := (Option.bind_some _ _).symm.trans H; rw [hy101]; with_reducible exact H2_) | (have H2_ := (Option.bind_some _ _).symm.trans H; with_reducible exact H2_) | with_reducible exact H | (rw [hy101]; exact H) | exact H
  have Ny101 := Aside0.mk hy101
  clear hy101
  have H' := Aside0.mk H
  clear H
  go_enter Try.func20, Try.ntmps20
  go_wp2_with (first | ((with_reducible refine gate_dst (N := 10) rfl ?_); refine Kd.R_lit Kd.string _ 9 ?hg (N := 10) ?hd (xs := ([] : List ByteArray)) (inner := []) (ok := fun _ => True) (okp := fun _ => True) ?hr ?hp (fun _ hk => hk) trivial (Below.refl _ _) (Nat.le_refl _) (by simp) ?_; (case hd => rfl); (case hg => rfl); (case hr => first | (go_simp; done) | (go_simp; rfl)); (case hp => exact (Reps.none _ _)); intro v102 w2 ho3 hb hg_ hnew_; clear hg_ hnew_; (first | rw [← Ny101.out] at ho3 | (simp only [Int.reduceToNat] at ho3; rw [← Ny101.out] at ho3)); have n0_ := Aside0.mk (Kd.R_lower ho3 (below_size (by repeat (first | (with_reducible first | exact HB.out | apply below_alloc | apply pw_below_drewN | apply below_drew1) | exact HB.out)))); have n1_ := Aside0.mk (below_step (by repeat (first | (with_reducible first | exact HB.out | apply below_alloc | apply pw_below_drewN | apply below_drew1) | exact HB.out)) hb); clear HB; have HO103 := n0_; have HB := n1_; clear n0_ n1_; clear hb ho3))
  go_loopg [4, 5, 6] k (fun kq v4 v5 v6 w' => ∃ (x4_1 : List ByteArray) (x5_1 : Int) (x6_1 : Int), v5 = .int .i64 x5_1 ∧ v6 = .int .i64 x6_1 ∧ Aside0 (abutmentref07_Split.l0 kq a0 x4_1 x5_1 x6_1 = some (r1, r2)) ∧ Aside0 (kq ≤ k) ∧ Aside0 (Kd.R Kd.string 9 w' w.heap.size (fun _ => True) v4 x4_1) ∧ Aside0 (Below w.heap.size w w'))
  case atStart => exact ⟨(y101), (0), (0), (by first | rfl | (simp; done) | (simp [*]; done)), (by first | rfl | (simp; done) | (simp [*]; done)), H', ⟨Nat.le_refl _⟩, ⟨by (with_reducible repeat (first | apply Kd.R_alloc | apply Kd.R_drewN | apply Kd.R_drew)); exact HO103.out⟩, ⟨by repeat (first | (with_reducible first | exact HB.out | apply below_alloc | apply pw_below_drewN | apply below_drew1) | exact HB.out)⟩⟩
  case round =>
    clear H'
    try clear c2
    try clear p2
    obtain ⟨x4_1, x5_1, x6_1, rfl, rfl, HA, HK1, HO_4, HB⟩ := hrel
    cases gk with
    | zero => exact absurd HA.out (by simp [abutmentref07_Split.l0])
    | succ k1 =>
      have H := HA.out
      clear HA
      simp only [abutmentref07_Split.l0] at H
      by_cases c4 : x6_1 < (a0.size : Int)
      · rw [if_pos c4] at H
        have c4b0 : decide (x6_1 < (a0.size : Int)) = true := decide_eq_true c4
        clear c4
        have HC5 := Aside0.mk H
        clear H
        go_upto_region 3 with (fail)
        go_cut [24] (fun v24 wc => ∃ (kq : Nat) (x24_4 : Bool), v24 = .bool x24_4 ∧ Aside0 (abutmentref07_Split.j1 kq a0 x4_1 x5_1 x6_1 x24_4 = some (r1, r2)) ∧ Aside0 (kq ≤ k1) ∧ Aside0 (Kd.R Kd.string 9 wc w.heap.size (fun _ => True) u4 x4_1) ∧ Aside0 (Below w.heap.size w wc))
        case first =>
          have H := HC5.out
          clear HC5
          by_cases c6 : 0 ≤ x6_1
          · rw [if_pos c6] at H
            have c6b0 : decide (0 ≤ x6_1) = true := decide_eq_true c6
            clear c6
            (first | rw [c6b0] | (simp only [i64_w, i32_w]; rw [c6b0]) | skip)
            by_cases c8 : (bt a0 x6_1) = 34
            · rw [if_pos c8] at H
              have c8b0 : ((bt a0 x6_1) == 34) = true := beq_iff_eq.mpr c8
              have c8b1 : ((bt a0 x6_1) != 34) = false := bne_eq_false_iff_eq.mpr c8
              clear c8
              have H' := Aside0.mk H
              clear H
              have p7 : 0 ≤ (x6_1 : Int) := of_decide_eq_true (by first | (with_reducible assumption) | assumption)
              have q7 : x6_1 < (a0.size : Int) := of_decide_eq_true (by first | (with_reducible assumption) | assumption)
              have hx7 := bt_at a0 x6_1
              replace p7 := eq_true p7
              replace q7 := eq_true q7
              go_wp2
              go_meet
              case rel => exact ⟨_, (true), (by first | rfl | (simp; done) | (simp [*]; done)), H', ⟨by have := HK1.out; first | omega | exact Nat.le_refl _⟩, ⟨by (with_reducible repeat (first | apply Kd.R_alloc | apply Kd.R_drewN | apply Kd.R_drew)); exact HO_4.out⟩, ⟨by repeat (first | (with_reducible first | exact HB.out | apply below_alloc | apply pw_below_drewN | apply below_drew1) | exact HB.out)⟩⟩
            · rw [if_neg c8] at H
              have c8b0 : ((bt a0 x6_1) == 34) = false := beq_eq_false_iff_ne.mpr c8
              have c8b1 : ((bt a0 x6_1) != 34) = true := bne_iff_ne.mpr c8
              have H' := Aside0.mk H
              clear H
              have p7 : 0 ≤ (x6_1 : Int) := of_decide_eq_true (by first | (with_reducible assumption) | assumption)
              have q7 : x6_1 < (a0.size : Int) := of_decide_eq_true (by first | (with_reducible assumption) | assumption)
              have hx7 := bt_at a0 x6_1
              replace p7 := eq_true p7
              replace q7 := eq_true q7
              have p9 : 0 ≤ (x6_1 : Int) := of_decide_eq_true (by first | (with_reducible assumption) | assumption)
              have q9 : x6_1 < (a0.size : Int) := of_decide_eq_true (by first | (with_reducible assumption) | assumption)
              have hx9 := bt_at a0 x6_1
              replace p9 := eq_true p9
              replace q9 := eq_true q9
              go_wp2
              go_meet
              case rel => exact ⟨_, (((bt a0 x6_1) == 40)), (by first | rfl | (simp; done) | (simp [*]; done)), H', ⟨by have := HK1.out; first | omega | exact Nat.le_refl _⟩, ⟨by (with_reducible repeat (first | apply Kd.R_alloc | apply Kd.R_drewN | apply Kd.R_drew)); exact HO_4.out⟩, ⟨by repeat (first | (with_reducible first | exact HB.out | apply below_alloc | apply pw_below_drewN | apply below_drew1) | exact HB.out)⟩⟩
          · rw [if_neg c6] at H
            exact absurd H (by simp)
        case rest =>
          clear HC5
          try clear c2
          try clear p2
          try clear c4
          try clear c4b0
          try clear c6
          try clear c6b0
          try clear p7
          try clear q7
          try clear hx7
          try clear c8
          try clear c8b0
          try clear c8b1
          try clear p9
          try clear q9
          try clear hx9
          try clear p2
          try clear p7
          try clear p9
          try clear q7
          try clear q9
          obtain ⟨kq, x24_4, rfl, HA, HJ4, HO_4, HB⟩ := hcut
          cases kq with
          | zero => exact absurd HA.out (by simp [abutmentref07_Split.j1])
          | succ kj4 =>
            have H := HA.out
            clear HA
            simp only [abutmentref07_Split.j1] at H
            by_cases c10 : x24_4 = true
            · subst c10
              have H1 : ((abutmentref07_Behind.f a0 x6_1).bind fun t104 => (if t104 < 0 then (some (([] : List ByteArray), false)) else (abutmentref07_Split.l0 kj4 a0 x4_1 x5_1 t104))) = some (r1, r2) := by rw [if_pos rfl] at H; exact H
              clear H
              have H := H1
              clear H1
              replace H := Option.bind_eq_some_iff.mp H
              obtain ⟨t104, A110, H⟩ := H
              replace H : (if t104 < 0 then (some (([] : List ByteArray), false)) else (abutmentref07_Split.l0 kj4 a0 x4_1 x5_1 t104)) = some (r1, r2) := H
              have A11 := Aside0.mk A110
              clear A110
              by_cases c12 : t104 < 0
              · rw [if_pos c12] at H
                have c12b0 : decide (t104 < 0) = true := decide_eq_true c12
                clear c12
                simp only [Option.some.injEq, Prod.mk.injEq] at H
                obtain ⟨rfl, rfl⟩ := H
                go_wp2_with (first | ((with_reducible refine gate_callee (f := 55) rfl ?_); refine goesL_ (some 27) rfl rfl Try.func55 (by kernel_rfl) rfl #[.string a0, .int .i64 x6_1] rfl (by (try simp only [List.map_toArray, List.map_cons, List.map_nil]); first | done | rfl | (simp only [List.length_drop, List.length_take]; rfl)) ?_; (with_reducible refine (abutmentref07_Behind.calls a0 x6_1 t104 _ A11.out).mono ?_); rintro e w' ⟨rfl, ⟨nd, rfl⟩⟩; refine ⟨_, rfl, ?_⟩))
                go_ret2
                exact ⟨_, by first | rfl | (simp [errW_none, errW_some] <;> rfl) | (simp [*, errW_none, errW_some] <;> rfl), by first | exact Kd.R_nil _ _ _ _ _ | exact Kd.N_nil _ _ _ _ _ | exact Kd.V_nil _ _ _ _ _ | exact Kd.Q_nil _ _ _ _ _ | exact Kd.S_nil _ _ _ _ _, by repeat (first | (with_reducible first | exact HB.out | apply below_alloc | apply pw_below_drewN | apply below_drew1) | exact HB.out)⟩
              · rw [if_neg c12] at H
                have c12b0 : decide (t104 < 0) = false := decide_eq_false c12
                clear c12
                have H' := Aside0.mk H
                clear H
                go_wp2_with (first | ((with_reducible refine gate_callee (f := 55) rfl ?_); refine goesL_ (some 27) rfl rfl Try.func55 (by kernel_rfl) rfl #[.string a0, .int .i64 x6_1] rfl (by (try simp only [List.map_toArray, List.map_cons, List.map_nil]); first | done | rfl | (simp only [List.length_drop, List.length_take]; rfl)) ?_; (with_reducible refine (abutmentref07_Behind.calls a0 x6_1 t104 _ A11.out).mono ?_); rintro e w' ⟨rfl, ⟨nd, rfl⟩⟩; refine ⟨_, rfl, ?_⟩))
                go_roundg kj4
                case measure => have := HK1.out; have := HJ4.out; omega
                case rel => exact ⟨(x4_1), (x5_1), (t104), (by first | rfl | (simp; done) | (simp [*]; done)), (by first | rfl | (simp; done) | (simp [*]; done)), H', ⟨by have := HK1.out; have := HJ4.out; omega⟩, ⟨by (with_reducible repeat (first | apply Kd.R_alloc | apply Kd.R_drewN | apply Kd.R_drew)); exact HO_4.out⟩, ⟨by repeat (first | (with_reducible first | exact HB.out | apply below_alloc | apply pw_below_drewN | apply below_drew1) | exact HB.out)⟩⟩
            · replace c10 := Bool.eq_false_iff.mpr c10
              subst c10
              have H1 : (if 0 ≤ x6_1 then (if x6_1 < (a0.size : Int) then (if (bt a0 x6_1) = 44 then (if 0 ≤ x5_1 then (if x5_1 ≤ x6_1 then (if x6_1 ≤ (a0.size : Int) then (if x4_1.length < 8796093022208 then (abutmentref07_Split.l0 kj4 a0 (x4_1 ++ [a0.extract (x5_1 : Int).toNat (x6_1 : Int).toNat]) (wrap64 (x6_1 + 1)) (wrap64 (x6_1 + 1))) else (none)) else (none)) else (none)) else (none)) else (abutmentref07_Split.l0 kj4 a0 x4_1 x5_1 (wrap64 (x6_1 + 1)))) else (none)) else (none)) = some (r1, r2) := by rw [if_neg (show ¬ (false = true) by decide)] at H; exact H
              clear H
              have H := H1
              clear H1
              by_cases c13 : 0 ≤ x6_1
              · rw [if_pos c13] at H
                have c13b0 : decide (0 ≤ x6_1) = true := decide_eq_true c13
                clear c13
                by_cases c14 : x6_1 < (a0.size : Int)
                · rw [if_pos c14] at H
                  have c14b0 : decide (x6_1 < (a0.size : Int)) = true := decide_eq_true c14
                  clear c14
                  by_cases c16 : (bt a0 x6_1) = 44
                  · rw [if_pos c16] at H
                    have c16b0 : ((bt a0 x6_1) == 44) = true := beq_iff_eq.mpr c16
                    have c16b1 : ((bt a0 x6_1) != 44) = false := bne_eq_false_iff_eq.mpr c16
                    clear c16
                    by_cases c17 : 0 ≤ x5_1
                    · rw [if_pos c17] at H
                      have c17b0 := eq_true c17
                      have c17b1 : decide (0 ≤ x5_1) = true := decide_eq_true c17
                      clear c17
                      by_cases c18 : x5_1 ≤ x6_1
                      · rw [if_pos c18] at H
                        have c18b0 := eq_true c18
                        have c18b1 : decide (x5_1 ≤ x6_1) = true := decide_eq_true c18
                        clear c18
                        by_cases c19 : x6_1 ≤ (a0.size : Int)
                        · rw [if_pos c19] at H
                          have c19b0 := eq_true c19
                          have c19b1 : decide (x6_1 ≤ (a0.size : Int)) = true := decide_eq_true c19
                          clear c19
                          by_cases c20 : x4_1.length < 8796093022208
                          · rw [if_pos c20] at H
                            have LMc20 := Aside0.mk c20
                            clear c20
                            obtain ⟨y105, hy105⟩ : ∃ y_ : List ByteArray, y_ = (x4_1 ++ [a0.extract (x5_1 : Int).toNat (x6_1 : Int).toNat]) := ⟨_, rfl⟩
                            replace H : (abutmentref07_Split.l0 kj4 a0 y105 (wrap64 (x6_1 + 1)) (wrap64 (x6_1 + 1))) = some (r1, r2) := by first | (rw [hy105]; with_reducible exact H) | (have H2_ := (Option.bind_some _ _).symm.trans H; rw [hy105]; with_reducible exact H2_) | (have H2_ := (Option.bind_some _ _).symm.trans H; with_reducible exact H2_) | with_reducible exact H | (rw [hy105]; exact H) | exact H
                            have Ny105 := Aside0.mk hy105
                            clear hy105
                            have H' := Aside0.mk H
                            clear H
                            have p15 : 0 ≤ (x6_1 : Int) := of_decide_eq_true (by first | (with_reducible assumption) | assumption)
                            have q15 : x6_1 < (a0.size : Int) := of_decide_eq_true (by first | (with_reducible assumption) | assumption)
                            have hx15 := bt_at a0 x6_1
                            replace p15 := eq_true p15
                            replace q15 := eq_true q15
                            go_wp2_with (first | ((with_reducible refine gate_builtin (b := .append) (xs := #[.tmp 34, .tmp 39]) rfl ?_); at_builtin; refine Kd.R_append Kd.string (w0 := w) w.heap.size rfl (.tmp 34) (.tmp 39) 31 9 (.string ⟨#[]⟩) 16 rfl Try.underlying31 info9 rfl (by decide) (by omega) u4 x4_1 (a0.extract (x5_1 : Int).toNat (x6_1 : Int).toNat) [.string (a0.extract (x5_1 : Int).toNat (x6_1 : Int).toNat)] (fun _ => True) (fun _ => False) rfl rfl ?aP (fun _ hk => hk.elim) ?aF ?aO ?aB ?aS ?aL ?_; (case aP => exact rfl); (case aB => exact (by repeat (first | (with_reducible first | exact HB.out | apply below_alloc | apply pw_below_drewN | apply below_drew1) | exact HB.out))); (case aF => exact (fun _ _ => trivial)); (case aO => exact (by (with_reducible repeat (first | apply Kd.R_alloc | apply Kd.R_drewN | apply Kd.R_drew)); exact HO_4.out)); (case aS => exact (below_size (by repeat (first | (with_reducible first | exact HB.out | apply below_alloc | apply pw_below_drewN | apply below_drew1) | exact HB.out)))); (case aL => have := LMc20.out; omega); intro v106 w21 ho hb hg hat; rw [← Ny105.out] at ho; have n0_ := Aside0.mk (hb); have n1_ := Aside0.mk (ho); clear HB; clear HO_4; have HB := n0_; have HO107 := n1_; clear n0_ n1_; clear ho hb hg hat))
                            go_roundg kj4
                            case measure => have := HK1.out; have := HJ4.out; omega
                            case rel => exact ⟨(y105), (wrap64 (x6_1 + 1)), (wrap64 (x6_1 + 1)), (by first | rfl | (simp; done) | (simp [*]; done)), (by first | rfl | (simp; done) | (simp [*]; done)), H', ⟨by have := HK1.out; have := HJ4.out; omega⟩, ⟨by (with_reducible repeat (first | apply Kd.R_alloc | apply Kd.R_drewN | apply Kd.R_drew)); exact HO107.out⟩, ⟨by repeat (first | (with_reducible first | exact HB.out | apply below_alloc | apply pw_below_drewN | apply below_drew1) | exact HB.out)⟩⟩
                          · rw [if_neg c20] at H
                            exact absurd H (by simp)
                        · rw [if_neg c19] at H
                          exact absurd H (by simp)
                      · rw [if_neg c18] at H
                        exact absurd H (by simp)
                    · rw [if_neg c17] at H
                      exact absurd H (by simp)
                  · rw [if_neg c16] at H
                    have c16b0 : ((bt a0 x6_1) == 44) = false := beq_eq_false_iff_ne.mpr c16
                    have c16b1 : ((bt a0 x6_1) != 44) = true := bne_iff_ne.mpr c16
                    have H' := Aside0.mk H
                    clear H
                    have p15 : 0 ≤ (x6_1 : Int) := of_decide_eq_true (by first | (with_reducible assumption) | assumption)
                    have q15 : x6_1 < (a0.size : Int) := of_decide_eq_true (by first | (with_reducible assumption) | assumption)
                    have hx15 := bt_at a0 x6_1
                    replace p15 := eq_true p15
                    replace q15 := eq_true q15
                    go_wp2
                    go_roundg kj4
                    case measure => have := HK1.out; have := HJ4.out; omega
                    case rel => exact ⟨(x4_1), (x5_1), (wrap64 (x6_1 + 1)), (by first | rfl | (simp; done) | (simp [*]; done)), (by first | rfl | (simp; done) | (simp [*]; done)), H', ⟨by have := HK1.out; have := HJ4.out; omega⟩, ⟨by (with_reducible repeat (first | apply Kd.R_alloc | apply Kd.R_drewN | apply Kd.R_drew)); exact HO_4.out⟩, ⟨by repeat (first | (with_reducible first | exact HB.out | apply below_alloc | apply pw_below_drewN | apply below_drew1) | exact HB.out)⟩⟩
                · rw [if_neg c14] at H
                  exact absurd H (by simp)
              · rw [if_neg c13] at H
                exact absurd H (by simp)
      · rw [if_neg c4] at H
        have c4b0 : decide (x6_1 < (a0.size : Int)) = false := decide_eq_false c4
        clear c4
        by_cases c22 : 0 ≤ x5_1
        · rw [if_pos c22] at H
          have c22b0 := eq_true c22
          have c22b1 : decide (0 ≤ x5_1) = true := decide_eq_true c22
          clear c22
          by_cases c23 : x5_1 ≤ (a0.size : Int)
          · rw [if_pos c23] at H
            have c23b0 := eq_true c23
            have c23b1 : decide (x5_1 ≤ (a0.size : Int)) = true := decide_eq_true c23
            clear c23
            by_cases c24 : x4_1.length < 8796093022208
            · rw [if_pos c24] at H
              have LMc24 := Aside0.mk c24
              clear c24
              obtain ⟨y108, hy108⟩ : ∃ y_ : List ByteArray, y_ = (x4_1 ++ [a0.extract (x5_1 : Int).toNat a0.size]) := ⟨_, rfl⟩
              replace H : (abutmentref07_Split.l1 k1 y108 (([] : List ByteArray)) 0) = some (r1, r2) := by first | (rw [hy108]; with_reducible exact H) | (have H2_ := (Option.bind_some _ _).symm.trans H; rw [hy108]; with_reducible exact H2_) | (have H2_ := (Option.bind_some _ _).symm.trans H; with_reducible exact H2_) | with_reducible exact H | (rw [hy108]; exact H) | exact H
              have Ny108 := Aside0.mk hy108
              clear hy108
              obtain ⟨y111, hy111⟩ : ∃ y_ : List ByteArray, y_ = (([] : List ByteArray)) := ⟨_, rfl⟩
              replace H : (abutmentref07_Split.l1 k1 y108 y111 0) = some (r1, r2) := by first | (rw [hy111]; with_reducible exact H) | (have H2_ := (Option.bind_some _ _).symm.trans H; rw [hy111]; with_reducible exact H2_) | (have H2_ := (Option.bind_some _ _).symm.trans H; with_reducible exact H2_) | with_reducible exact H | (rw [hy111]; exact H) | exact H
              have Ny111 := Aside0.mk hy111
              clear hy111
              have H' := Aside0.mk H
              clear H
              go_wp2_with (first | ((with_reducible refine gate_builtin (b := .append) (xs := #[.tmp 46, .tmp 50]) rfl ?_); at_builtin; refine Kd.R_append Kd.string (w0 := w) w.heap.size rfl (.tmp 46) (.tmp 50) 31 9 (.string ⟨#[]⟩) 16 rfl Try.underlying31 info9 rfl (by decide) (by omega) u4 x4_1 (a0.extract (x5_1 : Int).toNat a0.size) [.string (a0.extract (x5_1 : Int).toNat a0.size)] (fun _ => True) (fun _ => False) rfl rfl ?aP (fun _ hk => hk.elim) ?aF ?aO ?aB ?aS ?aL ?_; (case aP => exact rfl); (case aB => exact (by repeat (first | (with_reducible first | exact HB.out | apply below_alloc | apply pw_below_drewN | apply below_drew1) | exact HB.out))); (case aF => exact (fun _ _ => trivial)); (case aO => exact (by (with_reducible repeat (first | apply Kd.R_alloc | apply Kd.R_drewN | apply Kd.R_drew)); exact HO_4.out)); (case aS => exact (below_size (by repeat (first | (with_reducible first | exact HB.out | apply below_alloc | apply pw_below_drewN | apply below_drew1) | exact HB.out)))); (case aL => have := LMc24.out; omega); intro v109 w25 ho hb hg hat; rw [← Ny108.out] at ho; have n0_ := Aside0.mk (hb); have n1_ := Aside0.mk (ho); clear HB; clear HO_4; have HB := n0_; have HO110 := n1_; clear n0_ n1_; clear ho hb hg hat) | ((with_reducible refine gate_dst (N := 52) rfl ?_); refine Kd.R_lit Kd.string _ 9 ?hg (N := 52) ?hd (xs := ([] : List ByteArray)) (inner := []) (ok := fun _ => True) (okp := fun _ => True) ?hr ?hp (fun _ hk => hk) trivial (Below.refl _ _) (Nat.le_refl _) (by simp) ?_; (case hd => rfl); (case hg => rfl); (case hr => first | (go_simp; done) | (go_simp; rfl)); (case hp => exact (Reps.none _ _)); intro v112 w26 ho27 hb hg_ hnew_; clear hg_ hnew_; (first | rw [← Ny111.out] at ho27 | (simp only [Int.reduceToNat] at ho27; rw [← Ny111.out] at ho27)); have n0_ := Aside0.mk (Kd.R_elder' (by (with_reducible repeat (first | apply Kd.R_alloc | apply Kd.R_drewN | apply Kd.R_drew)); exact HO110.out) (Kd.R_base ho27) hb); have n1_ := Aside0.mk (Kd.R_lower (Kd.R_new' ho27 (Kd.R_lt (by (with_reducible repeat (first | apply Kd.R_alloc | apply Kd.R_drewN | apply Kd.R_drew)); exact HO110.out))) (below_size (by repeat (first | (with_reducible first | exact HB.out | apply below_alloc | apply pw_below_drewN | apply below_drew1) | exact HB.out)))); have n2_ := Aside0.mk (below_step (by repeat (first | (with_reducible first | exact HB.out | apply below_alloc | apply pw_below_drewN | apply below_drew1) | exact HB.out)) hb); clear HO110; clear HB; have HO110 := n0_; have HO113 := n1_; have HB := n2_; clear n0_ n1_ n2_; clear hb ho27))
              go_loopg [7, 8] k1 (fun kq v7 v8 w' => ∃ (x7_2 : List ByteArray) (x8_2 : Int), v8 = .int .i64 x8_2 ∧ Aside0 (abutmentref07_Split.l1 kq y108 x7_2 x8_2 = some (r1, r2)) ∧ Aside0 (kq ≤ k1) ∧ Aside0 (Kd.R Kd.string 9 w' w.heap.size (fun k_ => some k_ ≠ (v7 : Value).ownBlock) v109 y108) ∧ Aside0 (Kd.R Kd.string 9 w' w.heap.size (fun k_ => some k_ ≠ (v109 : Value).ownBlock) v7 x7_2) ∧ Aside0 (Below w.heap.size w w'))
              case atStart => exact ⟨(y111), (0), (by first | rfl | (simp; done) | (simp [*]; done)), H', ⟨Nat.le_refl _⟩, ⟨by (with_reducible repeat (first | apply Kd.R_alloc | apply Kd.R_drewN | apply Kd.R_drew)); exact Kd.R_mono HO110.out (fun _ hk => hk.2)⟩, ⟨by (with_reducible repeat (first | apply Kd.R_alloc | apply Kd.R_drewN | apply Kd.R_drew)); exact Kd.R_mono HO113.out (fun _ hk => hk.2)⟩, ⟨by repeat (first | (with_reducible first | exact HB.out | apply below_alloc | apply pw_below_drewN | apply below_drew1) | exact HB.out)⟩⟩
              case round =>
                clear H'
                try clear c1
                try clear p1
                try clear q1
                try clear hx1
                try clear c2
                try clear p2
                try clear c4
                try clear c4b0
                try clear c5
                try clear c6
                try clear c6b0
                try clear p6
                try clear p7
                try clear q7
                try clear hx7
                try clear c8
                try clear c8b0
                try clear c8b1
                try clear p9
                try clear q9
                try clear hx9
                try clear c10
                try clear c12
                try clear c12b0
                try clear c13
                try clear c13b0
                try clear c14
                try clear c14b0
                try clear p15
                try clear q15
                try clear hx15
                try clear c16
                try clear c16b0
                try clear c16b1
                try clear c17
                try clear c17b0
                try clear c17b1
                try clear c18
                try clear c18b0
                try clear c18b1
                try clear c19
                try clear c19b0
                try clear c19b1
                try clear c20
                try clear c22
                try clear c22b0
                try clear c22b1
                try clear c23
                try clear c23b0
                try clear c23b1
                try clear c24
                try clear p15
                try clear p2
                try clear p7
                try clear p9
                try clear q15
                try clear q7
                try clear q9
                obtain ⟨x7_2, x8_2, rfl, HA, HK2, HO_4, HO_7, HB⟩ := hrel
                cases gk with
                | zero => exact absurd HA.out (by simp [abutmentref07_Split.l1])
                | succ k2 =>
                  have H := HA.out
                  clear HA
                  simp only [abutmentref07_Split.l1] at H
                  by_cases c28 : x8_2 < (y108.length : Int)
                  · rw [if_pos c28] at H
                    have c28b0 : decide (x8_2 < (y108.length : Int)) = true := decide_eq_true c28
                    clear c28
                    by_cases c29 : 0 ≤ x8_2
                    · rw [if_pos c29] at H
                      have c29b0 : decide (0 ≤ x8_2) = true := decide_eq_true c29
                      clear c29
                      replace H := Option.bind_eq_some_iff.mp H
                      obtain ⟨t115, A300, H⟩ := H
                      replace H : (if t115.toList = ([] : List UInt8) then (abutmentref07_Split.l1 k2 y108 x7_2 (wrap64 (x8_2 + 1))) else (if x7_2.length < 8796093022208 then (abutmentref07_Split.l1 k2 y108 (x7_2 ++ [t115]) (wrap64 (x8_2 + 1))) else (none))) = some (r1, r2) := H
                      have A30 := Aside0.mk A300
                      clear A300
                      by_cases c31 : t115.toList = ([] : List UInt8)
                      · rw [if_pos c31] at H
                        have c31b0 : (t115.toList == ([] : List UInt8)) = true := beq_iff_eq.mpr c31
                        have c31b1 : (t115.toList != ([] : List UInt8)) = false := bne_eq_false_iff_eq.mpr c31
                        clear c31
                        have H' := Aside0.mk H
                        clear H
                        obtain ⟨Ao32, co32, eo32⟩ := Kd.R_slice HO_4.out
                        subst eo32
                        have p114 : 0 ≤ (x8_2 : Int) := of_decide_eq_true (by first | (with_reducible assumption) | assumption)
                        have q114 : x8_2 < (y108.length : Int) := of_decide_eq_true (by first | (with_reducible assumption) | assumption)
                        obtain ⟨ad114, e114, hx114_0⟩ := Kd.at_string (Kd.R_reads' HO_4.out).2.2 x8_2 p114 q114
                        cases e114
                        replace p114 := eq_true p114
                        replace q114 := eq_true q114
                        go_wp2_with (first | ((with_reducible refine gate_callee (f := 52) rfl ?_); refine goesL_ (some 63) rfl rfl Try.func52 (by kernel_rfl) rfl #[.string (rdOf ByteArray.empty y108 x8_2)] rfl (by (try simp only [List.map_toArray, List.map_cons, List.map_nil]); first | done | rfl | (simp only [List.length_drop, List.length_take]; rfl)) ?_; (with_reducible refine (abutmentref01_Trim.calls k2 (rdOf ByteArray.empty y108 x8_2) t115 _ A30.out).mono ?_); rintro e w' ⟨rfl, ⟨nd, rfl⟩⟩; refine ⟨_, rfl, ?_⟩))
                        go_roundg k2
                        case measure => have := HK1.out; have := HK2.out; omega
                        case rel => exact ⟨(x7_2), (wrap64 (x8_2 + 1)), (by first | rfl | (simp; done) | (simp [*]; done)), H', ⟨by have := HK1.out; have := HK2.out; omega⟩, ⟨by (with_reducible repeat (first | apply Kd.R_alloc | apply Kd.R_drewN | apply Kd.R_drew)); exact HO_4.out⟩, ⟨by (with_reducible repeat (first | apply Kd.R_alloc | apply Kd.R_drewN | apply Kd.R_drew)); exact HO_7.out⟩, ⟨by repeat (first | (with_reducible first | exact HB.out | apply below_alloc | apply pw_below_drewN | apply below_drew1) | exact HB.out)⟩⟩
                      · rw [if_neg c31] at H
                        have c31b0 : (t115.toList == ([] : List UInt8)) = false := beq_eq_false_iff_ne.mpr c31
                        have c31b1 : (t115.toList != ([] : List UInt8)) = true := bne_iff_ne.mpr c31
                        by_cases c33 : x7_2.length < 8796093022208
                        · rw [if_pos c33] at H
                          have LMc33 := Aside0.mk c33
                          clear c33
                          obtain ⟨y116, hy116⟩ : ∃ y_ : List ByteArray, y_ = (x7_2 ++ [t115]) := ⟨_, rfl⟩
                          replace H : (abutmentref07_Split.l1 k2 y108 y116 (wrap64 (x8_2 + 1))) = some (r1, r2) := by first | (rw [hy116]; with_reducible exact H) | (have H2_ := (Option.bind_some _ _).symm.trans H; rw [hy116]; with_reducible exact H2_) | (have H2_ := (Option.bind_some _ _).symm.trans H; with_reducible exact H2_) | with_reducible exact H | (rw [hy116]; exact H) | exact H
                          have Ny116 := Aside0.mk hy116
                          clear hy116
                          have H' := Aside0.mk H
                          clear H
                          obtain ⟨Ao34, co34, eo34⟩ := Kd.R_slice HO_4.out
                          subst eo34
                          have p114 : 0 ≤ (x8_2 : Int) := of_decide_eq_true (by first | (with_reducible assumption) | assumption)
                          have q114 : x8_2 < (y108.length : Int) := of_decide_eq_true (by first | (with_reducible assumption) | assumption)
                          obtain ⟨ad114, e114, hx114_0⟩ := Kd.at_string (Kd.R_reads' HO_4.out).2.2 x8_2 p114 q114
                          cases e114
                          replace p114 := eq_true p114
                          replace q114 := eq_true q114
                          go_wp2_with (first | ((with_reducible refine gate_callee (f := 52) rfl ?_); refine goesL_ (some 63) rfl rfl Try.func52 (by kernel_rfl) rfl #[.string (rdOf ByteArray.empty y108 x8_2)] rfl (by (try simp only [List.map_toArray, List.map_cons, List.map_nil]); first | done | rfl | (simp only [List.length_drop, List.length_take]; rfl)) ?_; (with_reducible refine (abutmentref01_Trim.calls k2 (rdOf ByteArray.empty y108 x8_2) t115 _ A30.out).mono ?_); rintro e w' ⟨rfl, ⟨nd, rfl⟩⟩; refine ⟨_, rfl, ?_⟩) | ((with_reducible refine gate_builtin (b := .append) (xs := #[.tmp 66, .tmp 68]) rfl ?_); at_builtin; refine Kd.R_append Kd.string (w0 := w) w.heap.size rfl (.tmp 66) (.tmp 68) 31 9 (.string ⟨#[]⟩) 16 rfl Try.underlying31 info9 rfl (by decide) (by omega) u7 x7_2 t115 [.string t115] (fun k_ => some k_ ≠ (.slice (some ad114) y108.length co34 : Value).ownBlock) (fun _ => False) rfl rfl ?aP (fun _ hk => hk.elim) ?aF ?aO ?aB ?aS ?aL ?_; (case aP => exact rfl); (case aB => exact (by repeat (first | (with_reducible first | exact HB.out | apply below_alloc | apply pw_below_drewN | apply below_drew1) | exact HB.out))); (case aF => exact (fun k_ hk => Kd.fresh' (Kd.R_lt (by (with_reducible repeat (first | apply Kd.R_alloc | apply Kd.R_drewN | apply Kd.R_drew)); exact HO_4.out)) k_ hk)); (case aO => exact (by (with_reducible repeat (first | apply Kd.R_alloc | apply Kd.R_drewN | apply Kd.R_drew)); exact HO_7.out)); (case aS => exact (below_size (by repeat (first | (with_reducible first | exact HB.out | apply below_alloc | apply pw_below_drewN | apply below_drew1) | exact HB.out)))); (case aL => have := LMc33.out; omega); intro v117 w35 ho hb hg hat; rw [← Ny116.out] at ho; have n0_ := Aside0.mk (Kd.R_after (ok := (fun _ => True)) (by (with_reducible repeat (first | apply Kd.R_alloc | apply Kd.R_drewN | apply Kd.R_drew)); exact Kd.R_mono HO_4.out (fun _ hk => ⟨trivial, hk⟩)) hg hat); have n1_ := Aside0.mk (hb); have n2_ := Aside0.mk (ho); clear HO_4; clear HB; clear HO_7; have HO_4 := n0_; have HB := n1_; have HO118 := n2_; clear n0_ n1_ n2_; clear ho hb hg hat))
                          go_roundg k2
                          case measure => have := HK1.out; have := HK2.out; omega
                          case rel => exact ⟨(y116), (wrap64 (x8_2 + 1)), (by first | rfl | (simp; done) | (simp [*]; done)), H', ⟨by have := HK1.out; have := HK2.out; omega⟩, ⟨by (with_reducible repeat (first | apply Kd.R_alloc | apply Kd.R_drewN | apply Kd.R_drew)); exact Kd.R_mono HO_4.out (fun _ hk => hk.2)⟩, ⟨by (with_reducible repeat (first | apply Kd.R_alloc | apply Kd.R_drewN | apply Kd.R_drew)); exact HO118.out⟩, ⟨by repeat (first | (with_reducible first | exact HB.out | apply below_alloc | apply pw_below_drewN | apply below_drew1) | exact HB.out)⟩⟩
                        · rw [if_neg c33] at H
                          exact absurd H (by simp)
                    · rw [if_neg c29] at H
                      exact absurd H (by simp)
                  · rw [if_neg c28] at H
                    have c28b0 : decide (x8_2 < (y108.length : Int)) = false := decide_eq_false c28
                    clear c28
                    simp only [Option.some.injEq, Prod.mk.injEq] at H
                    obtain ⟨rfl, rfl⟩ := H
                    obtain ⟨Ao36, co36, eo36⟩ := Kd.R_slice HO_4.out
                    subst eo36
                    go_wp2
                    go_ret2
                    exact ⟨_, by first | rfl | (simp [errW_none, errW_some] <;> rfl) | (simp [*, errW_none, errW_some] <;> rfl), by (with_reducible repeat (first | apply Kd.R_alloc | apply Kd.R_drewN | apply Kd.R_drew)); exact Kd.R_mono HO_7.out (fun _ hk => trivial), by repeat (first | (with_reducible first | exact HB.out | apply below_alloc | apply pw_below_drewN | apply below_drew1) | exact HB.out)⟩
            · rw [if_neg c24] at H
              exact absurd H (by simp)
          · rw [if_neg c23] at H
            exact absurd H (by simp)
        · rw [if_neg c22] at H
          exact absurd H (by simp)

end Go.Proofs.Ytkjkbenmoogdjaa.X
