/- The calendar, the checks of facts, and a step that is right, walked. -/
import Derived.Test.YtnkcgoaafpnbjaaDoorM3
import Derived.Test.YtnkcgoaafpnbjaaDoorM1
import Derived.Test.YtnkcgoaafpnbjaaDoorWEqStruct
import Derived.ChangeKeysEq
import Derived.WalkKit
import Derived.Test.YtnkcgoaafpnbjaaDoorM2
import Derived.Deep.MidRow
/- civil.Number, as a plain function. -/
namespace Go.Proofs.YtnkcgoaafpnbjaaDoor
open Go.RowKit Go.Proofs.YtnkcgoaafpnbjaaDoorW.PrintWords Go.Proofs.YtnkcgoaafpnbjaaDoor.Q
set_option linter.unusedVariables false
set_option linter.unusedSimpArgs false

theorem leapF (y : Int) (h : 0 ≤ y) : civil_Leap.f y = some (Ows.leap y) := by
  unfold civil_Leap.f Ows.leap
  rw [Int.tmod_eq_emod_of_nonneg h, Int.tmod_eq_emod_of_nonneg h, Int.tmod_eq_emod_of_nonneg h]
  split
  · split
    · congr 1; rw [Bool.eq_iff_iff]; simp; omega
    · congr 1; rw [Bool.eq_iff_iff]; simp; omega
  · congr 1; rw [Bool.eq_iff_iff]; simp; omega
theorem lengthF (y m : Int) (k : Nat) (h : 0 ≤ y) (hk : 3 ≤ k) (hm0 : 0 ≤ m) : civil_Length.f k y m = some (Ows.mlen y m) := by
  obtain ⟨k, rfl⟩ : ∃ j, k = j + 2 := ⟨k - 2, by omega⟩
  unfold civil_Length.f
  by_cases h1 : m < 1
  · rw [if_pos h1]
    simp only [civil_Length.j0, if_true]
    unfold Ows.mlen
    rw [if_neg (by omega), if_neg (by omega), if_neg (by omega)]
  · rw [if_neg h1]
    by_cases h12 : m > 12
    · simp only [h12, decide_true, civil_Length.j0, if_true]
      unfold Ows.mlen
      rw [if_neg (by omega), if_neg (by omega), if_neg (by omega)]
    · simp only [h12, decide_false, civil_Length.j0, Bool.false_eq_true, if_false]
      by_cases h2 : m = 2
      · rw [if_pos h2, leapF y h]
        simp only [Option.bind_some, civil_Length.j1, h2, if_true]
        unfold Ows.mlen
        simp only [if_true]
        split <;> rfl
      · rw [if_neg h2]
        simp only [civil_Length.j1, Bool.false_eq_true, if_false, h2]
        unfold Ows.mlen
        rw [if_neg h2]
        have hc : m = 1 ∨ m = 3 ∨ m = 4 ∨ m = 5 ∨ m = 6 ∨ m = 7 ∨ m = 8 ∨ m = 9 ∨ m = 10 ∨ m = 11 ∨ m = 12 := by omega
        rcases hc with rfl | rfl | rfl | rfl | rfl | rfl | rfl | rfl | rfl | rfl | rfl <;> decide +kernel
theorem numberF (y m d : Int) (h : 1970 ≤ y) (h' : y ≤ 4900) (hm : 1 ≤ m) (hm' : m ≤ 12) (hd : 1 ≤ d) (hd' : d ≤ 31) : civil_number.f y m d = some (Ows.cnum y m d) := by
  unfold civil_number.f Ows.cnum Ows.dcal
  rw [wrap64_id (x := m - 3) (by omega) (by omega)]
  by_cases h3 : m - 3 < 0
  · rw [if_pos h3, if_pos (by omega), wrap64_id (x := y - 1) (by omega) (by omega), Int.tdiv_eq_ediv_of_nonneg (by omega : 0 ≤ y - 1), Int.tmod_eq_emod_of_nonneg (by omega : 0 ≤ y - 1)]
    rw [Int.tdiv_eq_ediv_of_nonneg (by omega : 0 ≤ (y - 1) % 400), Int.tdiv_eq_ediv_of_nonneg (by omega : 0 ≤ (y - 1) % 400)]
    rw [wrap64_id (x := m - 3 + 12) (by omega) (by omega), wrap64_id (x := 153 * (m - 3 + 12)) (by omega) (by omega), wrap64_id (x := 153 * (m - 3 + 12) + 2) (by omega) (by omega), Int.tdiv_eq_ediv_of_nonneg (by omega : 0 ≤ 153 * (m - 3 + 12) + 2)]
    rw [show m - 3 + 12 = m + 9 by omega]
    have b1 : 0 ≤ (y - 1) / 400 ∧ (y - 1) / 400 ≤ 12 := by omega
    have b2 : 0 ≤ (y - 1) % 400 ∧ (y - 1) % 400 ≤ 399 := by omega
    generalize (y - 1) / 400 = a at *
    generalize (y - 1) % 400 = b at *
    have b3 : 0 ≤ b / 4 ∧ b / 4 ≤ 99 := by omega
    have b4 : 0 ≤ b / 100 ∧ b / 100 ≤ 3 := by omega
    have b5 : 0 ≤ (153 * (m + 9) + 2) / 5 ∧ (153 * (m + 9) + 2) / 5 ≤ 1000 := by omega
    generalize b / 4 = b3v at *
    generalize b / 100 = b4v at *
    generalize (153 * (m + 9) + 2) / 5 = b5v at *
    rw [wrap64_id (x := a) (by omega) (by omega), wrap64_id (x := a * 146097) (by omega) (by omega), wrap64_id (x := 365 * b) (by omega) (by omega), wrap64_id (x := b3v) (by omega) (by omega), wrap64_id (x := 365 * b + b3v) (by omega) (by omega), wrap64_id (x := b4v) (by omega) (by omega), wrap64_id (x := 365 * b + b3v - b4v) (by omega) (by omega), wrap64_id (x := b5v) (by omega) (by omega), wrap64_id (x := 365 * b + b3v - b4v + b5v) (by omega) (by omega), wrap64_id (x := 365 * b + b3v - b4v + b5v + d) (by omega) (by omega), wrap64_id (x := 365 * b + b3v - b4v + b5v + d - 1) (by omega) (by omega), wrap64_id (x := a * 146097 + (365 * b + b3v - b4v + b5v + d - 1)) (by omega) (by omega), wrap64_id (by omega) (by omega)]
  · rw [if_neg h3, if_neg (by omega), Int.tdiv_eq_ediv_of_nonneg (by omega : 0 ≤ y), Int.tmod_eq_emod_of_nonneg (by omega : 0 ≤ y)]
    rw [Int.tdiv_eq_ediv_of_nonneg (by omega : 0 ≤ y % 400), Int.tdiv_eq_ediv_of_nonneg (by omega : 0 ≤ y % 400)]
    rw [wrap64_id (x := 153 * (m - 3)) (by omega) (by omega), wrap64_id (x := 153 * (m - 3) + 2) (by omega) (by omega), Int.tdiv_eq_ediv_of_nonneg (by omega : 0 ≤ 153 * (m - 3) + 2)]
    have b1 : 0 ≤ y / 400 ∧ y / 400 ≤ 12 := by omega
    have b2 : 0 ≤ y % 400 ∧ y % 400 ≤ 399 := by omega
    generalize y / 400 = a at *
    generalize y % 400 = b at *
    have b3 : 0 ≤ b / 4 ∧ b / 4 ≤ 99 := by omega
    have b4 : 0 ≤ b / 100 ∧ b / 100 ≤ 3 := by omega
    have b5 : 0 ≤ (153 * (m - 3) + 2) / 5 ∧ (153 * (m - 3) + 2) / 5 ≤ 1000 := by omega
    generalize b / 4 = b3v at *
    generalize b / 100 = b4v at *
    generalize (153 * (m - 3) + 2) / 5 = b5v at *
    rw [wrap64_id (x := a) (by omega) (by omega), wrap64_id (x := a * 146097) (by omega) (by omega), wrap64_id (x := 365 * b) (by omega) (by omega), wrap64_id (x := b3v) (by omega) (by omega), wrap64_id (x := 365 * b + b3v) (by omega) (by omega), wrap64_id (x := b4v) (by omega) (by omega), wrap64_id (x := 365 * b + b3v - b4v) (by omega) (by omega), wrap64_id (x := b5v) (by omega) (by omega), wrap64_id (x := 365 * b + b3v - b4v + b5v) (by omega) (by omega), wrap64_id (x := 365 * b + b3v - b4v + b5v + d) (by omega) (by omega), wrap64_id (x := 365 * b + b3v - b4v + b5v + d - 1) (by omega) (by omega), wrap64_id (x := a * 146097 + (365 * b + b3v - b4v + b5v + d - 1)) (by omega) (by omega), wrap64_id (by omega) (by omega)]
theorem mlen_31 (y m : Int) : 0 ≤ Ows.mlen y m ∧ Ows.mlen y m ≤ 31 ∧ (1 ≤ Ows.mlen y m → 1 ≤ m ∧ m ≤ 12) := by
  unfold Ows.mlen
  split
  · split <;> omega
  · split
    · omega
    · split <;> omega
theorem cNumberF (y m d : Int) (hy : 0 ≤ y) (hm : 0 ≤ m) (hd : 0 ≤ d) : civil_Number.f 5 y m d = some (Ows.cNum y m d) := by
  unfold civil_Number.f Ows.cNum
  by_cases h1 : y < 1970
  · rw [if_pos h1, if_neg (by omega)]
  · by_cases h2 : y > 4900
    · rw [if_neg h1, if_pos h2, if_neg (by omega)]
    · by_cases h3 : d < 1
      · rw [if_neg h1, if_neg h2, if_pos h3, if_neg (by omega)]
      · rw [if_neg h1, if_neg h2, if_neg h3, lengthF y m 5 hy (by omega) hm]
        simp only [Option.bind_some]
        have hb := mlen_31 y m
        by_cases h4 : d > Ows.mlen y m
        · rw [if_pos h4, if_neg (by omega)]
        · rw [if_neg h4, if_pos (by omega), numberF y m d (by omega) (by omega) (by omega) (by omega) (by omega) (by omega)]
          rfl
theorem cNumber_any (y m d : Int) (w : World) (hy : 0 ≤ y) (hm : 0 ≤ m) (hd : 0 ≤ d) :
    Calls Tryd.prog 84 #[.int .i64 y, .int .i64 m, .int .i64 d] w fun e w' => e = .returned (.tuple #[.int .i64 (Ows.cNum y m d).1, .bool (Ows.cNum y m d).2]) ∧ Drawn0 w w' :=
  civil_Number.calls 5 y m d _ _ w (cNumberF y m d hy hm hd)
end Go.Proofs.YtnkcgoaafpnbjaaDoor
/- civil.Parse, walked. -/
namespace Go.Proofs.YtnkcgoaafpnbjaaDoor
open Go.RowKit Go.Proofs.YtnkcgoaafpnbjaaDoorW.PrintWords
set_option linter.unusedVariables false
set_option linter.unusedSimpArgs false

theorem valD_le4 (t : List UInt8) (h : t.length ≤ 4) : Ows.valD t ≤ 300000 := by
  have h1 : ∀ c : UInt8, c.toNat < 256 := fun c => c.toNat_lt
  rcases t with _ | ⟨a, _ | ⟨b, _ | ⟨c, _ | ⟨d, _ | ⟨e, t⟩⟩⟩⟩⟩
  · simp [Ows.valD]
  · have := h1 a; simp [Ows.valD]; omega
  · have := h1 a; have := h1 b; simp [Ows.valD]; omega
  · have := h1 a; have := h1 b; have := h1 c; simp [Ows.valD]; omega
  · have := h1 a; have := h1 b; have := h1 c; have := h1 d; simp [Ows.valD]; omega
  · simp at h
theorem fld_le (l : List UInt8) (a b k : Nat) (h : b - a ≤ 4) : Ows.fld l a b k ≤ 300000 := by
  refine valD_le4 _ ?_
  rw [List.length_drop, List.length_take]
  omega
theorem cNum_range (a b c : Nat) : -1000000000 ≤ (Ows.cNum a b c).1 ∧ (Ows.cNum a b c).1 ≤ 1000000000 := by
  unfold Ows.cNum
  split
  · next h =>
    have hm := mlen_31 a b
    unfold Ows.cnum Ows.dcal
    split <;> (simp only; omega)
  · exact ⟨by decide, by decide⟩
def formL : List UInt8 := [48, 48, 48, 48, 45, 48, 48, 45, 48, 48, 84, 48, 48]
theorem form_at (k : Nat) (h : k < (⟨#[48, 48, 48, 48, 45, 48, 48, 45, 48, 48, 84, 48, 48]⟩ : ByteArray).size) : (⟨#[48, 48, 48, 48, 45, 48, 48, 45, 48, 48, 84, 48, 48]⟩ : ByteArray)[k]'h = formL.getD k 0 := byte_at _ k h
theorem cell_same_ {w w' : World} {r : Nat} (h : w'.heap[r]? = w.heap[r]?) (j : Nat) : w'.cell? ⟨r, j, none⟩ = w.cell? ⟨r, j, none⟩ := by simp [World.cell?, h]
theorem set_blk_m {w : World} {b t : Nat} {cs : Array Value} (h : w.heap[b]? = some (.cells cs t (0, 0))) (j : Nat) (v : Value) : (w.setCell ⟨b, j, none⟩ v).heap[b]? = some (.cells (cs.setIfInBounds j v) t (0, 0)) := by
  simp [World.setCell, Array.getElem?_modify, h]
/-- The four numbers so far. -/
def numsAt (l : List UInt8) (k : Nat) : Array Value := #[.int .i64 (Ows.fld l 0 4 k), .int .i64 (Ows.fld l 5 7 k), .int .i64 (Ows.fld l 8 10 k), .int .i64 (Ows.fld l 11 13 k)]

set_option maxRecDepth 100000 in
set_option maxHeartbeats 8000000 in
theorem cParse_any (s : ByteArray) (w : World) (hs : s.size ≤ 4294967296) :
    Calls Tryd.prog 65 #[.string s] w fun e w' => e = .returned (.tuple #[.int .i64 ((Ows.cParse s.data.toList).getD 0), .bool (Ows.cParse s.data.toList).isSome]) ∧ Below w.heap.size w w' := by
  have hlen : s.data.toList.length = s.size := (Lib.size_eq s).symm
  by_cases h13 : s.size = 13
  · have hNO := fun (j : Nat) (hj : j < 13) (h : ¬ Ows.okAt s.data.toList j) => (show Ows.cParse s.data.toList = none from if_neg fun ha => h (((Ows.okAll_iff _).1 ha).2 j hj))
    have HNO := Aside0.mk hNO
    have hYES := fun (h : ∀ j, j < 13 → Ows.okAt s.data.toList j) => (show Ows.cParse s.data.toList = _ from if_pos ((Ows.okAll_iff _).2 ⟨by rw [hlen]; exact h13, h⟩))
    have HYES := Aside0.mk hYES
    clear hNO hYES
    have HFA := Aside0.mk form_at
    have kc := fun (W : World) (t : ByteArray) => Lib.run_convert_string_bytes (P := Tryd.prog) W 9 67 5 t Tryd.underlying9 Tryd.underlying67 Tryd.underlying5
    generalize hL : s.data.toList = l at *
    have HL := Aside0.mk hL
    clear hL
    have H13 := Aside0.mk h13
    have hne : ((s.size : Int) != 13) = false := by rw [h13]; rfl
    clear h13
    go_enter Tryd.func65, Tryd.ntmps65
    go_wp2
    go_step3
    go_wp2
    go_step3
    go_wp2
    rw [H13.out]
    generalize hW1 : w.alloc (.cells #[.int .i64 0, .int .i64 0, .int .i64 0, .int .i64 0] 118) = W1
    have hs1 : W1.heap.size = w.heap.size + 1 := by rw [← hW1]; simp
    have hb1 : W1.heap[w.heap.size]? = some (.cells #[.int .i64 0, .int .i64 0, .int .i64 0, .int .i64 0] 118 (0, 0)) := by rw [← hW1]; exact heap_alloc_new w _
    have hbl1 : Below w.heap.size w W1 := by rw [← hW1]; exact (Below.refl _ _).alloc (Nat.le_refl _) _
    have HG0 := Aside0.mk ((Lib.bytesWorld_at_old W1 5 s w.heap.size (by omega)).trans hb1)
    have HB0 := Aside0.mk (below_up hbl1 hbl1.size (below_bytes W1 5 s))
    have HC := Aside0.mk (fun j (hj : j < s.size) => Lib.bytesWorld_cell W1 5 s j hj)
    rw [hs1, HL.out] at HC
    have hz0 : (Lib.bytesWorld W1 5 s).heap.size = w.heap.size + 2 := by rw [Lib.bytesWorld_size]; omega
    have HZ := Aside0.mk hz0
    clear hs1 hb1 hbl1 hW1 hz0
    generalize Lib.bytesWorld W1 5 s = W2 at *
    go_loopg [5, 17] 13 (fun g p i wr => ∃ (k : Nat), g = 13 - k ∧ k ≤ 13 ∧ i = .int .i64 k ∧ p = .int .i64 (Ows.atOf k) ∧ Aside0 (∀ j, j < k → Ows.okAt l j) ∧ Aside0 (wr.heap[w.heap.size]? = some (.cells (numsAt l k) 118 (0, 0))) ∧ Aside0 (wr.heap[w.heap.size + 1]? = W2.heap[w.heap.size + 1]?) ∧ Aside0 (Below w.heap.size w wr))
    case atStart => exact ⟨0, by omega, by omega, rfl, rfl, ⟨fun j hj => by omega⟩, HG0, ⟨rfl⟩, HB0⟩
    case round =>
      obtain ⟨k, rfl, hk, rfl, rfl, HOK, HG, HR, HB⟩ := hrel
      by_cases hlt : k < 13
      · have hcell : wr.cell? ⟨w.heap.size + 1, k, none⟩ = some (.int .u8 ((l.getD k 0).toNat : Int)) := (cell_same_ HR.out k).trans (HC.out k (by rw [H13.out]; exact hlt))
        have hform := HFA.out k hlt
        have HNK := Aside0.mk (HNO.out k hlt)
        have HOKK := Aside0.mk (show Ows.okAt l k → ∀ j, j < k + 1 → Ows.okAt l j from fun h j hj => by
          rcases Nat.lt_or_ge j k with h2 | h2
          · exact HOK.out j h2
          · obtain rfl : j = k := by omega
            exact h)
        have hk13 : k < l.length := by have := H13.out; omega
        have hbd := (l.getD k 0).toNat_lt
        by_cases hc0 : 0 ≤ k ∧ k < 4
        · skip
          · obtain ⟨hk1, hk2⟩ := hc0
            have hat : Ows.atOf k = 0 := by unfold Ows.atOf; rw [if_pos (by omega)]
            have hf48 : formL.getD k 0 = 48 := by
              have : k = 0 ∨ k = 1 ∨ k = 2 ∨ k = 3 := by omega
              rcases this with rfl | rfl | rfl | rfl <;> rfl
            rw [hf48] at hform
            rw [hat]
            have hiff : Ows.okAt l k ↔ (48 ≤ (l.getD k 0).toNat ∧ (l.getD k 0).toNat ≤ 57) := by unfold Ows.okAt; rw [if_neg (by omega), if_neg (by omega)]
            have HFS := Aside0.mk (Ows.fld_step l 0 4 k hk1 hk2 hk13)
            have hn := fld_le l 0 4 k (by omega)
            have hcl : wr.cell? ⟨w.heap.size, 0, none⟩ = some (.int .i64 (Ows.fld l 0 4 k : Nat)) := by rw [blk_cell HG.out]; rfl
            have hfz : wr.frozen? ⟨w.heap.size, 0, none⟩ = false := blk_frozen HG.out 0
            have HST := Aside0.mk (fun v => set_blk_m HG.out 0 v)
            have HO5 := Aside0.mk (show Ows.fld l 5 7 (k + 1) = Ows.fld l 5 7 k from (Ows.fld_zero l 5 7 (k + 1) (by omega)).trans (Ows.fld_zero l 5 7 k (by omega)).symm)
            have HO8 := Aside0.mk (show Ows.fld l 8 10 (k + 1) = Ows.fld l 8 10 k from (Ows.fld_zero l 8 10 (k + 1) (by omega)).trans (Ows.fld_zero l 8 10 k (by omega)).symm)
            have HO11 := Aside0.mk (show Ows.fld l 11 13 (k + 1) = Ows.fld l 11 13 k from (Ows.fld_zero l 11 13 (k + 1) (by omega)).trans (Ows.fld_zero l 11 13 k (by omega)).symm)
            have hat2 : Ows.atOf (k + 1) = 0 := by unfold Ows.atOf; rw [if_pos (by omega)]
            have HAT := Aside0.mk hat2
            clear hat hat2
            by_cases hok : Ows.okAt l k
            · have HKK := Aside0.mk (HOKK.out hok)
              obtain ⟨hd1, hd2⟩ := hiff.1 hok
              clear hiff hok
              generalize l.getD k 0 = c at *
              have HN := Aside0.mk (show numsAt l k = (numsAt l k).setIfInBounds 0 (.int .i64 (Ows.fld l 0 4 k : Nat)) from rfl)
              generalize hNN : Ows.fld l 0 4 k = nn at *
              have HNN := Aside0.mk hNN
              clear hNN
              have g1 : (48 : Int) ≤ (c.toNat : Int) := by omega
              have g2 : (c.toNat : Int) ≤ 57 := by omega
              go_wp2
              go_roundg (13 - (k + 1))
              case measure => omega
              case rel =>
                refine ⟨k + 1, rfl, by omega, by go_num, by rw [HAT.out]; rfl, HKK, ⟨?_⟩, ⟨?_⟩, ⟨?_⟩⟩
                · rw [HST.out]
                  have e1 : Ows.fld l 0 4 (k + 1) = nn * 10 + (c.toNat - 48) := HFS.out
                  have e2 : (((nn * 10 + (c.toNat - 48) : Nat)) : Int) = (nn : Int) * 10 + ((c.toNat : Int) - 48) := by omega
                  unfold numsAt
                  rw [e1, HO5.out, HO8.out, HO11.out, ← e2]
                  rfl
                · rw [Below.heap_setCell _ _ _ _ (by show w.heap.size + 1 ≠ w.heap.size; omega)]
                  exact HR.out
                · exact HB.out.setCell (Nat.le_refl _) _
            · have HKN := Aside0.mk (HNK.out hok)
              have hbad : ¬ (48 ≤ (l.getD k 0).toNat ∧ (l.getD k 0).toNat ≤ 57) := fun h => hok (hiff.2 h)
              clear hiff hok
              generalize l.getD k 0 = c at *
              by_cases hlow : (c.toNat : Int) < 48
              all_goals
                go_wp2
                try rw [Exit.noGoto_ret]
                go_ret2
                refine ⟨?_, HB.out⟩
                rw [HKN.out]; rfl
        by_cases hc1 : 5 ≤ k ∧ k < 7
        · skip
          · obtain ⟨hk1, hk2⟩ := hc1
            have hat : Ows.atOf k = 1 := by unfold Ows.atOf; rw [if_neg (by omega), if_pos (by omega)]
            have hf48 : formL.getD k 0 = 48 := by
              have : k = 5 ∨ k = 6 := by omega
              rcases this with rfl | rfl <;> rfl
            rw [hf48] at hform
            rw [hat]
            have hiff : Ows.okAt l k ↔ (48 ≤ (l.getD k 0).toNat ∧ (l.getD k 0).toNat ≤ 57) := by unfold Ows.okAt; rw [if_neg (by omega), if_neg (by omega)]
            have HFS := Aside0.mk (Ows.fld_step l 5 7 k hk1 hk2 hk13)
            have hn := fld_le l 5 7 k (by omega)
            have hcl : wr.cell? ⟨w.heap.size, 1, none⟩ = some (.int .i64 (Ows.fld l 5 7 k : Nat)) := by rw [blk_cell HG.out]; rfl
            have hfz : wr.frozen? ⟨w.heap.size, 1, none⟩ = false := blk_frozen HG.out 1
            have HST := Aside0.mk (fun v => set_blk_m HG.out 1 v)
            have HO0 := Aside0.mk (show Ows.fld l 0 4 (k + 1) = Ows.fld l 0 4 k from Ows.fld_stay l 0 4 k (by omega))
            have HO8 := Aside0.mk (show Ows.fld l 8 10 (k + 1) = Ows.fld l 8 10 k from (Ows.fld_zero l 8 10 (k + 1) (by omega)).trans (Ows.fld_zero l 8 10 k (by omega)).symm)
            have HO11 := Aside0.mk (show Ows.fld l 11 13 (k + 1) = Ows.fld l 11 13 k from (Ows.fld_zero l 11 13 (k + 1) (by omega)).trans (Ows.fld_zero l 11 13 k (by omega)).symm)
            have hat2 : Ows.atOf (k + 1) = 1 := by unfold Ows.atOf; rw [if_neg (by omega), if_pos (by omega)]
            have HAT := Aside0.mk hat2
            clear hat hat2
            by_cases hok : Ows.okAt l k
            · have HKK := Aside0.mk (HOKK.out hok)
              obtain ⟨hd1, hd2⟩ := hiff.1 hok
              clear hiff hok
              generalize l.getD k 0 = c at *
              have HN := Aside0.mk (show numsAt l k = (numsAt l k).setIfInBounds 1 (.int .i64 (Ows.fld l 5 7 k : Nat)) from rfl)
              generalize hNN : Ows.fld l 5 7 k = nn at *
              have HNN := Aside0.mk hNN
              clear hNN
              have g1 : (48 : Int) ≤ (c.toNat : Int) := by omega
              have g2 : (c.toNat : Int) ≤ 57 := by omega
              go_wp2
              go_roundg (13 - (k + 1))
              case measure => omega
              case rel =>
                refine ⟨k + 1, rfl, by omega, by go_num, by rw [HAT.out]; rfl, HKK, ⟨?_⟩, ⟨?_⟩, ⟨?_⟩⟩
                · rw [HST.out]
                  have e1 : Ows.fld l 5 7 (k + 1) = nn * 10 + (c.toNat - 48) := HFS.out
                  have e2 : (((nn * 10 + (c.toNat - 48) : Nat)) : Int) = (nn : Int) * 10 + ((c.toNat : Int) - 48) := by omega
                  unfold numsAt
                  rw [e1, HO0.out, HO8.out, HO11.out, ← e2]
                  rfl
                · rw [Below.heap_setCell _ _ _ _ (by show w.heap.size + 1 ≠ w.heap.size; omega)]
                  exact HR.out
                · exact HB.out.setCell (Nat.le_refl _) _
            · have HKN := Aside0.mk (HNK.out hok)
              have hbad : ¬ (48 ≤ (l.getD k 0).toNat ∧ (l.getD k 0).toNat ≤ 57) := fun h => hok (hiff.2 h)
              clear hiff hok
              generalize l.getD k 0 = c at *
              by_cases hlow : (c.toNat : Int) < 48
              all_goals
                go_wp2
                try rw [Exit.noGoto_ret]
                go_ret2
                refine ⟨?_, HB.out⟩
                rw [HKN.out]; rfl
        by_cases hc2 : 8 ≤ k ∧ k < 10
        · skip
          · obtain ⟨hk1, hk2⟩ := hc2
            have hat : Ows.atOf k = 2 := by unfold Ows.atOf; rw [if_neg (by omega), if_neg (by omega), if_pos (by omega)]
            have hf48 : formL.getD k 0 = 48 := by
              have : k = 8 ∨ k = 9 := by omega
              rcases this with rfl | rfl <;> rfl
            rw [hf48] at hform
            rw [hat]
            have hiff : Ows.okAt l k ↔ (48 ≤ (l.getD k 0).toNat ∧ (l.getD k 0).toNat ≤ 57) := by unfold Ows.okAt; rw [if_neg (by omega), if_neg (by omega)]
            have HFS := Aside0.mk (Ows.fld_step l 8 10 k hk1 hk2 hk13)
            have hn := fld_le l 8 10 k (by omega)
            have hcl : wr.cell? ⟨w.heap.size, 2, none⟩ = some (.int .i64 (Ows.fld l 8 10 k : Nat)) := by rw [blk_cell HG.out]; rfl
            have hfz : wr.frozen? ⟨w.heap.size, 2, none⟩ = false := blk_frozen HG.out 2
            have HST := Aside0.mk (fun v => set_blk_m HG.out 2 v)
            have HO0 := Aside0.mk (show Ows.fld l 0 4 (k + 1) = Ows.fld l 0 4 k from Ows.fld_stay l 0 4 k (by omega))
            have HO5 := Aside0.mk (show Ows.fld l 5 7 (k + 1) = Ows.fld l 5 7 k from Ows.fld_stay l 5 7 k (by omega))
            have HO11 := Aside0.mk (show Ows.fld l 11 13 (k + 1) = Ows.fld l 11 13 k from (Ows.fld_zero l 11 13 (k + 1) (by omega)).trans (Ows.fld_zero l 11 13 k (by omega)).symm)
            have hat2 : Ows.atOf (k + 1) = 2 := by unfold Ows.atOf; rw [if_neg (by omega), if_neg (by omega), if_pos (by omega)]
            have HAT := Aside0.mk hat2
            clear hat hat2
            by_cases hok : Ows.okAt l k
            · have HKK := Aside0.mk (HOKK.out hok)
              obtain ⟨hd1, hd2⟩ := hiff.1 hok
              clear hiff hok
              generalize l.getD k 0 = c at *
              have HN := Aside0.mk (show numsAt l k = (numsAt l k).setIfInBounds 2 (.int .i64 (Ows.fld l 8 10 k : Nat)) from rfl)
              generalize hNN : Ows.fld l 8 10 k = nn at *
              have HNN := Aside0.mk hNN
              clear hNN
              have g1 : (48 : Int) ≤ (c.toNat : Int) := by omega
              have g2 : (c.toNat : Int) ≤ 57 := by omega
              go_wp2
              go_roundg (13 - (k + 1))
              case measure => omega
              case rel =>
                refine ⟨k + 1, rfl, by omega, by go_num, by rw [HAT.out]; rfl, HKK, ⟨?_⟩, ⟨?_⟩, ⟨?_⟩⟩
                · rw [HST.out]
                  have e1 : Ows.fld l 8 10 (k + 1) = nn * 10 + (c.toNat - 48) := HFS.out
                  have e2 : (((nn * 10 + (c.toNat - 48) : Nat)) : Int) = (nn : Int) * 10 + ((c.toNat : Int) - 48) := by omega
                  unfold numsAt
                  rw [e1, HO0.out, HO5.out, HO11.out, ← e2]
                  rfl
                · rw [Below.heap_setCell _ _ _ _ (by show w.heap.size + 1 ≠ w.heap.size; omega)]
                  exact HR.out
                · exact HB.out.setCell (Nat.le_refl _) _
            · have HKN := Aside0.mk (HNK.out hok)
              have hbad : ¬ (48 ≤ (l.getD k 0).toNat ∧ (l.getD k 0).toNat ≤ 57) := fun h => hok (hiff.2 h)
              clear hiff hok
              generalize l.getD k 0 = c at *
              by_cases hlow : (c.toNat : Int) < 48
              all_goals
                go_wp2
                try rw [Exit.noGoto_ret]
                go_ret2
                refine ⟨?_, HB.out⟩
                rw [HKN.out]; rfl
        by_cases hc3 : 11 ≤ k ∧ k < 13
        · skip
          · obtain ⟨hk1, hk2⟩ := hc3
            have hat : Ows.atOf k = 3 := by unfold Ows.atOf; rw [if_neg (by omega), if_neg (by omega), if_neg (by omega)]
            have hf48 : formL.getD k 0 = 48 := by
              have : k = 11 ∨ k = 12 := by omega
              rcases this with rfl | rfl <;> rfl
            rw [hf48] at hform
            rw [hat]
            have hiff : Ows.okAt l k ↔ (48 ≤ (l.getD k 0).toNat ∧ (l.getD k 0).toNat ≤ 57) := by unfold Ows.okAt; rw [if_neg (by omega), if_neg (by omega)]
            have HFS := Aside0.mk (Ows.fld_step l 11 13 k hk1 hk2 hk13)
            have hn := fld_le l 11 13 k (by omega)
            have hcl : wr.cell? ⟨w.heap.size, 3, none⟩ = some (.int .i64 (Ows.fld l 11 13 k : Nat)) := by rw [blk_cell HG.out]; rfl
            have hfz : wr.frozen? ⟨w.heap.size, 3, none⟩ = false := blk_frozen HG.out 3
            have HST := Aside0.mk (fun v => set_blk_m HG.out 3 v)
            have HO0 := Aside0.mk (show Ows.fld l 0 4 (k + 1) = Ows.fld l 0 4 k from Ows.fld_stay l 0 4 k (by omega))
            have HO5 := Aside0.mk (show Ows.fld l 5 7 (k + 1) = Ows.fld l 5 7 k from Ows.fld_stay l 5 7 k (by omega))
            have HO8 := Aside0.mk (show Ows.fld l 8 10 (k + 1) = Ows.fld l 8 10 k from Ows.fld_stay l 8 10 k (by omega))
            have hat2 : Ows.atOf (k + 1) = 3 := by unfold Ows.atOf; rw [if_neg (by omega), if_neg (by omega), if_neg (by omega)]
            have HAT := Aside0.mk hat2
            clear hat hat2
            by_cases hok : Ows.okAt l k
            · have HKK := Aside0.mk (HOKK.out hok)
              obtain ⟨hd1, hd2⟩ := hiff.1 hok
              clear hiff hok
              generalize l.getD k 0 = c at *
              have HN := Aside0.mk (show numsAt l k = (numsAt l k).setIfInBounds 3 (.int .i64 (Ows.fld l 11 13 k : Nat)) from rfl)
              generalize hNN : Ows.fld l 11 13 k = nn at *
              have HNN := Aside0.mk hNN
              clear hNN
              have g1 : (48 : Int) ≤ (c.toNat : Int) := by omega
              have g2 : (c.toNat : Int) ≤ 57 := by omega
              go_wp2
              go_roundg (13 - (k + 1))
              case measure => omega
              case rel =>
                refine ⟨k + 1, rfl, by omega, by go_num, by rw [HAT.out]; rfl, HKK, ⟨?_⟩, ⟨?_⟩, ⟨?_⟩⟩
                · rw [HST.out]
                  have e1 : Ows.fld l 11 13 (k + 1) = nn * 10 + (c.toNat - 48) := HFS.out
                  have e2 : (((nn * 10 + (c.toNat - 48) : Nat)) : Int) = (nn : Int) * 10 + ((c.toNat : Int) - 48) := by omega
                  unfold numsAt
                  rw [e1, HO0.out, HO5.out, HO8.out, ← e2]
                  rfl
                · rw [Below.heap_setCell _ _ _ _ (by show w.heap.size + 1 ≠ w.heap.size; omega)]
                  exact HR.out
                · exact HB.out.setCell (Nat.le_refl _) _
            · have HKN := Aside0.mk (HNK.out hok)
              have hbad : ¬ (48 ≤ (l.getD k 0).toNat ∧ (l.getD k 0).toNat ≤ 57) := fun h => hok (hiff.2 h)
              clear hiff hok
              generalize l.getD k 0 = c at *
              by_cases hlow : (c.toNat : Int) < 48
              all_goals
                go_wp2
                try rw [Exit.noGoto_ret]
                go_ret2
                refine ⟨?_, HB.out⟩
                rw [HKN.out]; rfl
        by_cases hs0 : k = 4
        · skip
          · have hat : Ows.atOf k = 0 := by subst hs0; rfl
            have hff : formL.getD k 0 = 45 := by subst hs0; rfl
            rw [hff] at hform
            rw [hat]
            have hiff : Ows.okAt l k ↔ l.getD k 0 = 45 := by unfold Ows.okAt; rw [if_pos (by omega)]
            have HO0 := Aside0.mk (show Ows.fld l 0 4 (k + 1) = Ows.fld l 0 4 k from Ows.fld_stay l 0 4 k (by omega))
            have HO5 := Aside0.mk (show Ows.fld l 5 7 (k + 1) = Ows.fld l 5 7 k from (Ows.fld_zero l 5 7 (k + 1) (by omega)).trans (Ows.fld_zero l 5 7 k (by omega)).symm)
            have HO8 := Aside0.mk (show Ows.fld l 8 10 (k + 1) = Ows.fld l 8 10 k from (Ows.fld_zero l 8 10 (k + 1) (by omega)).trans (Ows.fld_zero l 8 10 k (by omega)).symm)
            have HO11 := Aside0.mk (show Ows.fld l 11 13 (k + 1) = Ows.fld l 11 13 k from (Ows.fld_zero l 11 13 (k + 1) (by omega)).trans (Ows.fld_zero l 11 13 k (by omega)).symm)
            have HAT := Aside0.mk (show Ows.atOf (k + 1) = 1 by subst hs0; rfl)
            have HKJ := Aside0.mk hs0
            clear hat hs0
            by_cases hok : Ows.okAt l k
            · have HKK := Aside0.mk (HOKK.out hok)
              have hd1 := hiff.1 hok
              clear hiff hok
              rw [hd1] at hcell hbd
              go_wp2
              go_roundg (13 - (k + 1))
              case measure => omega
              case rel =>
                refine ⟨k + 1, rfl, by omega, by go_num, by rw [HAT.out]; rfl, HKK, ⟨?_⟩, HR, HB⟩
                rw [HG.out]
                unfold numsAt
                rw [HO0.out, HO5.out, HO8.out, HO11.out]
            · have HKN := Aside0.mk (HNK.out hok)
              have hbad : ¬ (((l.getD k 0).toNat : Int) = 45) := fun h => hok (hiff.2 (UInt8.toNat_inj.1 (show (l.getD k 0).toNat = 45 by omega)))
              clear hiff hok
              generalize l.getD k 0 = c at *
              skip
              go_wp2
              try rw [Exit.noGoto_ret]
              go_ret2
              refine ⟨?_, HB.out⟩
              rw [HKN.out]; rfl
        by_cases hs1 : k = 7
        · skip
          · have hat : Ows.atOf k = 1 := by subst hs1; rfl
            have hff : formL.getD k 0 = 45 := by subst hs1; rfl
            rw [hff] at hform
            rw [hat]
            have hiff : Ows.okAt l k ↔ l.getD k 0 = 45 := by unfold Ows.okAt; rw [if_pos (by omega)]
            have HO0 := Aside0.mk (show Ows.fld l 0 4 (k + 1) = Ows.fld l 0 4 k from Ows.fld_stay l 0 4 k (by omega))
            have HO5 := Aside0.mk (show Ows.fld l 5 7 (k + 1) = Ows.fld l 5 7 k from Ows.fld_stay l 5 7 k (by omega))
            have HO8 := Aside0.mk (show Ows.fld l 8 10 (k + 1) = Ows.fld l 8 10 k from (Ows.fld_zero l 8 10 (k + 1) (by omega)).trans (Ows.fld_zero l 8 10 k (by omega)).symm)
            have HO11 := Aside0.mk (show Ows.fld l 11 13 (k + 1) = Ows.fld l 11 13 k from (Ows.fld_zero l 11 13 (k + 1) (by omega)).trans (Ows.fld_zero l 11 13 k (by omega)).symm)
            have HAT := Aside0.mk (show Ows.atOf (k + 1) = 2 by subst hs1; rfl)
            have HKJ := Aside0.mk hs1
            clear hat hs1
            by_cases hok : Ows.okAt l k
            · have HKK := Aside0.mk (HOKK.out hok)
              have hd1 := hiff.1 hok
              clear hiff hok
              rw [hd1] at hcell hbd
              go_wp2
              go_roundg (13 - (k + 1))
              case measure => omega
              case rel =>
                refine ⟨k + 1, rfl, by omega, by go_num, by rw [HAT.out]; rfl, HKK, ⟨?_⟩, HR, HB⟩
                rw [HG.out]
                unfold numsAt
                rw [HO0.out, HO5.out, HO8.out, HO11.out]
            · have HKN := Aside0.mk (HNK.out hok)
              have hbad : ¬ (((l.getD k 0).toNat : Int) = 45) := fun h => hok (hiff.2 (UInt8.toNat_inj.1 (show (l.getD k 0).toNat = 45 by omega)))
              clear hiff hok
              generalize l.getD k 0 = c at *
              skip
              go_wp2
              try rw [Exit.noGoto_ret]
              go_ret2
              refine ⟨?_, HB.out⟩
              rw [HKN.out]; rfl
        by_cases hs2 : k = 10
        · skip
          · have hat : Ows.atOf k = 2 := by subst hs2; rfl
            have hff : formL.getD k 0 = 84 := by subst hs2; rfl
            rw [hff] at hform
            rw [hat]
            have hiff : Ows.okAt l k ↔ l.getD k 0 = 84 := by unfold Ows.okAt; rw [if_neg (by omega), if_pos (by omega)]
            have HO0 := Aside0.mk (show Ows.fld l 0 4 (k + 1) = Ows.fld l 0 4 k from Ows.fld_stay l 0 4 k (by omega))
            have HO5 := Aside0.mk (show Ows.fld l 5 7 (k + 1) = Ows.fld l 5 7 k from Ows.fld_stay l 5 7 k (by omega))
            have HO8 := Aside0.mk (show Ows.fld l 8 10 (k + 1) = Ows.fld l 8 10 k from Ows.fld_stay l 8 10 k (by omega))
            have HO11 := Aside0.mk (show Ows.fld l 11 13 (k + 1) = Ows.fld l 11 13 k from (Ows.fld_zero l 11 13 (k + 1) (by omega)).trans (Ows.fld_zero l 11 13 k (by omega)).symm)
            have HAT := Aside0.mk (show Ows.atOf (k + 1) = 3 by subst hs2; rfl)
            have HKJ := Aside0.mk hs2
            clear hat hs2
            by_cases hok : Ows.okAt l k
            · have HKK := Aside0.mk (HOKK.out hok)
              have hd1 := hiff.1 hok
              clear hiff hok
              rw [hd1] at hcell hbd
              go_wp2
              go_roundg (13 - (k + 1))
              case measure => omega
              case rel =>
                refine ⟨k + 1, rfl, by omega, by go_num, by rw [HAT.out]; rfl, HKK, ⟨?_⟩, HR, HB⟩
                rw [HG.out]
                unfold numsAt
                rw [HO0.out, HO5.out, HO8.out, HO11.out]
            · have HKN := Aside0.mk (HNK.out hok)
              have hbad : ¬ (((l.getD k 0).toNat : Int) = 84) := fun h => hok (hiff.2 (UInt8.toNat_inj.1 (show (l.getD k 0).toNat = 84 by omega)))
              clear hiff hok
              generalize l.getD k 0 = c at *
              skip
              go_wp2
              try rw [Exit.noGoto_ret]
              go_ret2
              refine ⟨?_, HB.out⟩
              rw [HKN.out]; rfl
        exfalso; omega
      · obtain rfl : k = 13 := by omega
        have HCP := Aside0.mk (HYES.out HOK.out)
        have hn0 := fld_le l 0 4 13 (by omega)
        have hn1 := fld_le l 5 7 13 (by omega)
        have hn2 := fld_le l 8 10 13 (by omega)
        have hn3 := fld_le l 11 13 13 (by omega)
        unfold numsAt at HG
        generalize Ows.fld l 0 4 13 = n0 at *
        generalize Ows.fld l 5 7 13 = n1 at *
        generalize Ows.fld l 8 10 13 = n2 at *
        generalize Ows.fld l 11 13 13 = n3 at *
        have hc0 : wr.cell? ⟨w.heap.size, 0, none⟩ = some (.int .i64 n0) := by rw [blk_cell HG.out]; rfl
        have hc1 : wr.cell? ⟨w.heap.size, 1, none⟩ = some (.int .i64 n1) := by rw [blk_cell HG.out]; rfl
        have hc2 : wr.cell? ⟨w.heap.size, 2, none⟩ = some (.int .i64 n2) := by rw [blk_cell HG.out]; rfl
        have hcn := cNum_range n0 n1 n2
        have HHO := Aside0.mk (show Ows.hourOf n0 n1 n2 n3 = if (Ows.cNum n0 n1 n2).2 = true ∧ (n3 : Int) < 24 ∧ (Ows.cNum n0 n1 n2).1 * 24 + n3 ≤ 16777216 then some ((Ows.cNum n0 n1 n2).1 * 24 + n3) else none from rfl)
        have HNA := Aside0.mk (cNumber_any n0 n1 n2 wr (by omega) (by omega) (by omega))
        generalize Ows.cNum n0 n1 n2 = dd at *
        obtain ⟨day, is⟩ := dd
        change Aside0 (Calls _ _ _ _ fun e w' => e = .returned (.tuple #[.int .i64 day, .bool is]) ∧ Drawn0 wr w') at HNA
        change -1000000000 ≤ day ∧ day ≤ 1000000000 at hcn
        obtain ⟨hcn1, hcn2⟩ := hcn
        simp only at HHO
        cases is
        · skip
          go_wp2_with (first | (go_at_call 84; refine HNA.out.mono ?_; rintro e w3 ⟨rfl, hD⟩; have hc3 : w3.cell? ⟨w.heap.size, 3, none⟩ = some (.int .i64 n3) := (by obtain ⟨n, rfl⟩ := hD; rw [blk_cell (show (wr.drewN n).heap[w.heap.size]? = _ from HG.out)]; rfl); have HB3 := Aside0.mk (show Below w.heap.size w w3 from by obtain ⟨n, rfl⟩ := hD; exact below_drewN HB.out n); clear hD))
          try rw [Exit.noGoto_ret]
          go_ret2
          refine ⟨?_, HB3.out⟩
          rw [HCP.out, HHO.out, if_neg (by simp)]; rfl
        · by_cases h24 : 24 ≤ (n3 : Int)
          · skip
            go_wp2_with (first | (go_at_call 84; refine HNA.out.mono ?_; rintro e w3 ⟨rfl, hD⟩; have hc3 : w3.cell? ⟨w.heap.size, 3, none⟩ = some (.int .i64 n3) := (by obtain ⟨n, rfl⟩ := hD; rw [blk_cell (show (wr.drewN n).heap[w.heap.size]? = _ from HG.out)]; rfl); have HB3 := Aside0.mk (show Below w.heap.size w w3 from by obtain ⟨n, rfl⟩ := hD; exact below_drewN HB.out n); clear hD))
            try rw [Exit.noGoto_ret]
            go_ret2
            refine ⟨?_, HB3.out⟩
            rw [HCP.out, HHO.out, if_neg (by omega)]; rfl
          · by_cases hmx : 16777216 < day * 24 + n3
            · skip
              go_wp2_with (first | (go_at_call 84; refine HNA.out.mono ?_; rintro e w3 ⟨rfl, hD⟩; have hc3 : w3.cell? ⟨w.heap.size, 3, none⟩ = some (.int .i64 n3) := (by obtain ⟨n, rfl⟩ := hD; rw [blk_cell (show (wr.drewN n).heap[w.heap.size]? = _ from HG.out)]; rfl); have HB3 := Aside0.mk (show Below w.heap.size w w3 from by obtain ⟨n, rfl⟩ := hD; exact below_drewN HB.out n); clear hD))
              try rw [Exit.noGoto_ret]
              go_ret2
              refine ⟨?_, HB3.out⟩
              rw [HCP.out, HHO.out, if_neg (by omega)]; rfl
            · skip
              go_wp2_with (first | (go_at_call 84; refine HNA.out.mono ?_; rintro e w3 ⟨rfl, hD⟩; have hc3 : w3.cell? ⟨w.heap.size, 3, none⟩ = some (.int .i64 n3) := (by obtain ⟨n, rfl⟩ := hD; rw [blk_cell (show (wr.drewN n).heap[w.heap.size]? = _ from HG.out)]; rfl); have HB3 := Aside0.mk (show Below w.heap.size w w3 from by obtain ⟨n, rfl⟩ := hD; exact below_drewN HB.out n); clear hD))
              try rw [Exit.noGoto_ret]
              go_ret2
              refine ⟨?_, HB3.out⟩
              rw [HCP.out, HHO.out, if_pos ⟨trivial, by omega, by omega⟩]; rfl
  · have HNE := Aside0.mk (show Ows.cParse s.data.toList = none from if_neg fun ha => h13 (by rw [← hlen]; exact ((Ows.okAll_iff _).1 ha).1))
    have hne : ((s.size : Int) != 13) = true := by simp; omega
    have hne2 : ¬ ((s.size : Int) = 13) := by omega
    go_enter Tryd.func65, Tryd.ntmps65
    go_wp2
    go_step3
    go_wp2
    try rw [Exit.noGoto_ret]
    go_ret2
    refine ⟨?_, Below.refl _ _⟩
    rw [HNE.out]; rfl
end Go.Proofs.YtnkcgoaafpnbjaaDoor
/- fact.Check, fact.All. -/
namespace Go.Proofs.YtnkcgoaafpnbjaaDoor
open Go.RowKit Go.Proofs.YtnkcgoaafpnbjaaDoorW.PrintWords Go.Proofs.YtnkcgoaafpnbjaaDoor.Q
set_option linter.unusedVariables false
set_option linter.unusedSimpArgs false

theorem isE_false {s : ByteArray} (h : ¬ s = ⟨#[]⟩) : s.toList.isEmpty = false := by
  rw [Lib.toList_data]
  obtain ⟨⟨l⟩⟩ := s
  rcases l with _ | ⟨a, l⟩
  · exact absurd rfl h
  · rfl
/-- The j-th of four texts. -/
def T4.at (t : T4) (j : Nat) : ByteArray := if j = 0 then t.f0 else if j = 1 then t.f1 else if j = 2 then t.f2 else t.f3
/-- May a dimension's text be so? -/
def okD (dims : Int) (j : Nat) (s : ByteArray) : Prop := s.size ≤ 16 ∧ ((j : Int) < dims ∨ s = ⟨#[]⟩)
instance (dims : Int) (j : Nat) (s : ByteArray) : Decidable (okD dims j s) := by unfold okD; infer_instance
def okT (dims : Int) (t : T4) : Prop := okD dims 0 t.f0 ∧ okD dims 1 t.f1 ∧ okD dims 2 t.f2 ∧ okD dims 3 t.f3
instance (dims : Int) (t : T4) : Decidable (okT dims t) := by unfold okT; infer_instance
theorem okT_iff (dims : Int) (t : T4) : okT dims t ↔ ∀ j, j < 4 → okD dims j (t.at j) := by
  constructor
  · rintro ⟨h0, h1, h2, h3⟩ j hj
    rcases j with _ | _ | _ | _ | j
    · exact h0
    · exact h1
    · exact h2
    · exact h3
    · omega
  · intro h
    exact ⟨h 0 (by omega), h 1 (by omega), h 2 (by omega), h 3 (by omega)⟩
def fctR (f : Fct) : Prop := 0 ≤ f.f0.f0 ∧ f.f0.f0 ≤ 16777216 ∧ -1152921504606846976 ≤ f.f1 ∧ f.f1 ≤ 1152921504606846976
instance (f : Fct) : Decidable (fctR f) := by unfold fctR; infer_instance
/-- A fact's fault. -/
def fCheck (dims : Int) (f : Fct) : Int := if ¬ (1 ≤ dims ∧ dims ≤ 4) then 1 else if ¬ fctR f then 2 else if okT dims f.f0.f1 then 0 else 4

set_option maxRecDepth 100000 in
set_option maxHeartbeats 4000000 in
theorem fCheck_any (f : Fct) (dims : Int) (w : World) :
    Calls Tryd.prog 90 #[.agg #[.int .i64 f.f0.f0, .string f.f0.f1.f0, .string f.f0.f1.f1, .string f.f0.f1.f2, .string f.f0.f1.f3, .int .i64 f.f1], .int .i64 dims] w fun e w' => e = .returned (.int .i64 (fCheck dims f)) ∧ Below w.heap.size w w' := by
  obtain ⟨⟨h, t⟩, v⟩ := f
  have HOT := Aside0.mk (okT_iff dims t)
  have HF := Aside0.mk (show fCheck dims ⟨⟨h, t⟩, v⟩ = if ¬ (1 ≤ dims ∧ dims ≤ 4) then 1 else if ¬ (0 ≤ h ∧ h ≤ 16777216 ∧ -1152921504606846976 ≤ v ∧ v ≤ 1152921504606846976) then 2 else if okT dims t then 0 else 4 from rfl)
  generalize fCheck dims ⟨⟨h, t⟩, v⟩ = r at *
  obtain ⟨s0, s1, s2, s3⟩ := t
  simp only
  have HBA := Aside0.mk ((Below.refl w.heap.size w).alloc (Nat.le_refl _) (.cells #[.int .i64 h, .string s0, .string s1, .string s2, .string s3, .int .i64 v] 54))
  by_cases hd : 1 ≤ dims ∧ dims ≤ 4
  · have HD := Aside0.mk hd
    by_cases hr : 0 ≤ h ∧ h ≤ 16777216 ∧ -1152921504606846976 ≤ v ∧ v ≤ 1152921504606846976
    · have HR := Aside0.mk hr
      obtain ⟨hd1, hd2⟩ := hd
      obtain ⟨hr1, hr2, hr3, hr4⟩ := hr
      go_enter Tryd.func90, Tryd.ntmps90
      go_wp2
      go_loopg [35] 4 (fun g i wr => ∃ (k : Nat), g = 4 - k ∧ k ≤ 4 ∧ i = .int .i64 k ∧ Aside0 (∀ j, j < k → okD dims j ((⟨s0, s1, s2, s3⟩ : T4).at j)) ∧ Aside0 (Below w.heap.size w wr))
      case atStart => exact ⟨0, by omega, by omega, rfl, ⟨fun j hj => by omega⟩, HBA⟩
      case round =>
        obtain ⟨k, rfl, hk, rfl, HOK, HB⟩ := hrel
        by_cases hlt : k < 4
        · have HNEXT := Aside0.mk (show ∀ s : ByteArray, (⟨s0, s1, s2, s3⟩ : T4).at k = s → okD dims k s → ∀ j, j < k + 1 → okD dims j ((⟨s0, s1, s2, s3⟩ : T4).at j) from fun s hs hok j hj => by
            rcases Nat.lt_or_ge j k with h | h
            · exact HOK.out j h
            · obtain rfl : j = k := by omega
              rw [hs]; exact hok)
          have HNO := Aside0.mk (show ∀ s : ByteArray, (⟨s0, s1, s2, s3⟩ : T4).at k = s → ¬ okD dims k s → ¬ okT dims ⟨s0, s1, s2, s3⟩ from fun s hs hok h => hok (hs ▸ HOT.out.1 h k hlt))
          clear HOK
          have hk4 : k = 0 ∨ k = 1 ∨ k = 2 ∨ k = 3 := by omega
          clear hk hlt
          rcases hk4 with rfl | rfl | rfl | rfl
          · have ix := fun (W : World) => (show (Instr.index 25 (.agg #[.string s0, .string s1, .string s2, .string s3]) (.int .i64 0)).run Tryd.prog W = .ok (.string s0) W from by kernel_rfl)
            have hnx := HNEXT.out s0 rfl
            have hno := HNO.out s0 rfl
            have HNX := Aside0.mk hnx
            have HNO2 := Aside0.mk hno
            clear hnx hno HNEXT HNO
            by_cases hok : okD dims 0 s0
            · have HK := Aside0.mk (HNX.out hok)
              unfold okD at hok
              obtain ⟨ho1, ho2⟩ := hok
              by_cases hlt : (0 : Int) < dims
              · go_wp2
                go_roundg (4 - (0 + 1))
                case measure => omega
                case rel => exact ⟨0 + 1, rfl, by omega, by go_num, HK, HB⟩
              · exact absurd (by omega) hlt
            · have HX := Aside0.mk (HNO2.out hok)
              by_cases hlen : 16 < s0.size
              · go_wp2
                go_ret
                refine ⟨ret_int ?_, HB.out⟩
                rw [HF.out, if_neg (fun h => h HD.out), if_neg (fun h => h HR.out), if_neg HX.out]
              · exact absurd ⟨by omega, .inl (by omega)⟩ hok
          · have ix := fun (W : World) => (show (Instr.index 25 (.agg #[.string s0, .string s1, .string s2, .string s3]) (.int .i64 1)).run Tryd.prog W = .ok (.string s1) W from by kernel_rfl)
            have hnx := HNEXT.out s1 rfl
            have hno := HNO.out s1 rfl
            have HNX := Aside0.mk hnx
            have HNO2 := Aside0.mk hno
            clear hnx hno HNEXT HNO
            by_cases hok : okD dims 1 s1
            · have HK := Aside0.mk (HNX.out hok)
              unfold okD at hok
              obtain ⟨ho1, ho2⟩ := hok
              by_cases hlt : (1 : Int) < dims
              · go_wp2
                go_roundg (4 - (1 + 1))
                case measure => omega
                case rel => exact ⟨1 + 1, rfl, by omega, by go_num, HK, HB⟩
              · have he : s1 = ⟨#[]⟩ := by rcases ho2 with h | h; exact absurd h hlt; exact h
                subst he
                go_wp2
                go_roundg (4 - (1 + 1))
                case measure => omega
                case rel => exact ⟨1 + 1, rfl, by omega, by go_num, HK, HB⟩
            · have HX := Aside0.mk (HNO2.out hok)
              by_cases hlen : 16 < s1.size
              · go_wp2
                go_ret
                refine ⟨ret_int ?_, HB.out⟩
                rw [HF.out, if_neg (fun h => h HD.out), if_neg (fun h => h HR.out), if_neg HX.out]
              · have hlt : ¬ ((1 : Int) < dims) := fun h => hok ⟨by omega, .inl h⟩
                have hne := isE_false (fun (h : s1 = ⟨#[]⟩) => hok ⟨by omega, .inr h⟩)
                clear hok
                go_wp2
                go_ret
                refine ⟨ret_int ?_, HB.out⟩
                rw [HF.out, if_neg (fun h => h HD.out), if_neg (fun h => h HR.out), if_neg HX.out]
          · have ix := fun (W : World) => (show (Instr.index 25 (.agg #[.string s0, .string s1, .string s2, .string s3]) (.int .i64 2)).run Tryd.prog W = .ok (.string s2) W from by kernel_rfl)
            have hnx := HNEXT.out s2 rfl
            have hno := HNO.out s2 rfl
            have HNX := Aside0.mk hnx
            have HNO2 := Aside0.mk hno
            clear hnx hno HNEXT HNO
            by_cases hok : okD dims 2 s2
            · have HK := Aside0.mk (HNX.out hok)
              unfold okD at hok
              obtain ⟨ho1, ho2⟩ := hok
              by_cases hlt : (2 : Int) < dims
              · go_wp2
                go_roundg (4 - (2 + 1))
                case measure => omega
                case rel => exact ⟨2 + 1, rfl, by omega, by go_num, HK, HB⟩
              · have he : s2 = ⟨#[]⟩ := by rcases ho2 with h | h; exact absurd h hlt; exact h
                subst he
                go_wp2
                go_roundg (4 - (2 + 1))
                case measure => omega
                case rel => exact ⟨2 + 1, rfl, by omega, by go_num, HK, HB⟩
            · have HX := Aside0.mk (HNO2.out hok)
              by_cases hlen : 16 < s2.size
              · go_wp2
                go_ret
                refine ⟨ret_int ?_, HB.out⟩
                rw [HF.out, if_neg (fun h => h HD.out), if_neg (fun h => h HR.out), if_neg HX.out]
              · have hlt : ¬ ((2 : Int) < dims) := fun h => hok ⟨by omega, .inl h⟩
                have hne := isE_false (fun (h : s2 = ⟨#[]⟩) => hok ⟨by omega, .inr h⟩)
                clear hok
                go_wp2
                go_ret
                refine ⟨ret_int ?_, HB.out⟩
                rw [HF.out, if_neg (fun h => h HD.out), if_neg (fun h => h HR.out), if_neg HX.out]
          · have ix := fun (W : World) => (show (Instr.index 25 (.agg #[.string s0, .string s1, .string s2, .string s3]) (.int .i64 3)).run Tryd.prog W = .ok (.string s3) W from by kernel_rfl)
            have hnx := HNEXT.out s3 rfl
            have hno := HNO.out s3 rfl
            have HNX := Aside0.mk hnx
            have HNO2 := Aside0.mk hno
            clear hnx hno HNEXT HNO
            by_cases hok : okD dims 3 s3
            · have HK := Aside0.mk (HNX.out hok)
              unfold okD at hok
              obtain ⟨ho1, ho2⟩ := hok
              by_cases hlt : (3 : Int) < dims
              · go_wp2
                go_roundg (4 - (3 + 1))
                case measure => omega
                case rel => exact ⟨3 + 1, rfl, by omega, by go_num, HK, HB⟩
              · have he : s3 = ⟨#[]⟩ := by rcases ho2 with h | h; exact absurd h hlt; exact h
                subst he
                go_wp2
                go_roundg (4 - (3 + 1))
                case measure => omega
                case rel => exact ⟨3 + 1, rfl, by omega, by go_num, HK, HB⟩
            · have HX := Aside0.mk (HNO2.out hok)
              by_cases hlen : 16 < s3.size
              · go_wp2
                go_ret
                refine ⟨ret_int ?_, HB.out⟩
                rw [HF.out, if_neg (fun h => h HD.out), if_neg (fun h => h HR.out), if_neg HX.out]
              · have hlt : ¬ ((3 : Int) < dims) := fun h => hok ⟨by omega, .inl h⟩
                have hne := isE_false (fun (h : s3 = ⟨#[]⟩) => hok ⟨by omega, .inr h⟩)
                clear hok
                go_wp2
                go_ret
                refine ⟨ret_int ?_, HB.out⟩
                rw [HF.out, if_neg (fun h => h HD.out), if_neg (fun h => h HR.out), if_neg HX.out]
        · obtain rfl : k = 4 := by omega
          have HOKT := Aside0.mk (HOT.out.2 HOK.out)
          go_wp2
          go_ret
          refine ⟨ret_int ?_, HB.out⟩
          rw [HF.out, if_neg (fun h => h HD.out), if_neg (fun h => h HR.out), if_pos HOKT.out]
    · have HR := Aside0.mk hr
      obtain ⟨hd1, hd2⟩ := hd
      have hbad : ((h < 0 ∨ 16777216 < h) ∨ 1152921504606846976 < v) ∨ v < -1152921504606846976 := by omega
      go_enter Tryd.func90, Tryd.ntmps90
      go_wp2
      all_goals
        go_ret
        refine ⟨ret_int ?_, HBA.out⟩
        rw [HF.out, if_neg (fun h => h HD.out), if_pos HR.out]
  · have HD := Aside0.mk hd
    have hd12 : dims < 1 ∨ (1 ≤ dims ∧ 4 < dims) := by omega
    clear hd
    rcases hd12 with hd1 | ⟨hd1, hd2⟩
    all_goals
      try have hd3 : decide (dims ≤ 4) = false := decide_eq_false (by omega)
      go_enter Tryd.func90, Tryd.ntmps90
      go_wp2
      go_ret
      refine ⟨ret_int ?_, HBA.out⟩
      rw [HF.out, if_pos HD.out]
end Go.Proofs.YtnkcgoaafpnbjaaDoor
/- fact.All. -/
namespace Go.Proofs.YtnkcgoaafpnbjaaDoor
open Go.RowKit Go.Proofs.YtnkcgoaafpnbjaaDoorW.PrintWords Go.Proofs.YtnkcgoaafpnbjaaDoor.Q
set_option linter.unusedVariables false
set_option linter.unusedSimpArgs false

theorem c_row {w w' : World} {T : Type} {kd : Kd T} {A : Option Addr} {n : Nat} {xs : List T} (h : kd.C w A n xs) (hb : Below w.heap.size w w') : kd.C w' A n xs := Kd.C_below h hb
/-- All facts: which fault, at which place. -/
def fAllGo (dims : Int) : List Fct → Nat → Int × Nat
  | [], _ => (0, 0)
  | f :: l, k => if fCheck dims f = 0 then fAllGo dims l (k + 1) else (fCheck dims f, k)
def fAll (dims : Int) (l : List Fct) : Int × Nat := if ¬ (1 ≤ dims ∧ dims ≤ 4) ∨ l.length = 0 ∨ 50 < l.length then (1, 0) else fAllGo dims l 0
theorem fAllGo_drop (dims : Int) (l : List Fct) (k : Nat) (h : k < l.length) : fAllGo dims (l.drop k) k = if fCheck dims (rd_Fct l k) = 0 then fAllGo dims (l.drop (k + 1)) (k + 1) else (fCheck dims (rd_Fct l k), k) := by
  rw [List.drop_eq_getElem_cons h]
  have : rd_Fct l k = l[k] := by simp [rd_Fct, List.getD_eq_getElem?_getD, List.getElem?_eq_getElem h]
  rw [this]
  rfl
set_option maxRecDepth 100000 in
set_option maxHeartbeats 4000000 in
theorem fAll_any (l : List Fct) (A : Option Addr) (c : Nat) (dims : Int) (w : World) (hA : kFct.C w A l.length l) (hc : l.length ≤ c) (hcm : c ≤ 9223372036854775807) :
    Calls Tryd.prog 68 #[.slice A l.length c, .int .i64 dims] w fun e w' => e = .returned (.tuple #[.int .i64 (fAll dims l).1, .int .i64 (fAll dims l).2]) ∧ Below w.heap.size w w' := by
  have HA := Aside0.mk hA
  clear hA
  generalize hN : l.length = n at *
  have HN := Aside0.mk hN
  clear hN
  by_cases hd : 1 ≤ dims ∧ dims ≤ 4
  · have HD := Aside0.mk hd
    obtain ⟨hd1, hd2⟩ := hd
    by_cases hl : 1 ≤ n ∧ n ≤ 50
    · have HL := Aside0.mk hl
      obtain ⟨hl1, hl2⟩ := hl
      have HGO := Aside0.mk (show fAll dims l = fAllGo dims l 0 from if_neg (by have := HN.out; omega))
      have hn0 : ((n : Int) == 0) = false := by rw [beq_eq_false_iff_ne]; omega
      go_enter Tryd.func68, Tryd.ntmps68
      go_wp2
      go_loopg [24] n (fun g i wr => ∃ (k : Nat), g = n - k ∧ k ≤ n ∧ i = .int .i64 k ∧ Aside0 (fAll dims l = fAllGo dims (l.drop k) k) ∧ Aside0 (Below w.heap.size w wr))
      case atStart => exact ⟨0, by omega, by omega, rfl, HGO, ⟨Below.refl _ _⟩⟩
      case round =>
        obtain ⟨k, rfl, hk, rfl, HR, HB⟩ := hrel
        by_cases hlt : k < n
        · have HS := Aside0.mk (HR.out.trans (fAllGo_drop dims l k (by rw [HN.out]; exact hlt)))
          obtain ⟨ad, rfl, hf0, hf1, hf2, hf3, hf4, hf5⟩ := at_Fct (Kd.C_below HA.out HB.out) (k : Int) (by omega) (by omega)
          rw [Int.toNat_natCast] at hf0 hf1 hf2 hf3 hf4 hf5
          have HCK := Aside0.mk (fCheck_any (rd_Fct l k) dims)
          generalize rd_Fct l (k : Int) = x at *
          generalize fCheck dims x = r at *
          by_cases hr : r = 0
          · subst hr
            have HS2 := Aside0.mk (HS.out.trans (if_pos rfl))
            clear HS
            go_wp2_with (first | (go_at_call 90; refine (HCK.out _).mono ?_; rintro e w1 ⟨rfl, hB1⟩; have HB1 := Aside0.mk hB1; clear hB1))
            go_roundg (n - (k + 1))
            case measure => omega
            case rel => exact ⟨k + 1, rfl, by omega, by go_num, HS2, ⟨below_up ((HB.out).alloc (by have := HB.out.size; omega) _) (by have := HB.out.size; simp; omega) HB1.out⟩⟩
          · have HS2 := Aside0.mk (HS.out.trans (if_neg hr))
            clear HS
            go_wp2_with (first | (go_at_call 90; refine (HCK.out _).mono ?_; rintro e w1 ⟨rfl, hB1⟩; have HB1 := Aside0.mk hB1; clear hB1))
            go_ret2
            refine ⟨?_, below_up ((HB.out).alloc (by have := HB.out.size; omega) _) (by have := HB.out.size; simp; omega) HB1.out⟩
            rw [HS2.out]; rfl
        · obtain rfl : k = n := by omega
          have HS := Aside0.mk (HR.out.trans (show fAllGo dims (l.drop k) k = (0, 0) by rw [List.drop_of_length_le (by have := HN.out; omega)]; simp [fAllGo]))
          go_wp2
          go_ret2
          refine ⟨?_, HB.out⟩
          rw [HS.out]
          rfl
    · have HGO := Aside0.mk (show fAll dims l = (1, 0) from if_pos (by have := HN.out; omega))
      have hbad : n = 0 ∨ 50 < n := by omega
      clear hl
      rcases hbad with hn0 | h50
      · subst hn0
        go_enter Tryd.func68, Tryd.ntmps68
        go_wp2
        go_ret2
        refine ⟨?_, Below.refl _ _⟩
        rw [HGO.out]
        rfl
      · have hn0 : ((n : Int) == 0) = false := by rw [beq_eq_false_iff_ne]; omega
        go_enter Tryd.func68, Tryd.ntmps68
        go_wp2
        go_ret2
        refine ⟨?_, Below.refl _ _⟩
        rw [HGO.out]
        rfl
  · have HGO := Aside0.mk (show fAll dims l = (1, 0) from if_pos (.inl hd))
    have hd12 : dims < 1 ∨ (1 ≤ dims ∧ 4 < dims) := by omega
    clear hd
    rcases hd12 with hd1 | ⟨hd1, hd2⟩
    all_goals
      try have hd3 : decide (dims ≤ 4) = false := decide_eq_false (by omega)
      go_enter Tryd.func68, Tryd.ntmps68
      go_wp2
      all_goals
        go_ret2
        refine ⟨?_, Below.refl _ _⟩
        rw [HGO.out]
        rfl
end Go.Proofs.YtnkcgoaafpnbjaaDoor
/- '==' of two queries and of two policies. -/
namespace Go.Proofs.YtnkcgoaafpnbjaaDoor
open Go.RowKit Go.Proofs.YtnkcgoaafpnbjaaDoorW.PrintWords
set_option linter.unusedVariables false

theorem eqItems_nil {P : Program} {d : Nat} {e : TypeId} {c : Nat} {xs ys : Array Value} {w : World} : (Op.eqItems d e c xs ys []).run P w = .ok true w := by simp [Op.eqItems]
theorem eqItems_cons {P : Program} {d : Nat} {e : TypeId} {c i : Nat} {is : List Nat} {xs ys : Array Value} {w : World} {a b : Value} {r s : Bool} (ha : (part e xs (i * c)).run P w = .ok a w) (hb : (part e ys (i * c)).run P w = .ok b w) (he : (Op.equalIn d e a b).run P w = .ok r w) (hs : (Op.eqItems d e c xs ys is).run P w = .ok s w) : (Op.eqItems d e c xs ys (i :: is)).run P w = .ok (r && s) w := by
  rw [Op.eqItems]
  simp only [Sem.run_bind, ha, hb, he, Result.andThen_ok]
  cases r
  · simp
  · simpa using hs
/-- Four elements, compared. -/
theorem eqItems4 {P : Program} {d : Nat} {e : TypeId} {c : Nat} {xs ys : Array Value} {w : World} {a0 a1 a2 a3 b0 b1 b2 b3 : Value} {r0 r1 r2 r3 : Bool}
    (pa0 : (part e xs (0 * c)).run P w = .ok a0 w) (pa1 : (part e xs (1 * c)).run P w = .ok a1 w) (pa2 : (part e xs (2 * c)).run P w = .ok a2 w) (pa3 : (part e xs (3 * c)).run P w = .ok a3 w)
    (pb0 : (part e ys (0 * c)).run P w = .ok b0 w) (pb1 : (part e ys (1 * c)).run P w = .ok b1 w) (pb2 : (part e ys (2 * c)).run P w = .ok b2 w) (pb3 : (part e ys (3 * c)).run P w = .ok b3 w)
    (e0 : (Op.equalIn d e a0 b0).run P w = .ok r0 w) (e1 : (Op.equalIn d e a1 b1).run P w = .ok r1 w) (e2 : (Op.equalIn d e a2 b2).run P w = .ok r2 w) (e3 : (Op.equalIn d e a3 b3).run P w = .ok r3 w) :
    (Op.eqItems d e c xs ys (List.range 4)).run P w = .ok (r0 && (r1 && (r2 && r3))) w := by
  have h := eqItems_cons pa0 pb0 e0 (eqItems_cons pa1 pb1 e1 (eqItems_cons pa2 pb2 e2 (eqItems_cons pa3 pb3 e3 eqItems_nil)))
  rw [Bool.and_true] at h
  exact h
def bEq (x y : B4) : Bool := (x.f0 == y.f0) && ((x.f1 == y.f1) && ((x.f2 == y.f2) && (x.f3 == y.f3)))
def tEq (x y : T4) : Bool := (x.f0.toList == y.f0.toList) && ((x.f1.toList == y.f1.toList) && ((x.f2.toList == y.f2.toList) && (x.f3.toList == y.f3.toList)))
theorem eqB4_run (w : World) (d : Nat) (x y : B4) : (Op.equalIn (d + 2) 24 (.agg #[.bool x.f0, .bool x.f1, .bool x.f2, .bool x.f3]) (.agg #[.bool y.f0, .bool y.f1, .bool y.f2, .bool y.f3])).run Tryd.prog w = .ok (bEq x y) w := by
  obtain ⟨i, hi⟩ := Option.isSome_iff_exists.1 (show (Tryd.prog.info? 4).isSome = true by kernel_rfl)
  rw [run_equalIn_array (P := Tryd.prog) w (d + 1) _ _ (show Tryd.prog.underlying 24 = some (.array 4 4) by kernel_rfl) hi]
  refine eqItems4 (a0 := .bool x.f0) (a1 := .bool x.f1) (a2 := .bool x.f2) (a3 := .bool x.f3) (b0 := .bool y.f0) (b1 := .bool y.f1) (b2 := .bool y.f2) (b3 := .bool y.f3) (by kernel_rfl) (by kernel_rfl) (by kernel_rfl) (by kernel_rfl) (by kernel_rfl) (by kernel_rfl) (by kernel_rfl) (by kernel_rfl) ?_ ?_ ?_ ?_
  all_goals exact run_equalIn_bool' _ _ _ _ _ Tryd.underlying4
theorem eqT4_run (w : World) (d : Nat) (x y : T4) : (Op.equalIn (d + 2) 25 (.agg #[.string x.f0, .string x.f1, .string x.f2, .string x.f3]) (.agg #[.string y.f0, .string y.f1, .string y.f2, .string y.f3])).run Tryd.prog w = .ok (tEq x y) w := by
  obtain ⟨i, hi⟩ := Option.isSome_iff_exists.1 (show (Tryd.prog.info? 9).isSome = true by kernel_rfl)
  rw [run_equalIn_array (P := Tryd.prog) w (d + 1) _ _ (show Tryd.prog.underlying 25 = some (.array 4 9) by kernel_rfl) hi]
  refine eqItems4 (a0 := .string x.f0) (a1 := .string x.f1) (a2 := .string x.f2) (a3 := .string x.f3) (b0 := .string y.f0) (b1 := .string y.f1) (b2 := .string y.f2) (b3 := .string y.f3) (by kernel_rfl) (by kernel_rfl) (by kernel_rfl) (by kernel_rfl) (by kernel_rfl) (by kernel_rfl) (by kernel_rfl) (by kernel_rfl) ?_ ?_ ?_ ?_
  all_goals exact run_equalIn_string _ _ _ _ _ Tryd.underlying9
/-- A query's cells. -/
def cQry (x : Qry) : Array Value := #[.int .i64 x.f0, .int .i64 x.f1, .bool x.f2.f0, .bool x.f2.f1, .bool x.f2.f2, .bool x.f2.f3, .bool x.f3.f0, .bool x.f3.f1, .bool x.f3.f2, .bool x.f3.f3, .string x.f4.f0, .string x.f4.f1, .string x.f4.f2, .string x.f4.f3]
def qEq (x y : Qry) : Bool := (x.f0 == y.f0) && ((x.f1 == y.f1) && (bEq x.f2 y.f2 && (bEq x.f3 y.f3 && tEq x.f4 y.f4)))
theorem eqQry_run (w : World) (x y : Qry) : (Op.equalIn 10000 27 (.agg (cQry x)) (.agg (cQry y))).run Tryd.prog w = .ok (qEq x y) w := by
  refine eqA_of (d := 9999) Tryd.underlying27 (by kernel_rfl) ?_
  refine eqf_cons rfl (by kernel_rfl) (by kernel_rfl) (run_equalIn_int _ _ _ .i64 _ _ _ Tryd.underlying2) ?_
  refine eqf_cons rfl (by kernel_rfl) (by kernel_rfl) (run_equalIn_int _ _ _ .i64 _ _ _ Tryd.underlying2) ?_
  refine eqf_cons rfl (by kernel_rfl) (by kernel_rfl) (eqB4_run w 9997 x.f2 y.f2) ?_
  refine eqf_cons rfl (by kernel_rfl) (by kernel_rfl) (eqB4_run w 9997 x.f3 y.f3) ?_
  exact eqf_last rfl (by kernel_rfl) (by kernel_rfl) (eqT4_run w 9997 x.f4 y.f4)

def cPol (x : Pol) : Array Value := #[.int .i64 x.f0, .int .i64 x.f1, .int .i64 x.f2, .int .i64 x.f3, .int .i64 x.f4, .int .i64 x.f5, .int .i64 x.f6, .int .i64 x.f7, .int .i64 x.f8]
def pEq (x y : Pol) : Bool := (x.f0 == y.f0) && ((x.f1 == y.f1) && ((x.f2 == y.f2) && ((x.f3 == y.f3) && ((x.f4 == y.f4) && ((x.f5 == y.f5) && ((x.f6 == y.f6) && ((x.f7 == y.f7) && (x.f8 == y.f8))))))))
theorem eqPol_run (w : World) (x y : Pol) : (Op.equalIn 10000 29 (.agg (cPol x)) (.agg (cPol y))).run Tryd.prog w = .ok (pEq x y) w := by
  refine eqA_of (d := 9999) Tryd.underlying29 (by kernel_rfl) ?_
  iterate 7 refine eqf_cons rfl (by kernel_rfl) (by kernel_rfl) (run_equalIn_int _ _ _ .i64 _ _ _ Tryd.underlying2) ?_
  refine eqf_cons rfl (by kernel_rfl) (by kernel_rfl) (run_equalIn_int _ _ _ .i64 _ _ _ Tryd.underlying3) ?_
  exact eqf_last rfl (by kernel_rfl) (by kernel_rfl) (run_equalIn_int _ _ _ .i64 _ _ _ Tryd.underlying2)
end Go.Proofs.YtnkcgoaafpnbjaaDoor
/- A step by value: its 27 cells loaded and stored as one. -/
namespace Go.Proofs.YtnkcgoaafpnbjaaDoor
open Go.RowKit Go.Proofs.YtnkcgoaafpnbjaaDoorW.PrintWords
set_option linter.unusedVariables false
section
variable {P : Program} {ops : Array Oper} {rest : List Oper} {op : Oper} {a : Act} {W : World} {Q : Exit → Act → World → Prop}
theorem ld_row (hgd : op.guard = none) (ty : TypeId) (x : Operand) (ho : op.op = .load ty x) (b : Nat) (hx : a.eval x = .pointer (some ⟨b, 0, none⟩)) (cs : Array Value) (t : TypeId) (fr : Nat × Nat) (d : TypeDesc) (hg : W.heap[b]? = some (.cells cs t fr))
    (hu : P.underlying ty = some d) (hd : (match d with | .struct _ | .array _ _ => true | _ => false) = true) (hi : (P.info? ty).map (·.size) = some cs.size)
    (h : wpList P ops Q rest (a.put op.dst (.agg cs)) W) : wpList P ops Q (op :: rest) a W :=
  wpList_plain hgd fun _ hK => wp_load_row ty x ho b hx t cs fr d hg hu hd hi (hK _ _ h)
theorem setRow_keep (W : World) (b : Nat) (cs : Array Value) : KeepB b W (W.setRow b cs) := by
  refine ⟨rfl, rfl, rfl, by simp [World.setRow], fun k hk hb => ?_⟩
  simp [World.setRow, Array.getElem?_modify, Ne.symm hb]
theorem st_row (hgd : op.guard = none) (ty : TypeId) (x y : Operand) (ho : op.op = .store ty x y) (b : Nat) (cells : Array Value) (hx : a.eval x = .pointer (some ⟨b, 0, none⟩)) (hy : a.eval y = .agg cells) (old : Array Value) (t : TypeId) (hg : W.heap[b]? = some (.cells old t (0, 0)))
    (hi : (P.info? ty).map (·.size) = some cells.size) (hsz : old.size = cells.size) (h1 : cells.all (·.oneCell') = true)
    (h : ∀ W', W'.heap[b]? = some (.cells cells t (0, 0)) → KeepB b W W' → wpList P ops Q rest (a.put op.dst undef) W') : wpList P ops Q (op :: rest) a W :=
  wpList_plain hgd fun K hK => by
    have hr := run_storeVar_row (P := P) W b t ty old cells hg hi hsz h1
    unfold Oper.wp execOp
    simp only [ho, hx, hy, Instr.storeAt, Instr.sureAddr, Sem.run_bind, Sem.run_pure, Result.andThen_ok, hr]
    refine hK _ _ (h _ ?_ (setRow_keep W b cells))
    simp [World.setRow, Array.getElem?_modify, hg]
end
theorem at_of {cs : Array Value} {i : Nat} {v : Value} (h : cs[i]? = some v) : ∀ (hi : i < cs.size), cs[i]'hi = v := fun hi => by
  rw [Array.getElem?_eq_getElem hi] at h
  exact Option.some.inj h
theorem all_set {cs : Array Value} (h : cs.all (·.oneCell') = true) (i : Nat) {v : Value} (hv : v.oneCell' = true) : (cs.setIfInBounds i v).all (·.oneCell') = true := by
  rw [Array.all_eq_true_iff_forall_mem] at h ⊢
  intro x hx
  obtain ⟨j, hj⟩ := Array.mem_iff_getElem?.1 hx
  rw [Array.getElem?_setIfInBounds] at hj
  split at hj
  · split at hj
    · injection hj with hj; rw [← hj]; exact hv
    · cases hj
  · exact h x (Array.mem_iff_getElem?.2 ⟨j, hj⟩)
/-- Cells from place o on, set. -/
def setR (cs : Array Value) : Nat → List Value → Array Value
  | _, [] => cs
  | o, v :: r => setR (cs.setIfInBounds o v) (o + 1) r
theorem setR_size : ∀ (vs : List Value) (cs : Array Value) (o : Nat), (setR cs o vs).size = cs.size
  | [], _, _ => rfl
  | v :: r, cs, o => (setR_size r _ _).trans (by simp)
theorem setCells_blk {b t : Nat} : ∀ (vs : List Value) (o : Nat) (w : World) (cs : Array Value), w.heap[b]? = some (.cells cs t (0, 0)) → (w.setCells b o vs).heap[b]? = some (.cells (setR cs o vs) t (0, 0)) ∧ KeepB b w (w.setCells b o vs)
  | [], _, w, _, h => ⟨h, KeepB.refl _ _⟩
  | v :: r, o, w, cs, h => by
    have h1 := set_blk_ h o v
    have ⟨h2, h3⟩ := setCells_blk r (o + 1) _ _ h1
    exact ⟨h2, (KeepB.set b w o v).trans h3⟩
theorem there_of {w : World} {b t : Nat} {cs : Array Value} (h : w.heap[b]? = some (.cells cs t (0, 0))) (o n : Nat) (hn : o + n ≤ cs.size) : w.there b o n := fun j hj => by
  refine ⟨?_, blk_frozen h _⟩
  rw [blk_cell h, Array.getElem?_eq_getElem (by omega)]
  rfl
/-- A part of a row is stored as one. -/
theorem st_part {P : Program} {ops : Array Oper} {rest : List Oper} {op : Oper} {a : Act} {W : World} {Q : Exit → Act → World → Prop} (hgd : op.guard = none) (ty : TypeId) (x y : Operand) (ho : op.op = .store ty x y) (b o : Nat) (cells : Array Value) (hx : a.eval x = .pointer (some ⟨b, o, none⟩)) (hy : a.eval y = .agg cells) (cs : Array Value) (t : TypeId) (hg : W.heap[b]? = some (.cells cs t (0, 0)))
    (hi : (P.info? ty).map (·.size) = some cells.size) (hsz : o + cells.size ≤ cs.size) (h1 : cells.all (·.oneCell') = true)
    (h : ∀ W', W'.heap[b]? = some (.cells (setR cs o cells.toList) t (0, 0)) → KeepB b W W' → wpList P ops Q rest (a.put op.dst undef) W') : wpList P ops Q (op :: rest) a W := by
  refine wpList_store_mid hgd ty x y ho b o cells hx hy (there_of hg _ _ hsz) hi h1 ?_
  obtain ⟨e1, e2⟩ := setCells_blk cells.toList o W cs hg
  exact h _ e1 e2
theorem all_setR : ∀ (vs : List Value) (cs : Array Value) (o : Nat), cs.all (·.oneCell') = true → (∀ v, v ∈ vs → v.oneCell' = true) → (setR cs o vs).all (·.oneCell') = true
  | [], _, _, h, _ => h
  | v :: r, cs, o, h, hv => all_setR r _ _ (all_set h o (hv v (by simp))) (fun u hu => hv u (by simp [hu]))
theorem infoQ : (Tryd.prog.info? 27).map (·.size) = some 14 := by kernel_rfl
theorem infoP : (Tryd.prog.info? 29).map (·.size) = some 9 := by kernel_rfl
theorem info32 : (Tryd.prog.info? 32).map (·.size) = some 27 := by kernel_rfl
theorem results_cell1 {fn : Func} {p : Tmp} {ty : TypeId} (h : fn.results = #[.cell p ty]) (tmps : Array Value) (P : Program) (w : World) :
    (results fn tmps).run P w = ((asAddr (tmps.getD p undef)).run P w).andThen fun a w₁ => (loadVar ty a).run P w₁ := by
  simp only [results, h]
  simp [Sem.run_bind, Result.andThen]
/-- A step's result out of its cell. -/
theorem ret_step {fn : Func} {p : Tmp} (h : fn.results = #[.cell p 32]) {tmps : Array Value} {w : World} {b t : Nat} {cs : Array Value} {fr : Nat × Nat} (hp : tmps.getD p undef = .pointer (some ⟨b, 0, none⟩)) (hg : w.heap[b]? = some (.cells cs t fr)) (hs : cs.size = 27) :
    (results fn tmps).run Tryd.prog w = .ok (.agg cs) w := by
  rw [results_cell1 h, hp]
  have := run_loadVar_row (P := Tryd.prog) w b t 32 cs fr _ hg Tryd.underlying32 rfl (by rw [hs]; exact info32)
  simp [asAddr, Result.andThen, this]
end Go.Proofs.YtnkcgoaafpnbjaaDoor
/- script.bare, walked over opaque cells. -/
namespace Go.Proofs.YtnkcgoaafpnbjaaDoor
open Go.RowKit Go.Proofs.YtnkcgoaafpnbjaaDoorW.PrintWords
set_option linter.unusedVariables false
set_option linter.unusedSimpArgs false

def zq : List Value := [.int .i64 0, .int .i64 0, .bool false, .bool false, .bool false, .bool false, .bool false, .bool false, .bool false, .bool false, .string ⟨#[]⟩, .string ⟨#[]⟩, .string ⟨#[]⟩, .string ⟨#[]⟩]
def zp : List Value := [.int .i64 0, .int .i64 0, .int .i64 0, .int .i64 0, .int .i64 0, .int .i64 0, .int .i64 0, .int .i64 0, .int .i64 0]
set_option maxRecDepth 100000 in
set_option maxHeartbeats 4000000 in
theorem bare_1 (cs : Array Value) (hs : cs.size = 27) (h0 : cs[0]? = some (.int .i64 1)) (h1 : cs.all (·.oneCell') = true) (w : World) :
    Calls Tryd.prog 66 #[.agg cs] w fun e w' => e = .returned (.agg (cs.setIfInBounds 2 (.slice none 0 0))) ∧ Below w.heap.size w w' := by
  have HS := Aside0.mk hs
  have H1 := Aside0.mk h1
  have ha := at_of h0
  have hi1 := hs
  clear h1 h0 hs
  go_enter Tryd.func66, Tryd.ntmps66
  go_wp2_with (first
    | ((with_reducible refine gate_dst (N := 25) rfl ?_); go_must (refine ld_row rfl 32 _ rfl w.heap.size rfl _ _ _ _ ((Below.heap_alloc _ _ _ (by simp)).trans (heap_alloc_new w _)) Tryd.underlying32 rfl (by (try simp only [Array.size_setIfInBounds, setR_size]); rw [HS.out]; exact info32) ?_))
    | ((with_reducible refine gate_store (t := 32) (p := 2) rfl ?_); go_must (refine st_row rfl 32 _ _ rfl (w.heap.size + 1) _ rfl rfl _ _ (by rw [← World.size_alloc]; exact heap_alloc_new _ _) (by (try simp only [Array.size_setIfInBounds, setR_size]); rw [HS.out]; exact info32) (by (try simp only [Array.size_setIfInBounds, setR_size]); rw [HS.out]; rfl) (by repeat (first | exact H1.out | refine all_set ?_ _ rfl)) ?_; intro W2 hg2 hk2; have HG2 := Aside0.mk hg2; have HK2 := Aside0.mk hk2; clear hg2 hk2)))
  refine bodyPost_ret (ret_step rfl rfl HG2.out (by (try simp only [Array.size_setIfInBounds, setR_size]); exact HS.out)) rfl ⟨rfl, ?_⟩
  refine Below.trans ?_ (HK2.out.below (by simp; omega) (by omega))
  refine Below.alloc (Below.alloc (Below.refl _ _) (by omega) _) (by simp) _
set_option maxRecDepth 100000 in
set_option maxHeartbeats 4000000 in
theorem bare_2 (cs : Array Value) (hs : cs.size = 27) (h0 : cs[0]? = some (.int .i64 2)) (h1 : cs.all (·.oneCell') = true) (w : World) :
    Calls Tryd.prog 66 #[.agg cs] w fun e w' => e = .returned (.agg (setR cs 3 zq)) ∧ Below w.heap.size w w' := by
  have HS := Aside0.mk hs
  have H1 := Aside0.mk (all_setR zq cs 3 h1 (by unfold zq; simp [Value.oneCell']))
  have ha := at_of h0
  have hi2 := hs
  clear h1 h0 hs
  go_enter Tryd.func66, Tryd.ntmps66
  go_wp2_with (first
    | ((with_reducible refine gate_store (t := 27) (p := 11) rfl ?_); go_must (refine st_part rfl 27 _ _ rfl w.heap.size 3 _ rfl rfl cs _ ((Below.heap_alloc _ _ _ (by simp)).trans (heap_alloc_new w _)) infoQ (by rw [HS.out]; decide) (by simp [Value.oneCell']) ?_; intro W1 hg1 hk1; have HG1 : Aside0 (W1.heap[w.heap.size]? = some (.cells (setR cs 3 zq) 32 (0, 0))) := ⟨hg1⟩; have HK1 := Aside0.mk hk1; clear hg1 hk1))
    | ((with_reducible refine gate_dst (N := 25) rfl ?_); go_must (refine ld_row rfl 32 _ rfl w.heap.size rfl _ _ _ _ HG1.out Tryd.underlying32 rfl (by simp only [setR_size]; rw [HS.out]; exact info32) ?_))
    | ((with_reducible refine gate_store (t := 32) (p := 2) rfl ?_); go_must (refine st_row rfl 32 _ _ rfl (w.heap.size + 1) _ rfl rfl _ _ (HK1.out.blk (by omega) (by rw [← World.size_alloc]; exact heap_alloc_new _ _)) (by simp only [setR_size]; rw [HS.out]; exact info32) (by simp only [setR_size]; rw [HS.out]; rfl) H1.out ?_; intro W2 hg2 hk2; have HG2 := Aside0.mk hg2; have HK2 := Aside0.mk hk2; clear hg2 hk2)))
  refine bodyPost_ret (ret_step rfl rfl HG2.out (by simp only [setR_size]; exact HS.out)) rfl ⟨rfl, ?_⟩
  have hz := HK1.out.size
  simp only [World.size_alloc] at hz
  refine Below.trans (Below.trans ?_ (HK1.out.below (by simp; omega) (by omega))) (HK2.out.below (by omega) (by omega))
  refine Below.alloc (Below.alloc (Below.refl _ _) (by omega) _) (by simp) _
set_option maxRecDepth 100000 in
set_option maxHeartbeats 4000000 in
theorem bare_3 (cs : Array Value) (hs : cs.size = 27) (h0 : cs[0]? = some (.int .i64 3)) (h1 : cs.all (·.oneCell') = true) (w : World) :
    Calls Tryd.prog 66 #[.agg cs] w fun e w' => e = .returned (.agg (setR cs 17 zp)) ∧ Below w.heap.size w w' := by
  have HS := Aside0.mk hs
  have H1 := Aside0.mk (all_setR zp cs 17 h1 (by unfold zp; simp [Value.oneCell']))
  have ha := at_of h0
  have hi3 := hs
  clear h1 h0 hs
  go_enter Tryd.func66, Tryd.ntmps66
  go_wp2_with (first
    | ((with_reducible refine gate_store (t := 29) (p := 15) rfl ?_); go_must (refine st_part rfl 29 _ _ rfl w.heap.size 17 _ rfl rfl cs _ ((Below.heap_alloc _ _ _ (by simp)).trans (heap_alloc_new w _)) infoP (by rw [HS.out]; decide) (by simp [Value.oneCell']) ?_; intro W1 hg1 hk1; have HG1 : Aside0 (W1.heap[w.heap.size]? = some (.cells (setR cs 17 zp) 32 (0, 0))) := ⟨hg1⟩; have HK1 := Aside0.mk hk1; clear hg1 hk1))
    | ((with_reducible refine gate_dst (N := 25) rfl ?_); go_must (refine ld_row rfl 32 _ rfl w.heap.size rfl _ _ _ _ HG1.out Tryd.underlying32 rfl (by simp only [setR_size]; rw [HS.out]; exact info32) ?_))
    | ((with_reducible refine gate_store (t := 32) (p := 2) rfl ?_); go_must (refine st_row rfl 32 _ _ rfl (w.heap.size + 1) _ rfl rfl _ _ (HK1.out.blk (by omega) (by rw [← World.size_alloc]; exact heap_alloc_new _ _)) (by simp only [setR_size]; rw [HS.out]; exact info32) (by simp only [setR_size]; rw [HS.out]; rfl) H1.out ?_; intro W2 hg2 hk2; have HG2 := Aside0.mk hg2; have HK2 := Aside0.mk hk2; clear hg2 hk2)))
  refine bodyPost_ret (ret_step rfl rfl HG2.out (by simp only [setR_size]; exact HS.out)) rfl ⟨rfl, ?_⟩
  have hz := HK1.out.size
  simp only [World.size_alloc] at hz
  refine Below.trans (Below.trans ?_ (HK1.out.below (by simp; omega) (by omega))) (HK2.out.below (by omega) (by omega))
  refine Below.alloc (Below.alloc (Below.refl _ _) (by omega) _) (by simp) _
set_option maxRecDepth 100000 in
set_option maxHeartbeats 4000000 in
theorem bare_4 (cs : Array Value) (hs : cs.size = 27) (h0 : cs[0]? = some (.int .i64 4)) (h1 : cs.all (·.oneCell') = true) (w : World) :
    Calls Tryd.prog 66 #[.agg cs] w fun e w' => e = .returned (.agg (cs.setIfInBounds 1 (.int .i64 0))) ∧ Below w.heap.size w w' := by
  have HS := Aside0.mk hs
  have H1 := Aside0.mk h1
  have ha := at_of h0
  have hi4 := hs
  clear h1 h0 hs
  go_enter Tryd.func66, Tryd.ntmps66
  go_wp2_with (first
    | ((with_reducible refine gate_dst (N := 25) rfl ?_); go_must (refine ld_row rfl 32 _ rfl w.heap.size rfl _ _ _ _ ((Below.heap_alloc _ _ _ (by simp)).trans (heap_alloc_new w _)) Tryd.underlying32 rfl (by (try simp only [Array.size_setIfInBounds, setR_size]); rw [HS.out]; exact info32) ?_))
    | ((with_reducible refine gate_store (t := 32) (p := 2) rfl ?_); go_must (refine st_row rfl 32 _ _ rfl (w.heap.size + 1) _ rfl rfl _ _ (by rw [← World.size_alloc]; exact heap_alloc_new _ _) (by (try simp only [Array.size_setIfInBounds, setR_size]); rw [HS.out]; exact info32) (by (try simp only [Array.size_setIfInBounds, setR_size]); rw [HS.out]; rfl) (by repeat (first | exact H1.out | refine all_set ?_ _ rfl)) ?_; intro W2 hg2 hk2; have HG2 := Aside0.mk hg2; have HK2 := Aside0.mk hk2; clear hg2 hk2)))
  refine bodyPost_ret (ret_step rfl rfl HG2.out (by (try simp only [Array.size_setIfInBounds, setR_size]); exact HS.out)) rfl ⟨rfl, ?_⟩
  refine Below.trans ?_ (HK2.out.below (by simp; omega) (by omega))
  refine Below.alloc (Below.alloc (Below.refl _ _) (by omega) _) (by simp) _
set_option maxRecDepth 100000 in
set_option maxHeartbeats 4000000 in
theorem bare_5 (cs : Array Value) (hs : cs.size = 27) (h0 : cs[0]? = some (.int .i64 5)) (h1 : cs.all (·.oneCell') = true) (w : World) :
    Calls Tryd.prog 66 #[.agg cs] w fun e w' => e = .returned (.agg (cs.setIfInBounds 1 (.int .i64 0))) ∧ Below w.heap.size w w' := by
  have HS := Aside0.mk hs
  have H1 := Aside0.mk h1
  have ha := at_of h0
  have hi5 := hs
  clear h1 h0 hs
  go_enter Tryd.func66, Tryd.ntmps66
  go_wp2_with (first
    | ((with_reducible refine gate_dst (N := 25) rfl ?_); go_must (refine ld_row rfl 32 _ rfl w.heap.size rfl _ _ _ _ ((Below.heap_alloc _ _ _ (by simp)).trans (heap_alloc_new w _)) Tryd.underlying32 rfl (by (try simp only [Array.size_setIfInBounds, setR_size]); rw [HS.out]; exact info32) ?_))
    | ((with_reducible refine gate_store (t := 32) (p := 2) rfl ?_); go_must (refine st_row rfl 32 _ _ rfl (w.heap.size + 1) _ rfl rfl _ _ (by rw [← World.size_alloc]; exact heap_alloc_new _ _) (by (try simp only [Array.size_setIfInBounds, setR_size]); rw [HS.out]; exact info32) (by (try simp only [Array.size_setIfInBounds, setR_size]); rw [HS.out]; rfl) (by repeat (first | exact H1.out | refine all_set ?_ _ rfl)) ?_; intro W2 hg2 hk2; have HG2 := Aside0.mk hg2; have HK2 := Aside0.mk hk2; clear hg2 hk2)))
  refine bodyPost_ret (ret_step rfl rfl HG2.out (by (try simp only [Array.size_setIfInBounds, setR_size]); exact HS.out)) rfl ⟨rfl, ?_⟩
  refine Below.trans ?_ (HK2.out.below (by simp; omega) (by omega))
  refine Below.alloc (Below.alloc (Below.refl _ _) (by omega) _) (by simp) _
set_option maxRecDepth 100000 in
set_option maxHeartbeats 4000000 in
theorem bare_6 (cs : Array Value) (hs : cs.size = 27) (h0 : cs[0]? = some (.int .i64 6)) (h1 : cs.all (·.oneCell') = true) (w : World) :
    Calls Tryd.prog 66 #[.agg cs] w fun e w' => e = .returned (.agg (cs.setIfInBounds 26 (.slice none 0 0))) ∧ Below w.heap.size w w' := by
  have HS := Aside0.mk hs
  have H1 := Aside0.mk h1
  have ha := at_of h0
  have hi6 := hs
  clear h1 h0 hs
  go_enter Tryd.func66, Tryd.ntmps66
  go_wp2_with (first
    | ((with_reducible refine gate_dst (N := 25) rfl ?_); go_must (refine ld_row rfl 32 _ rfl w.heap.size rfl _ _ _ _ ((Below.heap_alloc _ _ _ (by simp)).trans (heap_alloc_new w _)) Tryd.underlying32 rfl (by (try simp only [Array.size_setIfInBounds, setR_size]); rw [HS.out]; exact info32) ?_))
    | ((with_reducible refine gate_store (t := 32) (p := 2) rfl ?_); go_must (refine st_row rfl 32 _ _ rfl (w.heap.size + 1) _ rfl rfl _ _ (by rw [← World.size_alloc]; exact heap_alloc_new _ _) (by (try simp only [Array.size_setIfInBounds, setR_size]); rw [HS.out]; exact info32) (by (try simp only [Array.size_setIfInBounds, setR_size]); rw [HS.out]; rfl) (by repeat (first | exact H1.out | refine all_set ?_ _ rfl)) ?_; intro W2 hg2 hk2; have HG2 := Aside0.mk hg2; have HK2 := Aside0.mk hk2; clear hg2 hk2)))
  refine bodyPost_ret (ret_step rfl rfl HG2.out (by (try simp only [Array.size_setIfInBounds, setR_size]); exact HS.out)) rfl ⟨rfl, ?_⟩
  refine Below.trans ?_ (HK2.out.below (by simp; omega) (by omega))
  refine Below.alloc (Below.alloc (Below.refl _ _) (by omega) _) (by simp) _
set_option maxRecDepth 100000 in
set_option maxHeartbeats 4000000 in
theorem bare_7 (cs : Array Value) (hs : cs.size = 27) (h0 : cs[0]? = some (.int .i64 7)) (h1 : cs.all (·.oneCell') = true) (w : World) :
    Calls Tryd.prog 66 #[.agg cs] w fun e w' => e = .returned (.agg (cs.setIfInBounds 1 (.int .i64 0))) ∧ Below w.heap.size w w' := by
  have HS := Aside0.mk hs
  have H1 := Aside0.mk h1
  have ha := at_of h0
  have hi7 := hs
  clear h1 h0 hs
  go_enter Tryd.func66, Tryd.ntmps66
  go_wp2_with (first
    | ((with_reducible refine gate_dst (N := 25) rfl ?_); go_must (refine ld_row rfl 32 _ rfl w.heap.size rfl _ _ _ _ ((Below.heap_alloc _ _ _ (by simp)).trans (heap_alloc_new w _)) Tryd.underlying32 rfl (by (try simp only [Array.size_setIfInBounds, setR_size]); rw [HS.out]; exact info32) ?_))
    | ((with_reducible refine gate_store (t := 32) (p := 2) rfl ?_); go_must (refine st_row rfl 32 _ _ rfl (w.heap.size + 1) _ rfl rfl _ _ (by rw [← World.size_alloc]; exact heap_alloc_new _ _) (by (try simp only [Array.size_setIfInBounds, setR_size]); rw [HS.out]; exact info32) (by (try simp only [Array.size_setIfInBounds, setR_size]); rw [HS.out]; rfl) (by repeat (first | exact H1.out | refine all_set ?_ _ rfl)) ?_; intro W2 hg2 hk2; have HG2 := Aside0.mk hg2; have HK2 := Aside0.mk hk2; clear hg2 hk2)))
  refine bodyPost_ret (ret_step rfl rfl HG2.out (by (try simp only [Array.size_setIfInBounds, setR_size]); exact HS.out)) rfl ⟨rfl, ?_⟩
  refine Below.trans ?_ (HK2.out.below (by simp; omega) (by omega))
  refine Below.alloc (Below.alloc (Below.refl _ _) (by omega) _) (by simp) _
set_option maxRecDepth 100000 in
set_option maxHeartbeats 4000000 in
theorem bare_8 (cs : Array Value) (hs : cs.size = 27) (h0 : cs[0]? = some (.int .i64 8)) (h1 : cs.all (·.oneCell') = true) (w : World) :
    Calls Tryd.prog 66 #[.agg cs] w fun e w' => e = .returned (.agg (cs.setIfInBounds 1 (.int .i64 0))) ∧ Below w.heap.size w w' := by
  have HS := Aside0.mk hs
  have H1 := Aside0.mk h1
  have ha := at_of h0
  have hi8 := hs
  clear h1 h0 hs
  go_enter Tryd.func66, Tryd.ntmps66
  go_wp2_with (first
    | ((with_reducible refine gate_dst (N := 25) rfl ?_); go_must (refine ld_row rfl 32 _ rfl w.heap.size rfl _ _ _ _ ((Below.heap_alloc _ _ _ (by simp)).trans (heap_alloc_new w _)) Tryd.underlying32 rfl (by (try simp only [Array.size_setIfInBounds, setR_size]); rw [HS.out]; exact info32) ?_))
    | ((with_reducible refine gate_store (t := 32) (p := 2) rfl ?_); go_must (refine st_row rfl 32 _ _ rfl (w.heap.size + 1) _ rfl rfl _ _ (by rw [← World.size_alloc]; exact heap_alloc_new _ _) (by (try simp only [Array.size_setIfInBounds, setR_size]); rw [HS.out]; exact info32) (by (try simp only [Array.size_setIfInBounds, setR_size]); rw [HS.out]; rfl) (by repeat (first | exact H1.out | refine all_set ?_ _ rfl)) ?_; intro W2 hg2 hk2; have HG2 := Aside0.mk hg2; have HK2 := Aside0.mk hk2; clear hg2 hk2)))
  refine bodyPost_ret (ret_step rfl rfl HG2.out (by (try simp only [Array.size_setIfInBounds, setR_size]); exact HS.out)) rfl ⟨rfl, ?_⟩
  refine Below.trans ?_ (HK2.out.below (by simp; omega) (by omega))
  refine Below.alloc (Below.alloc (Below.refl _ _) (by omega) _) (by simp) _
set_option maxRecDepth 100000 in
set_option maxHeartbeats 4000000 in
theorem bare_9 (cs : Array Value) (hs : cs.size = 27) (k : Int) (n1 : k ≠ 1) (n2 : k ≠ 2) (n3 : k ≠ 3) (n4 : k ≠ 4) (n5 : k ≠ 5) (n6 : k ≠ 6) (n7 : k ≠ 7) (n8 : k ≠ 8) (h0 : cs[0]? = some (.int .i64 k)) (h1 : cs.all (·.oneCell') = true) (w : World) :
    Calls Tryd.prog 66 #[.agg cs] w fun e w' => e = .returned (.agg cs) ∧ Below w.heap.size w w' := by
  have HS := Aside0.mk hs
  have H1 := Aside0.mk h1
  have ha := at_of h0
  have hi9 := hs
  clear h1 h0 hs
  go_enter Tryd.func66, Tryd.ntmps66
  go_wp2_with (first
    | ((with_reducible refine gate_dst (N := 25) rfl ?_); go_must (refine ld_row rfl 32 _ rfl w.heap.size rfl _ _ _ _ ((Below.heap_alloc _ _ _ (by simp)).trans (heap_alloc_new w _)) Tryd.underlying32 rfl (by (try simp only [Array.size_setIfInBounds, setR_size]); rw [HS.out]; exact info32) ?_))
    | ((with_reducible refine gate_store (t := 32) (p := 2) rfl ?_); go_must (refine st_row rfl 32 _ _ rfl (w.heap.size + 1) _ rfl rfl _ _ (by rw [← World.size_alloc]; exact heap_alloc_new _ _) (by (try simp only [Array.size_setIfInBounds, setR_size]); rw [HS.out]; exact info32) (by (try simp only [Array.size_setIfInBounds, setR_size]); rw [HS.out]; rfl) (by repeat (first | exact H1.out | refine all_set ?_ _ rfl)) ?_; intro W2 hg2 hk2; have HG2 := Aside0.mk hg2; have HK2 := Aside0.mk hk2; clear hg2 hk2)))
  refine bodyPost_ret (ret_step rfl rfl HG2.out (by (try simp only [Array.size_setIfInBounds, setR_size]); exact HS.out)) rfl ⟨rfl, ?_⟩
  refine Below.trans ?_ (HK2.out.below (by simp; omega) (by omega))
  refine Below.alloc (Below.alloc (Below.refl _ _) (by omega) _) (by simp) _
end Go.Proofs.YtnkcgoaafpnbjaaDoor
/- slices.Equal with no elements on the right; script.Same$1 with an empty step on the right. -/
namespace Go.Proofs.YtnkcgoaafpnbjaaDoor
open Go.RowKit Go.Proofs.YtnkcgoaafpnbjaaDoorW.PrintWords
set_option linter.unusedVariables false
set_option linter.unusedSimpArgs false


set_option maxRecDepth 100000 in
theorem eqF_nil (A : Option Addr) (n c : Nat) (w : World) : Calls Tryd.prog 87 #[.slice A n c, .slice none 0 0] w fun e w' => e = .returned (.bool (decide (n = 0))) ∧ w' = w := by
  by_cases hn : n = 0
  · subst hn
    go_enter Tryd.func87, Tryd.ntmps87
    go_wp2
    go_loopg [13] 0 (fun g i wr => g = 0 ∧ i = .int .i64 0 ∧ wr = w)
    case atStart => exact ⟨rfl, rfl, rfl⟩
    case round =>
      obtain ⟨rfl, rfl, rfl⟩ := hrel
      go_wp2
      go_ret
      exact ⟨rfl, rfl⟩
  · have hne : ((n : Int) != 0) = true := by simp; omega
    have HD := Aside0.mk (decide_eq_false hn)
    go_enter Tryd.func87, Tryd.ntmps87
    go_wp2
    go_ret
    exact ⟨ret_bool HD.out.symm, rfl⟩
set_option maxRecDepth 100000 in
theorem eqB_nil (A : Option Addr) (n c : Nat) (w : World) : Calls Tryd.prog 88 #[.slice A n c, .slice none 0 0] w fun e w' => e = .returned (.bool (decide (n = 0))) ∧ w' = w := by
  by_cases hn : n = 0
  · subst hn
    go_enter Tryd.func88, Tryd.ntmps88
    go_wp2
    go_loopg [13] 0 (fun g i wr => g = 0 ∧ i = .int .i64 0 ∧ wr = w)
    case atStart => exact ⟨rfl, rfl, rfl⟩
    case round =>
      obtain ⟨rfl, rfl, rfl⟩ := hrel
      go_wp2
      go_ret
      exact ⟨rfl, rfl⟩
  · have hne : ((n : Int) != 0) = true := by simp; omega
    have HD := Aside0.mk (decide_eq_false hn)
    go_enter Tryd.func88, Tryd.ntmps88
    go_wp2
    go_ret
    exact ⟨ret_bool HD.out.symm, rfl⟩
def nils : Value := .slice none 0 0
/-- A step's cells. -/
def cStp (k n : Int) (fa : Value) (q : Qry) (p : Pol) (fl : Value) : Array Value := #[.int .i64 k, .int .i64 n, fa, .int .i64 q.f0, .int .i64 q.f1, .bool q.f2.f0, .bool q.f2.f1, .bool q.f2.f2, .bool q.f2.f3, .bool q.f3.f0, .bool q.f3.f1, .bool q.f3.f2, .bool q.f3.f3, .string q.f4.f0, .string q.f4.f1, .string q.f4.f2, .string q.f4.f3, .int .i64 p.f0, .int .i64 p.f1, .int .i64 p.f2, .int .i64 p.f3, .int .i64 p.f4, .int .i64 p.f5, .int .i64 p.f6, .int .i64 p.f7, .int .i64 p.f8, fl]
theorem eqQ_op (x y : Qry) (W : World) : (binOp .eql 27 (.agg (cQry x)) (.agg (cQry y))).run Tryd.prog W = .ok (.bool (qEq x y)) W := by
  rw [run_eql_struct, eqQry_run]
  rfl
theorem eqP_op (x y : Pol) (W : World) : (binOp .eql 29 (.agg (cPol x)) (.agg (cPol y))).run Tryd.prog W = .ok (.bool (pEq x y)) W := by
  rw [run_eql_struct, eqPol_run]
  rfl
/-- A comparison of two aggregates, by a law of its own, inside a guard. -/
theorem op_bin_g {P : Program} {ops : Array Oper} {rest : List Oper} {op : Oper} {a : Act} {W : World} {Q : Exit → Act → World → Prop} (hw : Region.wanted op (yielded ops a.tmps) = true) (t t2 : TypeId) (x y : Operand) (ho : op.op = .binOp .eql t x y t2) (vx vy : Array Value) (v : Value) (hx : a.eval x = .agg vx) (hy : a.eval y = .agg vy) (hr : ∀ W, (binOp .eql t (.agg vx) (.agg vy)).run P W = .ok v W) (hty : P.eqGuardType P.depth t = false)
    (h : wpList P ops Q rest (a.put op.dst v) W) : wpList P ops Q (op :: rest) a W :=
  wpList_step fun K hK => by
    rw [if_pos hw]
    have hg : (eqGuard .eql t x y (.agg vx) (.agg vy)).run P W = .ok () W := by
      simp [eqGuard, hty]
    unfold Oper.wp execOp
    simp only [ho, hx, hy, Sem.run_bind, Sem.run_pure, Result.andThen_ok, hr, hg]
    exact hK _ _ h
set_option maxRecDepth 100000 in
set_option maxHeartbeats 4000000 in
theorem same_nil (k n : Int) (A1 : Option Addr) (n1 c1 : Nat) (q : Qry) (p : Pol) (A2 : Option Addr) (n2 c2 : Nat) (cs cy : Array Value) (hcs : cs = cStp k n (.slice A1 n1 c1) q p (.slice A2 n2 c2)) (hcy : cy = cStp k 0 nils zQry zPol nils) (w : World) :
    Calls Tryd.prog 86 #[.agg cs, .agg cy] w fun e w' => e = .returned (.bool (n == 0 && (qEq q zQry && (pEq p zPol && (decide (n1 = 0) && decide (n2 = 0)))))) ∧ Below w.heap.size w w' := by
  have HCS := Aside0.mk hcs
  have HCY := Aside0.mk hcy
  have hsx : cs.size = 27 := by subst hcs; rfl
  have hsy : cy.size = 27 := by subst hcy; rfl
  have hq0 : ∀ W, (binOp .eql 27 (.agg #[cs[3]'(by omega), cs[4]'(by omega), cs[5]'(by omega), cs[6]'(by omega), cs[7]'(by omega), cs[8]'(by omega), cs[9]'(by omega), cs[10]'(by omega), cs[11]'(by omega), cs[12]'(by omega), cs[13]'(by omega), cs[14]'(by omega), cs[15]'(by omega), cs[16]'(by omega)]) (.agg #[cy[3]'(by omega), cy[4]'(by omega), cy[5]'(by omega), cy[6]'(by omega), cy[7]'(by omega), cy[8]'(by omega), cy[9]'(by omega), cy[10]'(by omega), cy[11]'(by omega), cy[12]'(by omega), cy[13]'(by omega), cy[14]'(by omega), cy[15]'(by omega), cy[16]'(by omega)])).run Tryd.prog W = .ok (.bool (qEq q zQry)) W := by subst hcs; subst hcy; exact eqQ_op q zQry
  have hp0 : ∀ W, (binOp .eql 29 (.agg #[cs[17]'(by omega), cs[18]'(by omega), cs[19]'(by omega), cs[20]'(by omega), cs[21]'(by omega), cs[22]'(by omega), cs[23]'(by omega), cs[24]'(by omega), cs[25]'(by omega)]) (.agg #[cy[17]'(by omega), cy[18]'(by omega), cy[19]'(by omega), cy[20]'(by omega), cy[21]'(by omega), cy[22]'(by omega), cy[23]'(by omega), cy[24]'(by omega), cy[25]'(by omega)])).run Tryd.prog W = .ok (.bool (pEq p zPol)) W := by subst hcs; subst hcy; exact eqP_op p zPol
  have x0 : ∀ (hi : 0 < cs.size), cs[0]'hi = .int .i64 k := by subst hcs; exact fun _ => rfl
  have x1 : ∀ (hi : 1 < cs.size), cs[1]'hi = .int .i64 n := by subst hcs; exact fun _ => rfl
  have x2 : ∀ (hi : 2 < cs.size), cs[2]'hi = .slice A1 n1 c1 := by subst hcs; exact fun _ => rfl
  have x26 : ∀ (hi : 26 < cs.size), cs[26]'hi = .slice A2 n2 c2 := by subst hcs; exact fun _ => rfl
  have y0 : ∀ (hi : 0 < cy.size), cy[0]'hi = .int .i64 k := by subst hcy; exact fun _ => rfl
  have y1 : ∀ (hi : 1 < cy.size), cy[1]'hi = .int .i64 0 := by subst hcy; exact fun _ => rfl
  have y2 : ∀ (hi : 2 < cy.size), cy[2]'hi = .slice none 0 0 := by subst hcy; exact fun _ => rfl
  have y26 : ∀ (hi : 26 < cy.size), cy[26]'hi = .slice none 0 0 := by subst hcy; exact fun _ => rfl
  have HBB := Aside0.mk (Below.alloc (Below.alloc (Below.refl w.heap.size w) (Nat.le_refl _) (.cells cs 32)) (by simp) (.cells cy 32))
  have HQ0 := Aside0.mk hq0
  have HP0 := Aside0.mk hp0
  clear hcs hcy HCS HCY hq0 hp0
  by_cases hn : n = 0
  · subst hn
    cases hqe : qEq q zQry
    · rw [hqe] at HQ0
      clear hqe
      go_enter Tryd.func86, Tryd.ntmps86
      go_wp2_with ((with_reducible refine gate_dst (N := 22) rfl ?_); go_must (refine op_bin_g (by rfl) _ _ _ _ rfl _ _ _ rfl rfl HQ0.out (by kernel_rfl) ?_))
      go_ret
      exact ⟨rfl, HBB.out⟩
    · rw [hqe] at HQ0
      clear hqe
      cases hpe : pEq p zPol
      · rw [hpe] at HP0
        clear hpe
        go_enter Tryd.func86, Tryd.ntmps86
        go_wp2_with (first | ((with_reducible refine gate_dst (N := 22) rfl ?_); go_must (refine op_bin_g (by rfl) _ _ _ _ rfl _ _ _ rfl rfl HQ0.out (by kernel_rfl) ?_)) | ((with_reducible refine gate_dst (N := 29) rfl ?_); go_must (refine op_bin_g (by rfl) _ _ _ _ rfl _ _ _ rfl rfl HP0.out (by kernel_rfl) ?_)))
        go_ret
        exact ⟨rfl, HBB.out⟩
      · rw [hpe] at HP0
        clear hpe
        cases hd1 : decide (n1 = 0)
        · have HF := Aside0.mk (fun W => hd1 ▸ eqF_nil A1 n1 c1 W)
          go_enter Tryd.func86, Tryd.ntmps86
          go_wp2_with (first | ((with_reducible refine gate_dst (N := 22) rfl ?_); go_must (refine op_bin_g (by rfl) _ _ _ _ rfl _ _ _ rfl rfl HQ0.out (by kernel_rfl) ?_)) | ((with_reducible refine gate_dst (N := 29) rfl ?_); go_must (refine op_bin_g (by rfl) _ _ _ _ rfl _ _ _ rfl rfl HP0.out (by kernel_rfl) ?_)) | (go_at_call 87; refine (HF.out _).mono ?_; rintro e w' ⟨rfl, hw⟩; subst hw))
          go_ret
          exact ⟨rfl, HBB.out⟩
        · have HF := Aside0.mk (fun W => hd1 ▸ eqF_nil A1 n1 c1 W)
          have HB := Aside0.mk (eqB_nil A2 n2 c2)
          go_enter Tryd.func86, Tryd.ntmps86
          go_wp2_with (first | ((with_reducible refine gate_dst (N := 22) rfl ?_); go_must (refine op_bin_g (by rfl) _ _ _ _ rfl _ _ _ rfl rfl HQ0.out (by kernel_rfl) ?_)) | ((with_reducible refine gate_dst (N := 29) rfl ?_); go_must (refine op_bin_g (by rfl) _ _ _ _ rfl _ _ _ rfl rfl HP0.out (by kernel_rfl) ?_)) | (go_at_call 87; refine (HF.out _).mono ?_; rintro e w' ⟨rfl, hw⟩; subst hw) | (go_at_call 88; refine (HB.out _).mono ?_; rintro e w' ⟨rfl, hw⟩; subst hw))
          all_goals go_ret
          all_goals exact ⟨rfl, HBB.out⟩
  · have hne : (n == 0) = false := by rw [beq_eq_false_iff_ne]; exact hn
    go_enter Tryd.func86, Tryd.ntmps86
    go_wp2
    go_ret
    exact ⟨ret_bool (by rw [hne]; rfl), HBB.out⟩
end Go.Proofs.YtnkcgoaafpnbjaaDoor
/- slices.EqualFunc of one step each; script.Same of one step each. -/
namespace Go.Proofs.YtnkcgoaafpnbjaaDoor
open Go.RowKit Go.Proofs.YtnkcgoaafpnbjaaDoorW.PrintWords
set_option linter.unusedVariables false
set_option linter.unusedSimpArgs false

set_option maxRecDepth 100000 in
set_option maxHeartbeats 4000000 in
theorem eqFunc_one (cs cy : Array Value) (r : Bool) (hs : cs.size = 27) (hsy : cy.size = 27) (hc1 : cs.all (·.oneCell') = true) (hy1 : cy.all (·.oneCell') = true)
    (H : ∀ W, Calls Tryd.prog 86 #[.agg cs, .agg cy] W fun e w' => e = .returned (.bool r) ∧ Below W.heap.size W w')
    (b1 b2 : Nat) (w : World) (h1 : w.heap[b1]? = some (.cells cs 32 (0, 0))) (h2 : w.heap[b2]? = some (.cells cy 32 (0, 0))) (fv : Value) (hfv : fv = .func (.func 86) #[] #[]) :
    Calls Tryd.prog 85 #[.slice (some ⟨b1, 0, none⟩) 1 1, .slice (some ⟨b2, 0, none⟩) 1 1, fv] w fun e w' => e = .returned (.bool r) ∧ Below w.heap.size w w' := by
  subst hfv
  have HH := Aside0.mk H
  have HS := Aside0.mk hs
  have HSY := Aside0.mk hsy
  have HX := Aside0.mk hc1
  have HY := Aside0.mk hy1
  have HB1 := Aside0.mk h1
  have HB2 := Aside0.mk h2
  have hl1 := blk_lt h1
  have hl2 := blk_lt h2
  clear H hs hsy hc1 hy1 h1 h2
  go_enter Tryd.func85, Tryd.ntmps85
  go_wp2
  go_loopg [17] 1 (fun g i wr => (g = 1 ∧ i = .int .i64 0 ∧ wr = w) ∨ (g = 0 ∧ i = .int .i64 1 ∧ r = true ∧ Aside0 (Below w.heap.size w wr)))
  case atStart => exact .inl ⟨rfl, rfl, rfl⟩
  case round =>
    rcases hrel with ⟨rfl, rfl, rfl⟩ | ⟨rfl, rfl, rfl, HB⟩
    · cases r
      all_goals
        go_wp2_with (first
          | ((with_reducible refine gate_dst (N := 21) rfl ?_); go_must (refine ld_row rfl 32 _ rfl b1 rfl _ _ _ _ HB1.out Tryd.underlying32 rfl (by rw [HS.out]; exact info32) ?_))
          | ((with_reducible refine gate_store (t := 32) (p := 8) rfl ?_); go_must (refine st_row rfl 32 _ _ rfl wr.heap.size _ rfl rfl _ _ (heap_alloc_new _ _) (by rw [HS.out]; exact info32) (by rw [HS.out]; rfl) HX.out ?_; intro W2 hg2 hk2; have HG2 := Aside0.mk hg2; have HK2 := Aside0.mk hk2; have hz2 := hk2.size; rw [World.size_alloc] at hz2; clear hg2 hk2))
          | ((with_reducible refine gate_dst (N := 25) rfl ?_); go_must (refine ld_row rfl 32 _ rfl b2 rfl _ _ _ _ (HK2.out.blk (by omega) ((Below.heap_alloc _ _ _ hl2).trans HB2.out)) Tryd.underlying32 rfl (by rw [HSY.out]; exact info32) ?_))
          | ((with_reducible refine gate_store (t := 32) (p := 9) rfl ?_); go_must (refine st_row rfl 32 _ _ rfl W2.heap.size _ rfl rfl _ _ (heap_alloc_new _ _) (by rw [HSY.out]; exact info32) (by rw [HSY.out]; rfl) HY.out ?_; intro W3 hg3 hk3; have HG3 := Aside0.mk hg3; have HK3 := Aside0.mk hk3; have hz3 := hk3.size; rw [World.size_alloc] at hz3; clear hg3 hk3))
          | ((with_reducible refine gate_dst (N := 27) rfl ?_); go_must (refine ld_row rfl 32 _ rfl wr.heap.size rfl _ _ _ _ (HK3.out.blk (by omega) ((Below.heap_alloc _ _ _ (by omega)).trans HG2.out)) Tryd.underlying32 rfl (by rw [HS.out]; exact info32) ?_))
          | ((with_reducible refine gate_dst (N := 28) rfl ?_); go_must (refine ld_row rfl 32 _ rfl W2.heap.size rfl _ _ _ _ HG3.out Tryd.underlying32 rfl (by rw [HSY.out]; exact info32) ?_))
          | (go_at_call 86; refine (HH.out _).mono ?_; rintro e w4 ⟨rfl, hB4⟩; have HB4 := Aside0.mk hB4; clear hB4))
      · go_ret
        refine ⟨rfl, ?_⟩
        refine Below.trans (Below.trans ?_ (HK2.out.below (by simp) (by omega))) (Below.trans (Below.trans ?_ (HK3.out.below (by simp; omega) (by omega))) (HB4.out.mono (by omega)))
        · exact Below.alloc (Below.refl _ _) (by omega) _
        · exact Below.alloc (Below.refl _ _) (by omega) _
      · go_roundg 0
        case measure => omega
        case rel =>
          refine .inr ⟨rfl, by go_num, by trivial, ⟨?_⟩⟩
          refine Below.trans (Below.trans ?_ (HK2.out.below (by simp) (by omega))) (Below.trans (Below.trans ?_ (HK3.out.below (by simp; omega) (by omega))) (HB4.out.mono (by omega)))
          · exact Below.alloc (Below.refl _ _) (by omega) _
          · exact Below.alloc (Below.refl _ _) (by omega) _
    · go_wp2
      go_ret
      exact ⟨rfl, HB.out⟩

set_option maxRecDepth 100000 in
set_option maxHeartbeats 4000000 in
theorem same_one (cs cy : Array Value) (r : Bool) (hs : cs.size = 27) (hsy : cy.size = 27) (hc1 : cs.all (·.oneCell') = true) (hy1 : cy.all (·.oneCell') = true)
    (H : ∀ W, Calls Tryd.prog 86 #[.agg cs, .agg cy] W fun e w' => e = .returned (.bool r) ∧ Below W.heap.size W w')
    (b1 b2 : Nat) (w : World) (h1 : w.heap[b1]? = some (.cells cs 32 (0, 0))) (h2 : w.heap[b2]? = some (.cells cy 32 (0, 0))) :
    Calls Tryd.prog 67 #[.slice (some ⟨b1, 0, none⟩) 1 1, .slice (some ⟨b2, 0, none⟩) 1 1] w fun e w' => e = .returned (.bool r) ∧ Below w.heap.size w w' := by
  have HF := Aside0.mk (eqFunc_one cs cy r hs hsy hc1 hy1 H b1 b2 w h1 h2 _ rfl)
  clear H hs hsy hc1 hy1 h1 h2
  go_enter Tryd.func67, Tryd.ntmps67
  go_wp2_with (go_at_call 85; refine HF.out.mono ?_; rintro e w1 ⟨rfl, hB⟩; have HB := Aside0.mk hB; clear hB)
  go_ret
  exact ⟨rfl, HB.out⟩
end Go.Proofs.YtnkcgoaafpnbjaaDoor
/- The new row of a slice literal of one step is the step's cells. -/
namespace Go.Proofs.YtnkcgoaafpnbjaaDoor
open Go.RowKit Go.Proofs.YtnkcgoaafpnbjaaDoorW.PrintWords
set_option linter.unusedVariables false
set_option linter.unusedSimpArgs false
theorem fold_sets : ∀ (l : List Value) (j : Nat) (z : Array Value), j + l.length ≤ z.size → (l.zipIdx j).foldl (fun (cs : Array Value) (x : Value × Nat) => cs.setIfInBounds x.snd x.fst) z = setR z j l
  | [], _, _, _ => rfl
  | v :: l, j, z, h => by
    simp only [List.zipIdx_cons, List.foldl_cons, setR]
    exact fold_sets l (j + 1) _ (by simp at h ⊢; omega)
theorem setR_get : ∀ (l : List Value) (j : Nat) (z : Array Value) (i : Nat), j + l.length ≤ z.size → (setR z j l)[i]? = if j ≤ i ∧ i < j + l.length then l[i - j]? else z[i]?
  | [], j, z, i, h => by simp [setR]; intro h1 h2; omega
  | v :: l, j, z, i, h => by
    simp only [setR]
    rw [setR_get l (j + 1) _ i (by simp at h ⊢; omega)]
    simp at h
    by_cases hi : i = j
    · subst hi
      rw [if_neg (by omega), if_pos (by simp), Array.getElem?_setIfInBounds_self_of_lt (by omega)]
      simp
    · by_cases hin : j + 1 ≤ i ∧ i < j + 1 + l.length
      · rw [if_pos hin, if_pos (by simp; omega)]
        rw [show i - j = (i - (j + 1)) + 1 by omega]
        rfl
      · rw [if_neg hin, if_neg (by simp; omega), Array.getElem?_setIfInBounds_ne (by omega)]
theorem setR_all (l : List Value) (z : Array Value) (h : l.length = z.size) : setR z 0 l = l.toArray := by
  apply Array.ext_getElem?
  intro i
  rw [setR_get l 0 z i (by omega)]
  by_cases hi : i < l.length
  · rw [if_pos (by omega)]; simp
  · rw [if_neg (by omega)]
    rw [Array.getElem?_eq_none (by omega)]
    simp; omega
/-- So: the new row's cells. -/
theorem fold_all (bs z : Array Value) (n : Nat) (h : bs.size = n) (hz : z.size = n) : Array.foldl (fun (cs : Array Value) (x : Value × Nat) => cs.setIfInBounds x.snd x.fst) z (bs.zipIdx) 0 n = bs := by
  subst h
  obtain ⟨l⟩ := bs
  have h1 := fold_sets l 0 z (by simp at hz; omega)
  rw [setR_all l z (by simpa using hz.symm)] at h1
  refine Eq.trans ?_ h1
  simp
end Go.Proofs.YtnkcgoaafpnbjaaDoor
/- script.Right, of an ingest. -/
namespace Go.Proofs.YtnkcgoaafpnbjaaDoor
open Go.RowKit Go.Proofs.YtnkcgoaafpnbjaaDoorW.PrintWords
set_option linter.unusedVariables false
set_option linter.unusedSimpArgs false
section
variable {P : Program} {ops : Array Oper} {rest : List Oper} {op : Oper} {a : Act} {W : World} {Q : Exit → Act → World → Prop}
theorem ld_row_g (hw : Region.wanted op (yielded ops a.tmps) = true) (ty : TypeId) (x : Operand) (ho : op.op = .load ty x) (b : Nat) (hx : a.eval x = .pointer (some ⟨b, 0, none⟩)) (cs : Array Value) (t : TypeId) (fr : Nat × Nat) (d : TypeDesc) (hg : W.heap[b]? = some (.cells cs t fr))
    (hu : P.underlying ty = some d) (hd : (match d with | .struct _ | .array _ _ => true | _ => false) = true) (hi : (P.info? ty).map (·.size) = some cs.size)
    (h : wpList P ops Q rest (a.put op.dst (.agg cs)) W) : wpList P ops Q (op :: rest) a W :=
  wpList_step fun K hK => by
    rw [if_pos hw]
    exact wp_load_row ty x ho b hx t cs fr d hg hu hd hi (hK _ _ h)
end
theorem cStp_all (k n : Int) (A1 : Option Addr) (n1 c1 : Nat) (q : Qry) (p : Pol) (A2 : Option Addr) (n2 c2 : Nat) : (cStp k n (.slice A1 n1 c1) q p (.slice A2 n2 c2)).all (·.oneCell') = true := by simp [cStp, Value.oneCell']
set_option maxRecDepth 100000 in
set_option maxHeartbeats 4000000 in
theorem right_1 (n : Int) (l : List Fct) (A1 : Option Addr) (c1 : Nat) (q : Qry) (p : Pol) (A2 : Option Addr) (n2 c2 : Nat) (dims : Int) (cs : Array Value) (hcs : cs = cStp 1 n (.slice A1 l.length c1) q p (.slice A2 n2 c2)) (w : World)
    (hA : kFct.C w A1 l.length l) (hc : l.length ≤ c1) (hcm : c1 ≤ 9223372036854775807) :
    Calls Tryd.prog 47 #[.agg cs, .int .i64 dims] w fun e w' => e = .returned (.bool ((n == 0 && (qEq q zQry && (pEq p zPol && decide (n2 = 0)))) && decide ((fAll dims l).1 = 0))) ∧ Below w.heap.size w w' := by
  have hsx : cs.size = 27 := by subst hcs; rfl
  have H1 := Aside0.mk (show cs.all (·.oneCell') = true by subst hcs; exact cStp_all _ _ _ _ _ _ _ _ _ _)
  have x0 : ∀ (hi : 0 < cs.size), cs[0]'hi = .int .i64 1 := by subst hcs; exact fun _ => rfl
  have x2 : ∀ (hi : 2 < cs.size), cs[2]'hi = .slice A1 l.length c1 := by subst hcs; exact fun _ => rfl
  have HS := Aside0.mk hsx
  have HBA := Aside0.mk (fun W => bare_1 cs hsx (by subst hcs; rfl) H1.out W)
  have hb : cs.setIfInBounds 2 (.slice none 0 0) = cStp 1 n (.slice none 0 0) q p (.slice A2 n2 c2) := by subst hcs; rfl
  rw [hb] at HBA
  have HSA : Aside0 (∀ W, Calls Tryd.prog 86 #[.agg (cStp 1 n (.slice none 0 0) q p (.slice A2 n2 c2)), .agg (cStp 1 0 nils zQry zPol nils)] W fun e w' => e = .returned (.bool (n == 0 && (qEq q zQry && (pEq p zPol && decide (n2 = 0))))) ∧ Below W.heap.size W w') := ⟨fun W => same_nil 1 n none 0 0 q p A2 n2 c2 _ _ rfl rfl W⟩
  generalize (n == 0 && (qEq q zQry && (pEq p zPol && decide (n2 = 0)))) = rr at *
  have HBC := Aside0.mk (cStp_all 1 n none 0 0 q p A2 n2 c2)
  generalize hbs : cStp 1 n (.slice none 0 0) q p (.slice A2 n2 c2) = bs at *
  have hsb : bs.size = 27 := by subst hbs; rfl
  have HSB := Aside0.mk hsb
  have hfold : Array.foldl (fun (cs : Array Value) (x : Value × Nat) => cs.setIfInBounds x.snd x.fst) #[.int .i64 0, .int .i64 0, .slice none 0 0, .int .i64 0, .int .i64 0, .bool false, .bool false, .bool false, .bool false, .bool false, .bool false, .bool false, .bool false, .string ⟨#[]⟩, .string ⟨#[]⟩, .string ⟨#[]⟩, .string ⟨#[]⟩, .int .i64 0, .int .i64 0, .int .i64 0, .int .i64 0, .int .i64 0, .int .i64 0, .int .i64 0, .int .i64 0, .int .i64 0, .slice none 0 0] (bs.zipIdx) 0 27 = bs := fold_all bs _ 27 hsb rfl
  have HFA := Aside0.mk (fun W (hB : Below w.heap.size w W) => fAll_any l A1 c1 dims W (Kd.C_below hA hB) hc hcm)
  clear hb hbs hcs hA
  cases rr
  · skip
    go_enter Tryd.func47, Tryd.ntmps47
    go_wp2_with (first
      | ((with_reducible refine gate_dst (N := 8) rfl ?_); go_must (refine ld_row rfl 32 _ rfl w.heap.size rfl _ _ _ _ (heap_alloc_new w _) Tryd.underlying32 rfl (by rw [HS.out]; exact info32) ?_))
      | (go_at_call 66; refine (HBA.out _).mono ?_; rintro e w1 ⟨rfl, hB1⟩; have HB1 := Aside0.mk hB1; have hz1 := hB1.size; rw [World.size_alloc] at hz1; clear hB1)
      | ((with_reducible refine gate_store (t := 32) (p := 5) rfl ?_); go_must (refine st_row rfl 32 _ _ rfl w1.heap.size _ rfl rfl _ _ (heap_alloc_new _ _) (by rw [HSB.out]; exact info32) (by rw [HSB.out]; rfl) HBC.out ?_; intro W2 hg2 hk2; have HG2 := Aside0.mk hg2; have HK2 := Aside0.mk hk2; have hz2 := hk2.size; rw [World.size_alloc] at hz2; have hC2 : W2.heap[w.heap.size]? = some (.cells cs 32 (0, 0)) := hk2.blk (by omega) ((Below.heap_alloc _ _ _ (by omega)).trans ((HB1.out.block w.heap.size (by simp)).trans (heap_alloc_new w _))); have HC2 := Aside0.mk hC2; have hk0 : W2.cell? ⟨w.heap.size, 0, none⟩ = some (.int .i64 1) := (by rw [blk_cell hC2, Array.getElem?_eq_getElem (by omega), x0]); have hk2c : W2.cell? ⟨w.heap.size, 2, none⟩ = some (.slice A1 l.length c1) := (by rw [blk_cell hC2, Array.getElem?_eq_getElem (by omega), x2]); have hk0a : ∀ o, (W2.alloc o).cell? ⟨w.heap.size, 0, none⟩ = some (.int .i64 1) := (fun o => (World.cell?_of_block (w := W2) (Below.heap_alloc W2 o w.heap.size (by omega))).trans hk0); clear hg2 hk2 hC2))
      | ((with_reducible refine gate_dst (N := 19) rfl ?_); go_must (refine ld_row_g (by rfl) 32 _ rfl w1.heap.size rfl _ _ _ _ HG2.out Tryd.underlying32 rfl (by rw [HSB.out]; exact info32) ?_))
      | (go_at_call 67; refine (same_one bs (cStp 1 0 nils zQry zPol nils) _ HSB.out rfl HBC.out (cStp_all 1 0 none 0 0 zQry zPol none 0 0) HSA.out W2.heap.size (W2.heap.size + 1) _ ((Below.heap_alloc _ _ _ (by simp)).trans (heap_alloc_new W2 _)) (by rw [← World.size_alloc]; exact heap_alloc_new _ _)).mono ?_; rintro e w4 ⟨rfl, hB4⟩; have HB4 := Aside0.mk hB4; clear hB4))
    go_ret
    refine ⟨rfl, ?_⟩
    refine Below.trans (Below.trans (Below.alloc (Below.refl _ _) (Nat.le_refl _) _) (HB1.out.mono (by simp))) (Below.trans (Below.trans (Below.alloc (Below.refl _ _) (by omega) _) (HK2.out.below (by simp; omega) (by omega))) (Below.trans (Below.alloc (Below.alloc (Below.refl _ _) (by omega) _) (by simp; omega) _) (HB4.out.mono (by simp; omega))))
  · skip
    go_enter Tryd.func47, Tryd.ntmps47
    go_wp2_with (first
      | ((with_reducible refine gate_dst (N := 8) rfl ?_); go_must (refine ld_row rfl 32 _ rfl w.heap.size rfl _ _ _ _ (heap_alloc_new w _) Tryd.underlying32 rfl (by rw [HS.out]; exact info32) ?_))
      | (go_at_call 66; refine (HBA.out _).mono ?_; rintro e w1 ⟨rfl, hB1⟩; have HB1 := Aside0.mk hB1; have hz1 := hB1.size; rw [World.size_alloc] at hz1; clear hB1)
      | ((with_reducible refine gate_store (t := 32) (p := 5) rfl ?_); go_must (refine st_row rfl 32 _ _ rfl w1.heap.size _ rfl rfl _ _ (heap_alloc_new _ _) (by rw [HSB.out]; exact info32) (by rw [HSB.out]; rfl) HBC.out ?_; intro W2 hg2 hk2; have HG2 := Aside0.mk hg2; have HK2 := Aside0.mk hk2; have hz2 := hk2.size; rw [World.size_alloc] at hz2; have hC2 : W2.heap[w.heap.size]? = some (.cells cs 32 (0, 0)) := hk2.blk (by omega) ((Below.heap_alloc _ _ _ (by omega)).trans ((HB1.out.block w.heap.size (by simp)).trans (heap_alloc_new w _))); have HC2 := Aside0.mk hC2; have hk0 : W2.cell? ⟨w.heap.size, 0, none⟩ = some (.int .i64 1) := (by rw [blk_cell hC2, Array.getElem?_eq_getElem (by omega), x0]); have hk2c : W2.cell? ⟨w.heap.size, 2, none⟩ = some (.slice A1 l.length c1) := (by rw [blk_cell hC2, Array.getElem?_eq_getElem (by omega), x2]); have hk0a : ∀ o, (W2.alloc o).cell? ⟨w.heap.size, 0, none⟩ = some (.int .i64 1) := (fun o => (World.cell?_of_block (w := W2) (Below.heap_alloc W2 o w.heap.size (by omega))).trans hk0); clear hg2 hk2 hC2))
      | ((with_reducible refine gate_dst (N := 19) rfl ?_); go_must (refine ld_row_g (by rfl) 32 _ rfl w1.heap.size rfl _ _ _ _ HG2.out Tryd.underlying32 rfl (by rw [HSB.out]; exact info32) ?_))
      | (go_at_call 67; refine (same_one bs (cStp 1 0 nils zQry zPol nils) _ HSB.out rfl HBC.out (cStp_all 1 0 none 0 0 zQry zPol none 0 0) HSA.out W2.heap.size (W2.heap.size + 1) _ ((Below.heap_alloc _ _ _ (by simp)).trans (heap_alloc_new W2 _)) (by rw [← World.size_alloc]; exact heap_alloc_new _ _)).mono ?_; rintro e w4 ⟨rfl, hB4⟩; have HB4 := Aside0.mk hB4; have hC4 : w4.heap[w.heap.size]? = some (.cells cs 32 (0, 0)) := (hB4.block _ (by simp; omega)).trans ((Below.heap_alloc _ _ _ (by simp; omega)).trans ((Below.heap_alloc _ _ _ (by omega)).trans HC2.out)); have hj0 : w4.cell? ⟨w.heap.size, 0, none⟩ = some (.int .i64 1) := (by rw [blk_cell hC4, Array.getElem?_eq_getElem (by omega), x0]); have hj2 : w4.cell? ⟨w.heap.size, 2, none⟩ = some (.slice A1 l.length c1) := (by rw [blk_cell hC4, Array.getElem?_eq_getElem (by omega), x2]); clear hC4; clear hB4)
      | (go_at_call 68; have hB4w : Below w.heap.size w w4 := (by refine Below.trans (Below.trans (Below.alloc (Below.refl _ _) (Nat.le_refl _) _) (HB1.out.mono (by simp))) (Below.trans (Below.trans (Below.alloc (Below.refl _ _) (by omega) _) (HK2.out.below (by simp; omega) (by omega))) (Below.trans (Below.alloc (Below.alloc (Below.refl _ _) (by omega) _) (by simp; omega) _) (HB4.out.mono (by simp; omega))))); refine (HFA.out _ hB4w).mono ?_; rintro e w5 ⟨rfl, hB5⟩; have HB5 := Aside0.mk (hB4w.trans (hB5.mono hB4w.size)); clear hB5 hB4w))
    go_ret
    exact ⟨ret_bool (by rw [Bool.true_and]; by_cases h : (fAll dims l).1 = 0 <;> simp [h]), HB5.out⟩
end Go.Proofs.YtnkcgoaafpnbjaaDoor
