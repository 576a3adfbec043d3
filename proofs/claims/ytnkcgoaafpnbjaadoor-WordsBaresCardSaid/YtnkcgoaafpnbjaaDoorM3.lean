/- The reference's functions on words, walked. -/
import Derived.Test.YtnkcgoaafpnbjaaDoorM2
import Derived.Test.YtnkcgoaafpnbjaaDoorQ3
import Derived.StillTailTactics
import Derived.Test.YtnkcgoaafpnbjaaDoorM1
import Derived.Deep.RegionHeld3
import Derived.Deep.AppendLies
import Derived.Lib.Builder
/- The other side's words: the text of a word, the word of a text, a line's words. -/
namespace Go.Proofs.YtnkcgoaafpnbjaaDoor
open Go.RowKit Go.Proofs.YtnkcgoaafpnbjaaDoorW.PrintWords
set_option linter.unusedVariables false
set_option linter.unusedSimpArgs false


set_option maxHeartbeats 2000000 in
theorem rplain_any (c : Int) (w : World) : Calls Tryd.prog 36 #[.int .u8 c] w fun e w' => e = .returned (.bool (Ows.plainI c)) ∧ w' = w := by
  go_enter Tryd.func36, Tryd.ntmps36
  go_wp2
  all_goals
    go_ret
    refine ⟨ret_bool ?_, rfl⟩
    first | (refine (Ows.plainI_true ?_).symm; omega) | (refine (Ows.plainI_false ?_).symm; omega) | (unfold Ows.plainI; rw [Bool.eq_iff_iff]; simp; omega)

theorem take_snoc_ (l : List UInt8) (k : Nat) (h : k < l.length) : l.take (k + 1) = l.take k ++ [l.getD k 0] := by
  rw [List.take_succ_eq_append_getElem h]
  simp [List.getD_eq_getElem?_getD, List.getElem?_eq_getElem h]
theorem B_app (a b : List UInt8) : B a ++ B b = B (a ++ b) := by
  apply ByteArray.ext
  rw [ByteArray.data_append]
  simp [B]
theorem B_size (l : List UInt8) : (B l).size = l.length := by simp [B, ByteArray.size]
theorem ext_one (s : ByteArray) (k : Nat) (h : k < s.size) : s.extract k (k + 1) = B [s.data.toList.getD k 0] := by
  apply ByteArray.ext
  apply Array.ext'
  rw [Lib.extract_data]
  have hk : k < s.data.toList.length := by rw [← Lib.size_eq]; exact h
  rw [List.drop_eq_getElem_cons hk]
  simp [B, List.getD_eq_getElem?_getD, Array.getElem?_eq_getElem (show k < s.data.size by simpa using hk)]

theorem hex_ext (a : Nat) (h : a < 16) : (⟨#[48, 49, 50, 51, 52, 53, 54, 55, 56, 57, 97, 98, 99, 100, 101, 102]⟩ : ByteArray).extract a (a + 1) = B [Ows.hexd a] := by
  have h2 : ∀ x : Fin 16, ((⟨#[48, 49, 50, 51, 52, 53, 54, 55, 56, 57, 97, 98, 99, 100, 101, 102]⟩ : ByteArray).extract x.val (x.val + 1)).data = (B [Ows.hexd x.val]).data := by decide +kernel
  exact ByteArray.ext (h2 ⟨a, h⟩)

set_option maxRecDepth 100000 in
set_option maxHeartbeats 4000000 in
theorem rQuote_any (s : ByteArray) (w : World) (hs : s.size ≤ 140737488351232) :
    Calls Tryd.prog 18 #[.string s] w fun e w' => e = .returned (.string (B (Ows.quote s.data.toList))) ∧ Drawn0 w w' := by
  by_cases hd : s.data.toList = []
  · have he : (s.toList == ([] : List UInt8)) = true := by rw [Lib.toList_data, hd]; rfl
    have he2 : s.toList = [] := by rw [Lib.toList_data, hd]
    have HE := Aside0.mk hd
    clear hd
    go_enter Tryd.func18, Tryd.ntmps18
    go_wp2
    go_ret
    refine ⟨?_, Drawn0.refl _⟩
    rw [HE.out]; rfl
  · have hlen : s.data.toList.length = s.size := (Lib.size_eq s).symm
    have HBT := Aside0.mk (byte_at s)
    have HEX := Aside0.mk (ext_one s)
    have he : (s.toList == ([] : List UInt8)) = false := by rw [Lib.toList_data, beq_eq_false_iff_ne]; exact hd
    have he2 : ¬ s.toList = [] := by rw [Lib.toList_data]; exact hd
    have HW := Aside0.mk (show Ows.quote s.data.toList = Ows.quoteL s.data.toList from if_neg hd)
    clear hd
    generalize hL : s.data.toList = l at *
    have HL := Aside0.mk hL
    clear hL
    go_enter Tryd.func18, Tryd.ntmps18
    go_wp2
    go_loopg [3, 4] s.size (fun g o i wr => ∃ (k : Nat), g = s.size - k ∧ k ≤ s.size ∧ i = .int .i64 k ∧ o = .string (B (Ows.quoteL (l.take k))) ∧ Drawn0 w wr)
    case atStart => exact ⟨0, by omega, by omega, rfl, rfl, Drawn0.refl _⟩
    case round =>
      obtain ⟨k, rfl, hk, rfl, rfl, HD⟩ := hrel
      by_cases hlt : k < s.size
      · have hb0 := HBT.out k hlt
        have hx0 := HEX.out k hlt
        have hsn := take_snoc_ l k (by omega)
        have hql := Ows.quoteL_snoc (l.take k) (l.getD k 0)
        have hq3 := Ows.quoteL_len (l.take k)
        rw [List.length_take] at hq3
        generalize l.getD k 0 = c at *
        rw [← hsn] at hql
        have hsz : (B (Ows.quoteL (l.take k))).size ≤ 3 * k := by rw [B_size]; omega
        have HQ := Aside0.mk hql
        clear hql hsn hq3
        generalize hob : B (Ows.quoteL (l.take k)) = ob at *
        have HOB := Aside0.mk hob
        clear hob
        have hi1 : IntKind.i64.wrap ((k : Int) + 1) = (k : Int) + 1 := IntWalk.i64_in _ (by omega)
        have hn1 : ((k : Int) + 1).toNat = k + 1 := by omega
        have hB1 : (B [c]).size = 1 := B_size _
        by_cases hp : Ows.plainI (c.toNat : Int) = true
        · go_wp2_with (first | (go_at_call 36; refine (rplain_any _ _).mono ?_; rintro e w' ⟨rfl, hw⟩; subst hw))
          go_roundg (s.size - (k + 1))
          case measure => omega
          case rel =>
            refine ⟨k + 1, rfl, by omega, by go_num, ?_, HD⟩
            rw [HQ.out, ← B_app, HOB.out, Ows.quoteC, if_pos hp]
        · have hpf : Ows.plainI (c.toNat : Int) = false := by simpa using hp
          have HP := Aside0.mk (show Ows.quoteC c = [37, Ows.hexd (c.toNat / 16), Ows.hexd (c.toNat % 16)] from if_neg hp)
          clear hp hB1 hx0
          obtain ⟨a, b, hab, ha, hb⟩ : ∃ a b : Nat, c.toNat = 16 * a + b ∧ a < 16 ∧ b < 16 := ⟨c.toNat / 16, c.toNat % 16, by omega, by have := c.toNat_lt; omega, by omega⟩
          have hq : (c.toNat : Int) / 16 = (a : Int) := by omega
          have hr : (c.toNat : Int) % 16 = (b : Int) := by omega
          have hqn : c.toNat / 16 = a := by omega
          have hrn : c.toNat % 16 = b := by omega
          rw [hqn, hrn] at HP
          have HC := Aside0.mk hab
          clear hab hqn hrn
          have hxa := hex_ext a ha
          have hxb := hex_ext b hb
          have hBa : (B [Ows.hexd a]).size = 1 := B_size _
          have hBb : (B [Ows.hexd b]).size = 1 := B_size _
          have hza : ((a : Int) + 1).toNat = a + 1 := by omega
          have hzb : ((b : Int) + 1).toNat = b + 1 := by omega
          go_wp2_with (first | (go_at_call 36; refine (rplain_any _ _).mono ?_; rintro e w' ⟨rfl, hw⟩; subst hw))
          go_quiet (fail)
          go_wp2
          go_roundg (s.size - (k + 1))
          case measure => omega
          case rel =>
            refine ⟨k + 1, rfl, by omega, by go_num, ?_, HD.step nq⟩
            rw [HQ.out, HP.out, ← B_app, HOB.out, show (B [37, Ows.hexd a, Ows.hexd b]) = (B [37] ++ B [Ows.hexd a]) ++ B [Ows.hexd b] from by rw [B_app, B_app]; rfl]
            rw [← ByteArray.append_assoc, ← ByteArray.append_assoc]
            rfl
      · obtain rfl : k = s.size := by omega
        have hT : l.take s.size = l := List.take_of_length_le (by omega)
        have HT := Aside0.mk hT
        clear hT
        go_wp2
        go_ret
        exact ⟨ret_str (by rw [HT.out, HW.out]), HD⟩
end Go.Proofs.YtnkcgoaafpnbjaaDoor
/- The other side's text of a word. -/
namespace Go.Proofs.YtnkcgoaafpnbjaaDoor
open Go.RowKit Go.Proofs.YtnkcgoaafpnbjaaDoorW.PrintWords
set_option linter.unusedVariables false
set_option linter.unusedSimpArgs false

theorem hv_at (c : UInt8) (k : Nat) (hk : k < 16) (h : Ows.hexl.getD k 0 = c) : Ows.hv c = k := by
  subst h
  have h2 : ∀ x : Fin 16, Ows.hv (Ows.hexl.getD x.val 0) = (x.val : Int) := by decide +kernel
  exact h2 ⟨k, hk⟩
theorem hv_no (c : UInt8) (h : ∀ k, k < 16 → ¬ Ows.hexl.getD k 0 = c) : Ows.hv c = -1 := by
  have h2 : ∀ n : Fin 256, (∀ x : Fin 16, ¬ Ows.hexl.getD x.val 0 = UInt8.ofNat n.val) → Ows.hv (UInt8.ofNat n.val) = -1 := by decide +kernel
  have := h2 ⟨c.toNat, c.toNat_lt⟩
  simp only [UInt8.ofNat_toNat] at this
  exact this (fun x => h x.val x.isLt)

set_option maxRecDepth 100000 in
set_option maxHeartbeats 1000000 in
theorem rhex_any (c : UInt8) (w : World) : Calls Tryd.prog 33 #[.int .u8 c.toNat] w fun e w' => e = .returned (.int .i64 (Ows.hz c)) ∧ w' = w := by
  have HBT := Aside0.mk (byte_at ⟨#[48, 49, 50, 51, 52, 53, 54, 55, 56, 57, 97, 98, 99, 100, 101, 102]⟩)
  go_enter Tryd.func33, Tryd.ntmps33
  go_wp2
  go_loopg [3] 16 (fun g i wr => ∃ (k : Nat), g = 16 - k ∧ k ≤ 16 ∧ i = .int .i64 k ∧ Aside0 (∀ j, j < k → ¬ Ows.hexl.getD j 0 = c) ∧ wr = w)
  case atStart => exact ⟨0, by omega, by omega, rfl, ⟨fun j hj => by omega⟩, rfl⟩
  case round =>
    obtain ⟨k, rfl, hk, rfl, HN, rfl⟩ := hrel
    by_cases hlt : k < 16
    · have hb := HBT.out k hlt
      change _ = Ows.hexl.getD k 0 at hb
      by_cases hc : Ows.hexl.getD k 0 = c
      · rw [hc] at hb
        have HC := Aside0.mk (hv_at c k hlt hc)
        clear hc
        go_wp2
        go_ret
        exact ⟨ret_int (by unfold Ows.hz; rw [HC.out]; simp; omega), rfl⟩
      · have hne : ¬ (((Ows.hexl.getD k 0).toNat : Int) = (c.toNat : Int)) := fun h => hc (UInt8.toNat_inj.1 (by omega))
        have HK := Aside0.mk (show ∀ j, j < k + 1 → ¬ Ows.hexl.getD j 0 = c from fun j hj => by
          rcases Nat.lt_or_ge j k with h | h
          · exact HN.out j h
          · obtain rfl : j = k := by omega
            exact hc)
        clear hc
        generalize Ows.hexl.getD k 0 = x at *
        go_wp2
        go_roundg (16 - (k + 1))
        case measure => omega
        case rel =>
          exact ⟨k + 1, rfl, by omega, by go_num, HK, rfl⟩
    · obtain rfl : k = 16 := by omega
      have HC := Aside0.mk (hv_no c HN.out)
      go_wp2
      go_ret
      exact ⟨ret_int (by unfold Ows.hz; rw [HC.out]; simp), rfl⟩

theorem rb_dummy : True := trivial
end Go.Proofs.YtnkcgoaafpnbjaaDoor
/- The other side's text of a word: the walk. -/
namespace Go.Proofs.YtnkcgoaafpnbjaaDoor
open Go.RowKit Go.Proofs.YtnkcgoaafpnbjaaDoorW.PrintWords
set_option linter.unusedVariables false
set_option linter.unusedSimpArgs false

theorem rbGo_yes (l : List UInt8) (k : Nat) (hk : k + 2 < l.length) (h : l.getD k 0 = 37) : Ows.rbGo (l.drop k) = (16 * Ows.hz (l.getD (k + 1) 0) + Ows.hz (l.getD (k + 2) 0)).toNat.toUInt8 :: Ows.rbGo (l.drop (k + 3)) := by
  have e0 : l.getD k 0 = l[k] := by simp [List.getD_eq_getElem?_getD, List.getElem?_eq_getElem (show k < l.length by omega)]
  have e1 : l.getD (k + 1) 0 = l[k + 1] := by simp [List.getD_eq_getElem?_getD, List.getElem?_eq_getElem (show k + 1 < l.length by omega)]
  have e2 : l.getD (k + 2) 0 = l[k + 2] := by simp [List.getD_eq_getElem?_getD, List.getElem?_eq_getElem hk]
  rw [e1, e2, List.drop_eq_getElem_cons (show k < l.length by omega), List.drop_eq_getElem_cons (show k + 1 < l.length by omega), List.drop_eq_getElem_cons hk]
  rw [e0] at h
  simp only [Ows.rbGo, if_pos h]
theorem rbGo_no (l : List UInt8) (k : Nat) (hk : k < l.length) (h : l.getD k 0 ≠ 37 ∨ l.length ≤ k + 2) : Ows.rbGo (l.drop k) = l.getD k 0 :: Ows.rbGo (l.drop (k + 1)) := by
  have e0 : l.getD k 0 = l[k] := by simp [List.getD_eq_getElem?_getD, List.getElem?_eq_getElem hk]
  rw [e0] at h ⊢
  rw [List.drop_eq_getElem_cons hk]
  refine Ows.rbGo_cons _ _ (h.imp_right fun h => ?_)
  rw [List.length_drop]
  omega

set_option maxRecDepth 100000 in
set_option maxHeartbeats 4000000 in
theorem rBare_any (s : ByteArray) (w : World) (hs : s.size ≤ 140737488351232) :
    Calls Tryd.prog 16 #[.string s] w fun e w' => e = .returned (.tuple #[.string (B ((Ows.rBare s.data.toList).getD [])), .bool (Ows.rBare s.data.toList).isSome]) ∧ Below w.heap.size w w' := by
  have HB := Aside0.mk (Below.refl w.heap.size w)
  have hlen : s.data.toList.length = s.size := (Lib.size_eq s).symm
  have HBT := Aside0.mk (byte_at s)
  by_cases hd : s.data.toList = [45]
  · have he : (s.toList == ([45] : List UInt8)) = true := by rw [Lib.toList_data, hd]; rfl
    have hQ := rQuote_any (B []) w (by decide)
    have HQ := Aside0.mk hQ
    clear hQ
    obtain ⟨A0, c0, hv, hcv⟩ := conv_own (w := w) (base := 0) (ok := fun _ => True) (l := []) (Kd.R_nil _ _ _ _ _)
    injection hv with h1 h2 h3
    subst h1 h3
    simp only [List.length_nil] at hcv
    have hs45 : s = B [45] := by rw [← hd]; rfl
    have HD := Aside0.mk hd
    have heq : ((B (Ows.quote (B []).data.toList)).toList == s.toList) = true := by rw [hs45, Lib.toList_data, Lib.toList_data]; rfl
    clear hd HBT hlen hs45 h2
    go_enter Tryd.func16, Tryd.ntmps16
    go_wp2_with (first | (go_at_call 18; refine HQ.out.mono ?_; rintro e w' ⟨rfl, hD⟩))
    go_ret2
    refine ⟨?_, hD.below⟩
    rw [HD.out]; rfl
  · have he : (s.toList == ([45] : List UInt8)) = false := by rw [Lib.toList_data, beq_eq_false_iff_ne]; exact hd
    have HW := Aside0.mk (show Ows.rBare s.data.toList = if Ows.quote (Ows.rbGo s.data.toList) = s.data.toList then some (Ows.rbGo s.data.toList) else none by rw [Ows.rBare, if_neg hd])
    have HSL := Aside0.mk (Lib.toList_data s)
    clear hd
    have HY := Aside0.mk (rbGo_yes s.data.toList)
    have HN := Aside0.mk (rbGo_no s.data.toList)
    generalize hL : s.data.toList = l at *
    have HL := Aside0.mk hL
    clear hL
    go_enter Tryd.func16, Tryd.ntmps16
    go_wp2
    go_loopg [4, 5] s.size (fun g v i wr => ∃ (k : Nat) (acc : List UInt8), g = s.size - k ∧ k ≤ s.size ∧ acc.length ≤ k ∧ i = .int .i64 k ∧ Aside0 (Ows.rbGo l = acc ++ Ows.rbGo (l.drop k)) ∧ Aside0 (Kd.R (Kd.int .u8) 5 wr w.heap.size (fun _ => True) v (bytesI acc)) ∧ Aside0 (Below w.heap.size w wr))
    case atStart => exact ⟨0, [], by omega, by omega, by simp, rfl, ⟨by rw [List.drop_zero]; rfl⟩, ⟨Kd.R_nil _ _ _ _ _⟩, HB⟩
    case round =>
      obtain ⟨k, acc, rfl, hk, ha, rfl, HA, HO, HB⟩ := hrel
      by_cases hlt : k < s.size
      · have hb0 := HBT.out k hlt
        by_cases hy : k + 2 < s.size ∧ l.getD k 0 = 37
        · obtain ⟨hk2, h37⟩ := hy
          have HG := Aside0.mk (HY.out k (by omega) h37)
          have hb1 := HBT.out (k + 1) (by omega)
          have hb2 := HBT.out (k + 2) hk2
          have hi1 : IntKind.i64.wrap ((k : Int) + 1) = (k : Int) + 1 := IntWalk.i64_in _ (by omega)
          have hi2 : IntKind.i64.wrap ((k : Int) + 2) = (k : Int) + 2 := IntWalk.i64_in _ (by omega)
          have hn1 : ((k : Int) + 1).toNat = k + 1 := by omega
          have hn2 : ((k : Int) + 2).toNat = k + 2 := by omega
          rw [h37] at hb0
          clear h37
          generalize l.getD (k + 1) 0 = c1 at *
          generalize l.getD (k + 2) 0 = c2 at *
          obtain ⟨z1, z1'⟩ := Ows.hz_lt c1
          obtain ⟨z2, z2'⟩ := Ows.hz_lt c2
          have h1 := rhex_any c1 
          have h2 := rhex_any c2 
          generalize Ows.hz c1 = x1 at *
          generalize Ows.hz c2 = x2 at *
          have H1 := Aside0.mk h1
          have H2 := Aside0.mk h2
          clear h1 h2
          have hw16 : IntKind.i64.wrap (16 * x1) = 16 * x1 := IntWalk.i64_in _ (by omega)
          have hws : IntKind.i64.wrap (16 * x1 + x2) = 16 * x1 + x2 := IntWalk.i64_in _ (by omega)
          go_wp2
          have hown := Kd.own_of_R HO.out
          have hwu : IntKind.u8.wrap (16 * x1 + x2) = 16 * x1 + x2 := by rw [IntKind.wrap_u8]; omega
          obtain ⟨i0, hi, hz0, hz1, hz2⟩ := info_parts infoU8
          have HOW := Aside0.mk hown
          clear hown
          go_region_held3 (fun w' => True) (exact trivial) ((first | (go_at_call 33; (with_reducible refine (H1.out _).mono ?_); rintro e w' ⟨rfl, hw⟩; subst hw) | (go_at_call 33; (with_reducible refine (H2.out _).mono ?_); rintro e w' ⟨rfl, hw⟩; subst hw) | (refine step_append_lies _ (by rfl) _ _ _ (by rfl) w.heap.size 5 i0 _ 1 1 Tryd.underlying67 hi hz0 hz1 hz2 rfl (by omega) u4 _ _ (by rfl) ((HOW.out.alloc _).drew) ⟨wr.heap.size, 0, none⟩ 1 1 [.int .u8 (16 * x1 + x2)] (by rfl) (by rfl) (World.news_of_block (cs := #[.int .u8 (16 * x1 + x2)]) (t := 5) (fr := (0, 0)) (heap_alloc_new wr _)) (by simp [Value.oneCell']) (by omega) (by rw [bytesI_len]; unfold maxLen; omega) (by rw [bytesI_len]; omega) (by have := HB.out.size; simp; omega) (wr.heap.size + 1) (by simp) ?_; intro gg cap w1 hown1 hgrow hat hlt)))
          all_goals
            have HB1 := Aside0.mk (((HB.out.alloc HB.out.size _).drew).grown hgrow (by have := HB.out.size; simp; omega) (fun k hk => own_base HOW.out k hk))
            have hz8 : (((16 * x1 + x2).toNat.toUInt8).toNat : Int) = 16 * x1 + x2 := by simp; omega
            have HO1 := Aside0.mk (show Kd.R (Kd.int .u8) 5 w1 w.heap.size (fun _ => True) (.slice (some ⟨gg, 0, none⟩) ((bytesI acc).length + 1) cap) (bytesI (acc ++ [(16 * x1 + x2).toNat.toUInt8])) by
              rw [bytesI_snoc, hz8]
              exact Kd.R_of_own (by rw [encs_append, List.length_append]; exact hown1) (fun _ _ => trivial))
            clear hz8 hown1 hgrow hat hlt
            go_wp2
            go_roundg (s.size - (k + 3))
            case measure => omega
            case rel =>
              refine ⟨k + 3, acc ++ [(16 * x1 + x2).toNat.toUInt8], rfl, by omega, by simp; omega, by go_num, ⟨?_⟩, HO1, HB1⟩
              rw [HA.out, HG.out]
              simp
        · have HG := Aside0.mk (HN.out k (by omega) (by rcases Nat.lt_or_ge (k + 2) s.size with h2 | h2; exact .inl (fun h => hy ⟨h2, h⟩); exact .inr (by omega)))
          have hcs : ((l.getD k 0).toNat : Int) = 37 → s.size ≤ k + 2 := fun h => by
            rcases Nat.lt_or_ge (k + 2) s.size with h2 | h2
            · exact absurd ⟨h2, UInt8.toNat_inj.1 (show (l.getD k 0).toNat = 37 by omega)⟩ hy
            · exact h2
          clear hy
          generalize l.getD k 0 = c at *
          by_cases h37 : (c.toNat : Int) = 37
          · have hge := hcs h37
            clear hcs
            obtain rfl : c = 37 := UInt8.toNat_inj.1 (show c.toNat = 37 by omega)
            clear h37
            go_wp2_with (first | ((with_reducible refine gate_dst (N := 49) rfl ?_); go_must (refine Kd.R_append (Kd.int .u8) (w0 := w) w.heap.size rfl (.tmp 44) (.tmp 48) 67 5 (.int .u8 0) 1 rfl Tryd.underlying67 infoU8 rfl (by decide) (by omega) u4 (bytesI acc) 37 [.int .u8 37] (fun _ => True) (fun _ => False) rfl rfl ?aP (fun _ hk => hk.elim) (fun _ _ => trivial) HO.out HB.out HB.out.size ?aL ?_); (case aP => exact rfl); (case aL => rw [bytesI_len]; omega); intro v1 w1 hr hb1 _ _; have HO1 := Aside0.mk hr; have HB1 := Aside0.mk hb1; clear hr hb1))
            go_roundg (s.size - (k + 1))
            case measure => omega
            case rel =>
              refine ⟨k + 1, acc ++ [37], rfl, by omega, by simp; omega, by go_num, ⟨?_⟩, ⟨by rw [bytesI_snoc]; exact HO1.out⟩, HB1⟩
              rw [HA.out, HG.out]
              simp
          · clear hcs
            go_wp2_with (first | ((with_reducible refine gate_dst (N := 49) rfl ?_); go_must (refine Kd.R_append (Kd.int .u8) (w0 := w) w.heap.size rfl (.tmp 44) (.tmp 48) 67 5 (.int .u8 0) 1 rfl Tryd.underlying67 infoU8 rfl (by decide) (by omega) u4 (bytesI acc) (c.toNat : Int) [.int .u8 c.toNat] (fun _ => True) (fun _ => False) rfl rfl ?aP (fun _ hk => hk.elim) (fun _ _ => trivial) HO.out HB.out HB.out.size ?aL ?_); (case aP => exact rfl); (case aL => rw [bytesI_len]; omega); intro v1 w1 hr hb1 _ _; have HO1 := Aside0.mk hr; have HB1 := Aside0.mk hb1; clear hr hb1))
            go_roundg (s.size - (k + 1))
            case measure => omega
            case rel =>
              refine ⟨k + 1, acc ++ [c], rfl, by omega, by simp; omega, by go_num, ⟨?_⟩, ⟨by rw [bytesI_snoc]; exact HO1.out⟩, HB1⟩
              rw [HA.out, HG.out]
              simp
      · obtain rfl : k = s.size := by omega
        have hfin : Ows.rbGo l = acc := by
          rw [HA.out, show l.drop s.size = [] from List.drop_of_length_le (by omega)]
          simp [Ows.rbGo]
        have HF := Aside0.mk hfin
        clear hfin
        obtain ⟨A0, c0, rfl, hcv⟩ := conv_own HO.out
        have HQ := Aside0.mk (fun W => rQuote_any (B acc) W (by rw [B_size]; omega))
        by_cases hq : Ows.quote acc = l
        · have hqb : ((B (Ows.quote (B acc).data.toList)).toList == s.toList) = true := by rw [HSL.out, Lib.toList_data, beq_iff_eq]; exact hq
          have HQ2 := Aside0.mk hq
          clear hq
          go_wp2_with (first | (go_at_call 18; refine (HQ.out _).mono ?_; rintro e w' ⟨rfl, hD⟩))
          go_ret2
          refine ⟨?_, below_up HB.out HB.out.size hD.below⟩
          rw [HW.out, HF.out, if_pos HQ2.out]; rfl
        · have hqb : ((B (Ows.quote (B acc).data.toList)).toList == s.toList) = false := by rw [HSL.out, Lib.toList_data, beq_eq_false_iff_ne]; exact hq
          have HQ2 := Aside0.mk hq
          clear hq
          go_wp2_with (first | (go_at_call 18; refine (HQ.out _).mono ?_; rintro e w' ⟨rfl, hD⟩))
          go_ret2
          refine ⟨?_, below_up HB.out HB.out.size hD.below⟩
          rw [HW.out, HF.out, if_neg HQ2.out]; rfl
end Go.Proofs.YtnkcgoaafpnbjaaDoor
/- The other side's words of a line: the walk. -/
namespace Go.Proofs.YtnkcgoaafpnbjaaDoor
open Go.RowKit Go.Proofs.YtnkcgoaafpnbjaaDoorW.PrintWords
set_option linter.unusedVariables false
set_option linter.unusedSimpArgs false

theorem getD_B (l : List (List UInt8)) (k : Nat) : (l.map B).getD k ByteArray.empty = B (l.getD k []) := by
  simp only [List.getD_eq_getElem?_getD, List.getElem?_map]
  cases l[k]? <;> rfl

set_option maxRecDepth 100000 in
set_option maxHeartbeats 4000000 in
theorem rSplit_any (s : ByteArray) (w : World) (hs : s.size ≤ 4294967296) :
    Calls Tryd.prog 21 #[.string s] w fun e w' => ∃ v : Value, e = .returned v ∧ Kd.string.R 9 w' w.heap.size (fun _ => True) v ((Ows.rSplit s.data.toList).map B) ∧ Below w.heap.size w w' := by
  by_cases hd : s.data.toList = []
  · have he : (s.toList == ([] : List UInt8)) = true := by rw [Lib.toList_data, hd]; rfl
    have he2 : s.toList = [] := by rw [Lib.toList_data, hd]
    have HE := Aside0.mk hd
    clear hd
    go_enter Tryd.func21, Tryd.ntmps21
    go_wp2
    go_ret
    refine ⟨_, rfl, ?_, Below.refl _ _⟩
    rw [HE.out]
    exact Kd.R_nil _ _ _ _ _
  · have hlen : s.data.toList.length = s.size := (Lib.size_eq s).symm
    have HBT := Aside0.mk (byte_at s)
    have HEX := Aside0.mk (ext_one s)
    have he : (s.toList == ([] : List UInt8)) = false := by rw [Lib.toList_data, beq_eq_false_iff_ne]; exact hd
    have he2 : ¬ s.toList = [] := by rw [Lib.toList_data]; exact hd
    have HW := Aside0.mk (show Ows.rSplit s.data.toList = Ows.splitF s.data.toList from if_neg hd)
    clear hd
    generalize hL : s.data.toList = l at *
    have HL := Aside0.mk hL
    clear hL
    go_enter Tryd.func21, Tryd.ntmps21
    go_wp2_with (first | ((with_reducible refine gate_dst (N := 7) rfl ?_); refine Kd.R_lit Kd.string w.heap.size 9 ?hg (N := 7) ?hd (xs := ([(⟨#[]⟩ : ByteArray)] : List ByteArray)) (inner := [.string (⟨#[]⟩ : ByteArray)]) (ok := fun _ => True) (okp := fun _ => True) ?hr ?hp (fun _ hk => hk) trivial (Below.refl _ _) (Nat.le_refl _) (by simp) ?_; (case hd => rfl); (case hg => rfl); (case hr => first | (go_simp; done) | (go_simp; rfl)); (case hp => exact (Reps.one (show Kd.M Kd.string _ _ _ (⟨#[]⟩ : ByteArray) [.string (⟨#[]⟩ : ByteArray)] from rfl) (Reps.none _ _))); intro v1 w1 ho1 hb1 _ _; have HO := Aside0.mk ho1; have HB := Aside0.mk hb1; clear ho1 hb1))
    go_loopg [3, 4] s.size (fun g v i wr => ∃ (k : Nat), g = s.size - k ∧ k ≤ s.size ∧ i = .int .i64 k ∧ Aside0 (Kd.string.R 9 wr w.heap.size (fun _ => True) v ((Ows.splitF (l.take k)).map B)) ∧ Aside0 (Below w.heap.size w wr))
    case atStart => exact ⟨0, by omega, by omega, rfl, HO, HB⟩
    case round =>
      obtain ⟨k, rfl, hk, rfl, HO, HB⟩ := hrel
      by_cases hlt : k < s.size
      · have hb0 := HBT.out k hlt
        have hx0 := HEX.out k hlt
        have hsn := take_snoc_ l k (by omega)
        have hql := Ows.splitF_snoc (l.take k) (l.getD k 0)
        obtain ⟨hm1, hm2⟩ := Ows.splitF_len (l.take k)
        have hm3 := Ows.splitF_bytes (l.take k)
        rw [List.length_take] at hm2 hm3
        rw [← hsn] at hql
        generalize l.getD k 0 = c at *
        by_cases hc : c = 32
        · subst hc
          have HQ := Aside0.mk (show Ows.splitF (l.take (k + 1)) = Ows.splitF (l.take k) ++ [[]] from hql.trans (if_pos rfl))
          clear hql hsn hx0 hm3
          go_wp2_with (first | ((with_reducible refine gate_dst (N := 20) rfl ?_); go_must (refine Kd.R_append Kd.string (w0 := w) w.heap.size rfl (.tmp 18) (.tmp 19) 48 9 (.string ⟨#[]⟩) 16 rfl Tryd.underlying48 infoStr rfl (by decide) (by omega) u3 _ (⟨#[]⟩ : ByteArray) [.string (⟨#[]⟩ : ByteArray)] (fun _ => True) (fun _ => False) rfl rfl ?aP (fun _ hk => hk.elim) (fun _ _ => trivial) HO.out HB.out HB.out.size ?aL ?_); (case aP => exact rfl); (case aL => rw [List.length_map]; omega); intro v1 w1 hr hb1 _ _; have HO1 := Aside0.mk hr; have HB1 := Aside0.mk hb1; clear hr hb1))
          go_roundg (s.size - (k + 1))
          case measure => omega
          case rel => exact ⟨k + 1, rfl, by omega, by go_num, ⟨by rw [HQ.out, List.map_append]; exact HO1.out⟩, HB1⟩
        · have hne : ¬ ((c.toNat : Int) = 32) := fun h => hc (UInt8.toNat_inj.1 (show c.toNat = 32 by omega))
          have HQ := Aside0.mk (show Ows.splitF (l.take (k + 1)) = _ from hql.trans (if_neg hc))
          clear hql hsn hc
          obtain ⟨m, hm⟩ : ∃ m, (Ows.splitF (l.take k)).length = m + 1 := ⟨(Ows.splitF (l.take k)).length - 1, by omega⟩
          have hown := Kd.own_of_R HO.out
          obtain ⟨gb, cap, rfl, _, _⟩ := hown.form (by rw [List.length_map]; omega)
          have hgb : w.heap.size ≤ gb := own_base hown gb rfl
          have hO := HO.out
          have hcell := (Kd.R_cell ByteArray.empty hO (m : Int) (by omega) (by rw [List.length_map]; omega)).1
          have hfrz := (Kd.R_cell ByteArray.empty hO (m : Int) (by omega) (by rw [List.length_map]; omega)).2
          have hlast : rdOf ByteArray.empty ((Ows.splitF (l.take k)).map B) (m : Int) = B ((Ows.splitF (l.take k)).getD m []) := getD_B _ _
          rw [hlast] at hcell
          have hlb : (B ((Ows.splitF (l.take k)).getD m [])).size ≤ k := by rw [B_size]; have := hm3 m; omega
          have HP := Aside0.mk (Kd.R_put hO (m : Int) (B ((Ows.splitF (l.take k)).getD m []) ++ B [c])).1
          have HG := Aside0.mk (Kd.R_put hO (m : Int) (B ((Ows.splitF (l.take k)).getD m []) ++ B [c])).2
          have HLA := Aside0.mk (B_app ((Ows.splitF (l.take k)).getD m []) [c])
          rw [hm] at HQ
          have hB1 : (B [c]).size = 1 := B_size _
          simp only [Int.toNat_natCast] at hcell hfrz HP HG
          rw [List.length_map, hm] at HP
          simp only [List.length_map, hm]
          generalize B ((Ows.splitF (l.take k)).getD m []) = ob at *
          have HM := Aside0.mk hm
          have hmb : m ≤ k := by omega
          clear hO hown hm hm1 hm2 hm3 hlast
          have hi1 : IntKind.i64.wrap ((k : Int) + 1) = (k : Int) + 1 := IntWalk.i64_in _ (by omega)
          have hn1 : ((k : Int) + 1).toNat = k + 1 := by omega
          have hs1 : IntKind.i64.wrap (m : Int) = (m : Int) := IntWalk.i64_in _ (by omega)
          go_wp2
          have q1 : (0 : Int) ≤ (m : Int) := by omega
          have q2 : (m : Int) < (m : Int) + 1 := by omega
          have q3 : (0 : Int) ≤ (k : Int) := by omega
          have q4 : (k : Int) ≤ (k : Int) + 1 := by omega
          have q5 : (k : Int) + 1 ≤ (s.size : Int) := by omega
          have q6 : ¬ 9223372036854775807 < ob.size + 1 := by omega
          go_still_tail 17, (by kernel_rfl)
          change wpList _ _ _ _ _ wr.drew
          go_wp2
          go_roundg (s.size - (k + 1))
          case measure => omega
          case rel =>
            refine ⟨k + 1, rfl, by omega, by go_num, ⟨?_⟩, ⟨?_⟩⟩
            · rw [HQ.out, show m + 1 - 1 = m from rfl, List.map_set, ← HLA.out]
              exact Kd.R_drew HP.out
            · exact (HB.out.setCell hgb _).drew
      · obtain rfl : k = s.size := by omega
        have hT : l.take s.size = l := List.take_of_length_le (by omega)
        rw [hT] at HO
        go_wp2
        go_ret
        exact ⟨_, rfl, by rw [HW.out]; exact HO.out, HB.out⟩
end Go.Proofs.YtnkcgoaafpnbjaaDoor
/- A Builder's byte, at this place: after the shelf's own worked walks (its laying does not serve here). -/
namespace Go.Proofs.YtnkcgoaafpnbjaaDoor
open Go.RowKit Go.Proofs.YtnkcgoaafpnbjaaDoorW.PrintWords
set_option linter.unusedVariables false
set_option linter.unusedSimpArgs false

theorem infoBuilder : (Tryd.prog.info? 75).map (·.size) = some 2 := by kernel_rfl
theorem liesBuilder : liesAt Tryd.prog Tryd.prog.depth 75 (2 / Tryd.prog.cellsOf 75) 0 75 1 = true := by kernel_rfl

set_option maxHeartbeats 1000000 in
set_option maxRecDepth 100000 in
theorem copyCheck_used (b : Nat) (w : World) (h0 : w.cell? ⟨b, 0, none⟩ = some (.pointer (some ⟨b, 0, none⟩))) :
    Calls Tryd.prog 62 #[.pointer (some ⟨b, 0, none⟩)] w fun e w' => e = .returned (.tuple #[]) ∧ w' = w := by
  obtain ⟨j, hj, _⟩ := Option.map_eq_some_iff.1 infoBuilder
  go_enter Tryd.func62, Tryd.ntmps62
  go_wp2
  rw [Lib.run_neq_ptr_same w _ Tryd.underlying73 hj]
  go_wp2
  go_end0
  exact ⟨rfl, rfl⟩

set_option maxHeartbeats 1000000 in
set_option maxRecDepth 100000 in
theorem copyCheck_fresh (b : Nat) (w : World) (h0 : w.cell? ⟨b, 0, none⟩ = some (.pointer none)) (hsh : w.shape? b = some (75, 2)) (hfz : w.frozen? ⟨b, 0, none⟩ = false) :
    Calls Tryd.prog 62 #[.pointer (some ⟨b, 0, none⟩)] w fun e w' => e = .returned (.tuple #[]) ∧ w' = w.setCell ⟨b, 0, none⟩ (.pointer (some ⟨b, 0, none⟩)) := by
  obtain ⟨j, hj, hjs⟩ := Option.map_eq_some_iff.1 infoBuilder
  go_enter Tryd.func62, Tryd.ntmps62
  go_wp2
  rw [Lib.run_to_unsafe w ⟨b, 0, none⟩ Tryd.underlying73 Tryd.underlying115 hj (by rw [hjs]; decide) hsh (Nat.zero_lt_succ 1)]
  simp only [Result.andThen]
  rw [Oper.upon_value]
  go_wp2
  rw [run_callFunc_extern Tryd.func82 (by kernel_rfl) (by kernel_rfl) (by kernel_rfl) (e := Extern.AbiNoEscape.same) (by kernel_rfl)]
  rw [Lib.run_noEscape]
  simp only [Result.andThen]
  rw [Oper.upon_value]
  go_wp2
  rw [Lib.run_from_unsafe w ⟨b, 0, none⟩ Tryd.underlying115 Tryd.underlying73 hj hsh liesBuilder]
  simp only [Result.andThen]
  rw [Oper.upon_value]
  go_wp2
  go_end0
  exact ⟨rfl, rfl⟩

/-- A builder in block b that holds the bytes l; its row lies in no block of 'no'. -/
def BuilderS (w : World) (base b : Nat) (no : Nat → Prop) (l : List UInt8) : Prop :=
  ∃ p v, w.heap[b]? = some (.cells #[p, v] 75 (0, 0)) ∧ (p = .pointer none ∨ p = .pointer (some ⟨b, 0, none⟩)) ∧ Kd.R (Kd.int .u8) 5 w base (fun k => k ≠ b ∧ ¬ no k) v (bytesI l)

theorem set_blk_s {w : World} {b t : Nat} {cs : Array Value} (h : w.heap[b]? = some (.cells cs t (0, 0))) (j : Nat) (v : Value) : (w.setCell ⟨b, j, none⟩ v).heap[b]? = some (.cells (cs.setIfInBounds j v) t (0, 0)) := by
  simp [World.setCell, Array.getElem?_modify, h]

/-- Behind copyCheck: 'addr' holds the builder's own address; nothing else has turned. -/
theorem copyCheck_s (b : Nat) (p v : Value) (w : World) (hb : w.heap[b]? = some (.cells #[p, v] 75 (0, 0))) (hp : p = .pointer none ∨ p = .pointer (some ⟨b, 0, none⟩)) :
    Calls Tryd.prog 62 #[.pointer (some ⟨b, 0, none⟩)] w fun e w' => e = .returned (.tuple #[]) ∧ w'.heap[b]? = some (.cells #[.pointer (some ⟨b, 0, none⟩), v] 75 (0, 0)) ∧ (∀ k, k ≠ b → w'.heap[k]? = w.heap[k]?) ∧ (∀ B, B ≤ b → Below B w w') := by
  rcases hp with rfl | rfl
  · refine (copyCheck_fresh b w (by rw [Lib.cell_of_heap hb]; rfl) (by simp [World.shape?, hb]) (Lib.frozen_of_heap hb 0)).mono ?_
    rintro e w' ⟨rfl, rfl⟩
    exact ⟨rfl, by rw [set_blk_s hb]; rfl, fun k hk => Below.heap_setCell _ _ _ _ hk, fun B hB => (Below.refl B w).setCell (p := ⟨b, 0, none⟩) hB _⟩
  · refine (copyCheck_used b w (by rw [Lib.cell_of_heap hb]; rfl)).mono ?_
    rintro e w' ⟨rfl, rfl⟩
    exact ⟨rfl, hb, fun _ _ => rfl, fun B _ => Below.refl B _⟩

set_option maxHeartbeats 1000000 in
set_option maxRecDepth 100000 in
theorem WriteByte_s (base b : Nat) (no : Nat → Prop) (l : List UInt8) (c : UInt8) (w : World) (h : BuilderS w base b no l) (hbb : base ≤ b) (hno : ∀ k, no k → k < w.heap.size ∧ k ≠ b) (hlen : l.length + 1 ≤ 140737488355328) :
    Calls Tryd.prog 34 #[.pointer (some ⟨b, 0, none⟩), .int .u8 c.toNat] w fun e w' => e = .returned .nilIface ∧ BuilderS w' base b no (l ++ [c]) ∧ (∀ k, no k → w'.heap[k]? = w.heap[k]?) ∧ Below base w w' := by
  obtain ⟨p, v, hb, hp, hR⟩ := h
  have hbl : b < w.heap.size := blk_lt hb
  have HR0 := Aside0.mk hR
  have HNO := Aside0.mk hno
  have hcc := Aside0.mk (copyCheck_s b p v w hb hp)
  clear hR hno hb hp
  go_enter Tryd.func34, Tryd.ntmps34
  go_wp2_with (go_at_call 62; refine hcc.out.mono ?_)
  rintro e w1 ⟨rfl, hbk, hk1, hB1⟩
  have hbw := hB1 base hbb
  have HB := Aside0.mk hbw
  have HK1 := Aside0.mk hk1
  have HBK := Aside0.mk hbk
  have HO := Aside0.mk (Kd.R_step HR0.out (fun k hk _ => hk1 k hk.1))
  have c0 : w1.cell? ⟨b, 0, none⟩ = some (.pointer (some ⟨b, 0, none⟩)) := by rw [Lib.cell_of_heap hbk]; rfl
  have c1 : w1.cell? ⟨b, 1, none⟩ = some v := by rw [Lib.cell_of_heap hbk]; rfl
  have hs1 : w.heap.size ≤ w1.heap.size := hbw.size
  clear hk1 hbk hB1 hbw
  go_wp2_with (first | (at_builtin; refine Kd.R_append (Kd.int .u8) (w0 := w) base rfl _ _ 67 5 (.int .u8 0) 1 rfl Tryd.underlying67 infoU8 rfl (by decide) (by omega) v (bytesI l) (c.toNat : Int) [.int .u8 c.toNat] (fun k => k ≠ b ∧ ¬ no k) (fun _ => False) rfl rfl ?aP (fun _ hk => hk.elim) ?aF HO.out HB.out ?aS ?aL ?_; (case aP => exact rfl); (case aF => intro k hk; exact ⟨by omega, fun h => by have := (HNO.out k h).1; omega⟩); (case aS => omega); (case aL => rw [bytesI_len]; omega); intro v1 w2 hr hb2 hg hat; obtain ⟨A1, cp, rfl⟩ := Kd.R_slice hr; rw [List.length_append, bytesI_len, List.length_singleton] at *; have hne : some b ≠ v.ownBlock := (fun e => (HO.out.1 b e.symm).1 rfl); have hbk2 : w2.heap[b]? = some (.cells #[.pointer (some ⟨b, 0, none⟩), v] 75 (0, 0)) := (by rw [hg.block b (by omega) hne]; exact HBK.out); have d0 : w2.cell? ⟨b, 0, none⟩ = some (.pointer (some ⟨b, 0, none⟩)) := (by rw [Lib.cell_of_heap hbk2]; rfl); have d1 : w2.cell? ⟨b, 1, none⟩ = some v := (by rw [Lib.cell_of_heap hbk2]; rfl); have f1 : w2.frozen? ⟨b, 1, none⟩ = false := Lib.frozen_of_heap hbk2 1; have HBK2 := Aside0.mk hbk2; have HO1 := Aside0.mk hr; have HB2 := Aside0.mk hb2; have HG := Aside0.mk hg; clear hr hb2 hg hat hbk2 hne))
  go_ret
  refine ⟨rfl, ⟨_, _, by rw [set_blk_s HBK2.out]; rfl, .inr rfl, ?_⟩, ?_, ?_⟩
  · rw [bytesI_snoc]
    exact Kd.R_far HO1.out (p := ⟨b, 1, none⟩) (fun k hk => hk.1) _
  · intro k hk
    obtain ⟨h1, h2⟩ := HNO.out k hk
    rw [Below.heap_setCell _ _ _ _ (show k ≠ b from h2), HG.out.block k (by omega) (fun e => (HO.out.1 k e.symm).2 hk), HK1.out k h2]
  · exact HB2.out.setCell (p := ⟨b, 1, none⟩) hbb _

/-- What the builder holds, as a string. -/
theorem BString_s (base b : Nat) (no : Nat → Prop) (l : List UInt8) (w : World) (h : BuilderS w base b no l) (hbb : base ≤ b) :
    Calls Tryd.prog 35 #[.pointer (some ⟨b, 0, none⟩)] w fun e w' => e = .returned (.string (B l)) ∧ Below base w w' := by
  obtain ⟨p, v, hb, hp, hR⟩ := h
  have hl : b < w.heap.size := blk_lt hb
  have ho := Kd.own_of_R hR
  have he : encs (Value.int .u8) (bytesI l) = Lib.byteCells l := by simp [encs, bytesI, Lib.byteCells]
  have hat : Lib.BuilderAt 75 5 base b p (Lib.byteCells l) w := by
    refine ⟨hbb, v, hb, ?_, fun e => (hR.1 b e).1 rfl⟩
    rw [← he, encs_length]
    exact ho
  refine Tryd.Builder_String_any base b l w ?_ (by omega)
  rcases hp with rfl | rfl
  · exact .inl hat
  · exact .inr hat
end Go.Proofs.YtnkcgoaafpnbjaaDoor
/- A text's word: the program's walk. -/
namespace Go.Proofs.YtnkcgoaafpnbjaaDoor
open Go.RowKit Go.Proofs.YtnkcgoaafpnbjaaDoorW.PrintWords
set_option linter.unusedVariables false
set_option linter.unusedSimpArgs false

theorem cell_same {w w' : World} {r : Nat} (h : w'.heap[r]? = w.heap[r]?) (j : Nat) : w'.cell? ⟨r, j, none⟩ = w.cell? ⟨r, j, none⟩ := by simp [World.cell?, h]
theorem and_nibble (c : UInt8) : bits BinOp.and IntKind.u8 (c.toNat : Int) 15 = ((c.toNat % 16 : Nat) : Int) := by
  have h : ∀ n : Fin 256, bits BinOp.and IntKind.u8 (n.val : Int) 15 = ((n.val % 16 : Nat) : Int) := by decide +kernel
  exact h ⟨c.toNat, c.toNat_lt⟩
set_option maxRecDepth 100000 in
set_option maxHeartbeats 4000000 in
theorem Quote_any (s : ByteArray) (w : World) (hs : s.size ≤ 4294967296) :
    Calls Tryd.prog 17 #[.string s] w fun e w' => e = .returned (.string (B (Ows.quote s.data.toList))) ∧ Below w.heap.size w w' := by
  by_cases hd : s.data.toList = []
  · have he : (s.toList == ([] : List UInt8)) = true := by rw [Lib.toList_data, hd]; rfl
    have he2 : s.toList = [] := by rw [Lib.toList_data, hd]
    have HE := Aside0.mk hd
    clear hd
    go_enter Tryd.func17, Tryd.ntmps17
    go_wp2
    go_ret
    refine ⟨?_, Below.refl _ _⟩
    rw [HE.out]; rfl
  · have hlen : s.data.toList.length = s.size := (Lib.size_eq s).symm
    have he : (s.toList == ([] : List UInt8)) = false := by rw [Lib.toList_data, beq_eq_false_iff_ne]; exact hd
    have he2 : ¬ s.toList = [] := by rw [Lib.toList_data]; exact hd
    have HW := Aside0.mk (show Ows.quote s.data.toList = Ows.quoteL s.data.toList from if_neg hd)
    have kc := fun (W : World) (t : ByteArray) => Lib.run_convert_string_bytes (P := Tryd.prog) W 9 67 5 t Tryd.underlying9 Tryd.underlying67 Tryd.underlying5
    clear hd
    generalize hL : s.data.toList = l at *
    have HL := Aside0.mk hL
    clear hL
    go_enter Tryd.func17, Tryd.ntmps17
    go_wp2
    generalize hW1 : w.alloc (.cells #[.pointer none, .slice none 0 0] 75) = W1
    have hs1 : W1.heap.size = w.heap.size + 1 := by rw [← hW1]; simp
    have hb1 : W1.heap[w.heap.size]? = some (.cells #[.pointer none, .slice none 0 0] 75 (0, 0)) := by rw [← hW1]; exact heap_alloc_new w _
    have hbl1 : Below w.heap.size w W1 := by rw [← hW1]; exact (Below.refl _ _).alloc (Nat.le_refl _) _
    have HS0 := Aside0.mk (show BuilderS (Lib.bytesWorld W1 5 s) w.heap.size w.heap.size (fun j => j = w.heap.size + 1) [] from
      ⟨_, _, (Lib.bytesWorld_at_old W1 _ s w.heap.size (by omega)).trans hb1, .inl rfl, Kd.R_nil _ _ _ _ _⟩)
    have HB0 := Aside0.mk (below_up hbl1 hbl1.size (below_bytes W1 5 s))
    have HC := Aside0.mk (fun j (hj : j < s.size) => Lib.bytesWorld_cell W1 5 s j hj)
    rw [hs1, HL.out] at HC
    have hz0 : (Lib.bytesWorld W1 5 s).heap.size = w.heap.size + 2 := by rw [Lib.bytesWorld_size]; omega
    have HZ := Aside0.mk hz0
    clear hs1 hb1 hbl1 hW1 hz0
    generalize Lib.bytesWorld W1 5 s = W2 at *
    go_loopg [11] s.size (fun g i wr => ∃ (k : Nat), g = s.size - k ∧ k ≤ s.size ∧ i = .int .i64 k ∧ Aside0 (BuilderS wr w.heap.size w.heap.size (fun j => j = w.heap.size + 1) (Ows.quoteL (l.take k))) ∧ Aside0 (wr.heap[w.heap.size + 1]? = W2.heap[w.heap.size + 1]?) ∧ Aside0 (w.heap.size + 2 ≤ wr.heap.size) ∧ Aside0 (Below w.heap.size w wr))
    case atStart => exact ⟨0, by omega, by omega, rfl, HS0, ⟨rfl⟩, ⟨by have := HZ.out; omega⟩, HB0⟩
    case round =>
      obtain ⟨k, rfl, hk, rfl, HS, HR, HZ1, HB⟩ := hrel
      by_cases hlt : k < s.size
      · have hcell : wr.cell? ⟨w.heap.size + 1, k, none⟩ = some (.int .u8 ((l.getD k 0).toNat : Int)) := (cell_same HR.out k).trans (HC.out k hlt)
        have hsn := take_snoc_ l k (by omega)
        have hql := Ows.quoteL_snoc (l.take k) (l.getD k 0)
        have hq3 := Ows.quoteL_len (l.take k)
        rw [List.length_take] at hq3
        have HNO := Aside0.mk (show ∀ j, j = w.heap.size + 1 → j < wr.heap.size ∧ j ≠ w.heap.size from fun j hj => by have := HZ1.out; omega)
        generalize l.getD k 0 = c at *
        rw [← hsn] at hql
        have HQ := Aside0.mk hql
        have hql3 : (Ows.quoteL (l.take k)).length ≤ 3 * k := by omega
        clear hql hsn hq3
        by_cases hp : Ows.plainI (c.toNat : Int) = true
        · have HP := Aside0.mk (show Ows.quoteC c = [c] from if_pos hp)
          go_wp2_with (first | (go_at_call 31; refine (plain_any _ _).mono ?_; rintro e w' ⟨rfl, rfl⟩) | (go_at_call 34; refine (WriteByte_s w.heap.size w.heap.size (fun j => j = w.heap.size + 1) (Ows.quoteL (l.take k)) c _ HS.out (Nat.le_refl _) HNO.out (by omega)).mono ?_; rintro e w1 ⟨rfl, hS, hK, hB⟩))
          go_roundg (s.size - (k + 1))
          case measure => omega
          case rel =>
            refine ⟨k + 1, rfl, by omega, by go_num, ⟨by rw [HQ.out, HP.out]; exact hS⟩, ⟨(hK _ rfl).trans HR.out⟩, ⟨by have := hB.size; have := HZ1.out; omega⟩, ⟨HB.out.trans hB⟩⟩
        · have hpf : Ows.plainI (c.toNat : Int) = false := by simpa using hp
          have HP := Aside0.mk (show Ows.quoteC c = [37, Ows.hexd (c.toNat / 16), Ows.hexd (c.toNat % 16)] from if_neg hp)
          clear hp
          have hand := and_nibble c
          obtain ⟨a, b, hab, ha, hb⟩ : ∃ a b : Nat, c.toNat = 16 * a + b ∧ a < 16 ∧ b < 16 := ⟨c.toNat / 16, c.toNat % 16, by omega, by have := c.toNat_lt; omega, by omega⟩
          have hq : (c.toNat : Int) / 16 = (a : Int) := by omega
          have hqn : c.toNat / 16 = a := by omega
          have hrn : c.toNat % 16 = b := by omega
          rw [hqn, hrn] at HP
          rw [hrn] at hand
          have HCAB := Aside0.mk hab
          clear hab hqn hrn
          have hxa : ∀ h, (⟨#[48, 49, 50, 51, 52, 53, 54, 55, 56, 57, 97, 98, 99, 100, 101, 102]⟩ : ByteArray)[a]'h = Ows.hexd a := fun h => byte_at _ a h
          have hxb : ∀ h, (⟨#[48, 49, 50, 51, 52, 53, 54, 55, 56, 57, 97, 98, 99, 100, 101, 102]⟩ : ByteArray)[b]'h = Ows.hexd b := fun h => byte_at _ b h
          go_wp2_with fail
          refine (plain_any _ _).mono ?_; rintro e w' ⟨rfl, rfl⟩
          go_wp2_with fail
          refine (WriteByte_s w.heap.size w.heap.size (fun j => j = w.heap.size + 1) (Ows.quoteL (l.take k)) 37 _ HS.out (Nat.le_refl _) HNO.out (by omega)).mono ?_
          rintro e w1 ⟨rfl, hS, hK, hB⟩
          have HS1 := Aside0.mk hS
          have HK1 := Aside0.mk hK
          have HB1 := Aside0.mk hB
          clear hS hK hB
          go_wp2_with fail
          refine (WriteByte_s w.heap.size w.heap.size (fun j => j = w.heap.size + 1) (Ows.quoteL (l.take k) ++ [37]) (Ows.hexd a) _ HS1.out (Nat.le_refl _) (fun j hj => ⟨by have := (HNO.out j hj).1; have := HB1.out.size; omega, (HNO.out j hj).2⟩) (by simp; omega)).mono ?_
          rintro e w2 ⟨rfl, hS, hK, hB⟩
          have HS2 := Aside0.mk hS
          have HK2 := Aside0.mk hK
          have HB2 := Aside0.mk hB
          clear hS hK hB
          go_wp2_with fail
          refine (WriteByte_s w.heap.size w.heap.size (fun j => j = w.heap.size + 1) (Ows.quoteL (l.take k) ++ [37] ++ [Ows.hexd a]) (Ows.hexd b) _ HS2.out (Nat.le_refl _) (fun j hj => ⟨by have := (HNO.out j hj).1; have := HB1.out.size; have := HB2.out.size; omega, (HNO.out j hj).2⟩) (by simp; omega)).mono ?_
          rintro e w3 ⟨rfl, hS, hK, hB⟩
          have HS3 := Aside0.mk hS
          have HK3 := Aside0.mk hK
          have HB3 := Aside0.mk hB
          clear hS hK hB
          go_wp2
          go_roundg (s.size - (k + 1))
          case measure => omega
          case rel =>
            refine ⟨k + 1, rfl, by omega, by go_num, ⟨?_⟩, ⟨?_⟩, ⟨?_⟩, ⟨((HB.out.trans HB1.out).trans HB2.out).trans HB3.out⟩⟩
            · rw [HQ.out, HP.out]
              have := HS3.out
              simpa [List.append_assoc] using this
            · exact (HK3.out _ rfl).trans ((HK2.out _ rfl).trans ((HK1.out _ rfl).trans HR.out))
            · have := HB1.out.size; have := HB2.out.size; have := HB3.out.size; have := HZ1.out; omega
      · obtain rfl : k = s.size := by omega
        have hT : l.take s.size = l := List.take_of_length_le (by omega)
        rw [hT] at HS
        go_wp2_with (first | (go_at_call 35; refine (BString_s w.heap.size w.heap.size (fun j => j = w.heap.size + 1) (Ows.quoteL l) _ HS.out (Nat.le_refl _)).mono ?_; rintro e w1 ⟨rfl, hB⟩))
        go_ret
        exact ⟨ret_str (by rw [HW.out]), HB.out.trans hB⟩
end Go.Proofs.YtnkcgoaafpnbjaaDoor
/- Are two lists of texts the same? -/
namespace Go.Proofs.YtnkcgoaafpnbjaaDoor
open Go.RowKit Go.Proofs.YtnkcgoaafpnbjaaDoorW.PrintWords
set_option linter.unusedVariables false
set_option linter.unusedSimpArgs false

theorem ba_ext {a b : ByteArray} (h : a.data.toList = b.data.toList) : a = b := ByteArray.ext (Array.ext' h)
def sameB (xs ys : List ByteArray) : Bool := decide (xs = ys)

set_option maxRecDepth 100000 in
set_option maxHeartbeats 1000000 in
theorem SameStr_any (A A' : Option Addr) (c c' : Nat) (xs ys : List ByteArray) (w : World) (hc : xs.length ≤ c) (hc' : ys.length ≤ c') (hC : Kd.string.C w A xs.length xs) (hC' : Kd.string.C w A' ys.length ys) :
    Calls Tryd.prog 19 #[.slice A xs.length c, .slice A' ys.length c'] w fun e w' => e = .returned (.bool (sameB xs ys)) ∧ Below w.heap.size w w' := by
  have hm := hC.2.1
  have hm' := hC'.2.1
  have H1 := Aside0.mk hC
  have H2 := Aside0.mk hC'
  clear hC hC'
  by_cases hl : xs.length = ys.length
  · have HL := Aside0.mk hl
    rw [← hl] at H2 hm' hc' ⊢
    clear hl
    go_enter Tryd.func19, Tryd.ntmps19
    go_wp2
    go_loopg [5] xs.length (fun g i wr => ∃ (k : Nat), g = xs.length - k ∧ k ≤ xs.length ∧ i = .int .i64 k ∧ Aside0 (xs.take k = ys.take k) ∧ Drawn0 w wr)
    case atStart => exact ⟨0, by omega, by omega, rfl, ⟨rfl⟩, Drawn0.refl _⟩
    case round =>
      obtain ⟨k, rfl, hk, rfl, HT, HD⟩ := hrel
      by_cases hlt : k < xs.length
      · obtain ⟨a1, rfl, hc1⟩ := Kd.at_string (Kd.C_below H1.out HD.below) (k : Int) (by omega) (by omega)
        obtain ⟨a2, rfl, hc2⟩ := Kd.at_string (Kd.C_below H2.out HD.below) (k : Int) (by omega) (by omega)
        simp only [Int.toNat_natCast] at hc1 hc2
        have hk2 : k < ys.length := by have := HL.out; omega
        have e1 : rdOf ByteArray.empty xs (k : Int) = xs[k] := by simp [rdOf, List.getD_eq_getElem?_getD, List.getElem?_eq_getElem hlt]
        have e2 : rdOf ByteArray.empty ys (k : Int) = ys[k] := by simp [rdOf, List.getD_eq_getElem?_getD, List.getElem?_eq_getElem hk2]
        have hx := List.take_succ_eq_append_getElem hlt
        have hy := List.take_succ_eq_append_getElem hk2
        rw [e1] at hc1
        rw [e2] at hc2
        have HX := Aside0.mk hx
        have HY := Aside0.mk hy
        have HG := Aside0.mk (show xs[k] = ys[k] → xs.take (k + 1) = ys.take (k + 1) from fun h => by rw [hx, hy, HT.out, h])
        have HN := Aside0.mk (show xs[k] ≠ ys[k] → xs ≠ ys from fun h e => by subst e; exact h rfl)
        clear e1 e2 hx hy HX HY
        generalize xs[k] = x at *
        generalize ys[k] = y at *
        have q1 : (0 : Int) ≤ (k : Int) := by omega
        have q2 : (k : Int) < (xs.length : Int) := by omega
        by_cases hxy : x = y
        · have HXY := Aside0.mk (HG.out hxy)
          subst hxy
          have hq : (x.toList == x.toList) = true := by rw [beq_iff_eq]
          go_wp2
          go_quiet (fail)
          go_wp2
          go_roundg (xs.length - (k + 1))
          case measure => omega
          case rel => exact ⟨k + 1, rfl, by omega, by go_num, HXY, HD.step _⟩
        · have HXY := Aside0.mk (HN.out hxy)
          have hq : (x.toList == y.toList) = false := by
            rw [beq_eq_false_iff_ne, Lib.toList_data, Lib.toList_data]
            exact fun h => hxy (ba_ext h)
          have hq2 : ¬ x.toList = y.toList := by
            rw [Lib.toList_data, Lib.toList_data]
            exact fun h => hxy (ba_ext h)
          clear hxy
          go_wp2
          go_quiet (fail)
          go_wp2
          go_ret
          exact ⟨ret_bool (decide_eq_false HXY.out).symm, (HD.step _).below⟩
      · obtain rfl : k = xs.length := by omega
        have he : xs = ys := by have := HT.out; rwa [List.take_length, HL.out, List.take_length] at this
        have HE := Aside0.mk he
        clear he
        go_wp2
        go_ret
        exact ⟨ret_bool (decide_eq_true HE.out).symm, HD.below⟩
  · have HL := Aside0.mk (show xs ≠ ys from fun h => hl (by rw [h]))
    go_enter Tryd.func19, Tryd.ntmps19
    go_wp2
    go_ret
    exact ⟨ret_bool (decide_eq_false HL.out).symm, Below.refl _ _⟩
end Go.Proofs.YtnkcgoaafpnbjaaDoor
/- The other side's number: what the printed functions come to. -/
namespace Go.Proofs.YtnkcgoaafpnbjaaDoor
open Go.RowKit Go.Proofs.YtnkcgoaafpnbjaaDoorW.PrintWords Go.Proofs.YtnkcgoaafpnbjaaDoor.Q
set_option linter.unusedVariables false
set_option linter.unusedSimpArgs false

theorem B_app_ (a b : List UInt8) : B a ++ B b = B (a ++ b) := by
  apply ByteArray.ext
  rw [ByteArray.data_append]
  simp [B]
theorem B_size_ (l : List UInt8) : (B l).size = l.length := by simp [B, ByteArray.size]
theorem wrap64_id {x : Int} (h : -9223372036854775808 ≤ x) (h2 : x ≤ 9223372036854775807) : wrap64 x = x := by unfold wrap64; omega

theorem decF : ∀ (j : Nat) (n : Int) (k : Nat), 0 ≤ n → n < 10 ^ (j + 1) → n ≤ 9223372036854775807 → j < k → ossuaryref34_Decimal.f k n = some (B (Ows.decNat n.toNat)) := by
  intro j
  induction j with
  | zero =>
    intro n k h0 h1 h2 hk
    obtain ⟨k, rfl⟩ : ∃ m, k = m + 1 := ⟨k - 1, by omega⟩
    simp only [ossuaryref34_Decimal.f]
    rw [if_neg (by omega), if_neg (by omega), if_pos (by omega), Ows.decNat_small (by omega), wrap64_id (by omega) (by omega)]
    have e : (48 + n) % 256 = ((48 + n.toNat : Nat) : Int) := by omega
    rw [e]
    rfl
  | succ j ih =>
    intro n k h0 h1 h2 hk
    obtain ⟨k, rfl⟩ : ∃ m, k = m + 1 := ⟨k - 1, by omega⟩
    simp only [ossuaryref34_Decimal.f]
    rw [if_neg (by omega), if_neg (by omega)]
    by_cases h10 : n < 10
    · rw [if_pos h10, Ows.decNat_small (by omega), wrap64_id (by omega) (by omega)]
      have e : (48 + n) % 256 = ((48 + n.toNat : Nat) : Int) := by omega
      rw [e]
      rfl
    · have ht : n.tdiv 10 = n / 10 := Int.tdiv_eq_ediv_of_nonneg h0
      have hm : n.tmod 10 = n % 10 := Int.tmod_eq_emod_of_nonneg h0
      rw [if_neg h10, ht, hm, wrap64_id (by omega) (by omega)]
      have hp : n / 10 < 10 ^ (j + 1) := by
        have : (10 : Int) ^ (j + 1 + 1) = 10 ^ (j + 1) * 10 := by rw [Int.pow_succ]
        omega
      rw [ih (n / 10) k (by omega) hp (by omega) (by omega), ih (n % 10) k (by omega) (by have : (0 : Int) < 10 ^ j := Int.pow_pos (by omega); rw [Int.pow_succ]; omega) (by omega) (by omega)]
      simp only [Option.bind_some]
      have hl1 := Ows.decNat_len 18 (n / 10).toNat (by omega)
      have hl2 := Ows.decNat_len 18 (n % 10).toNat (by omega)
      rw [if_pos (by rw [B_size_, B_size_]; omega), B_app_, Ows.decNat_big (show ¬ n.toNat < 10 by omega), show (n / 10).toNat = n.toNat / 10 by omega, show (n % 10).toNat = n.toNat % 10 by omega, Ows.decNat_small (show n.toNat % 10 < 10 by omega)]
theorem dec_min : Ows.dec (-9223372036854775808) = [45, 57, 50, 50, 51, 51, 55, 50, 48, 51, 54, 56, 53, 52, 55, 55, 53, 56, 48, 56] := by
  simp [Ows.dec, Ows.decNat_big, Ows.decNat_small]
theorem decimalF (n : Int) (k : Nat) (h0 : -9223372036854775808 ≤ n) (h1 : n ≤ 9223372036854775807) (hk : 20 ≤ k) : ossuaryref34_Decimal.f k n = some (B (Ows.dec n)) := by
  by_cases hneg : n < 0
  · obtain ⟨k, rfl⟩ : ∃ m, k = m + 1 := ⟨k - 1, by omega⟩
    simp only [ossuaryref34_Decimal.f]
    by_cases hmin : n = -9223372036854775808
    · rw [if_pos hmin, hmin, dec_min]; rfl
    · rw [if_neg hmin, if_pos hneg, wrap64_id (by omega) (by omega), decF 18 (-n) k (by omega) (by omega) (by omega) (by omega)]
      simp only [Option.bind_some]
      have hl := Ows.decNat_len 18 (-n).toNat (by omega)
      rw [if_pos (by rw [B_size_]; omega), Ows.dec, if_pos hneg]
      exact congrArg some (B_app_ [45] _)
  · rw [decF 18 n k (by omega) (by omega) h1 (by omega), Ows.dec, if_neg hneg]

/-- What the loop comes to: the digits from i on. -/
theorem rloopF (s : ByteArray) (l : List UInt8) (hl : s.data.toList = l) (from_ : Int) (hs : s.size ≤ 140737488351232) : ∀ (d k i : Nat) (v : Int), i ≤ s.size → s.size - i = d → d + 30 ≤ k → -9223372036854775808 ≤ v → v ≤ 0 →
    ossuaryref34_Number.l0 k s v from_ i = some (match (Ows.numEnd (from_ ≠ 0) (Ows.numGo (l.drop i) v)).bind fun n => if Ows.dec n = l then some n else none with | none => (0, false) | some n => (n, true)) := by
  intro d
  induction d with
  | zero =>
    intro k i v hi hd hk h0 h1
    obtain ⟨k, rfl⟩ : ∃ m, k = m + 1 := ⟨k - 1, by omega⟩
    have hlen : l.length = s.size := by rw [← hl, ← Lib.size_eq]
    have hdrop : l.drop i = [] := List.drop_of_length_le (by omega)
    simp only [ossuaryref34_Number.l0]
    rw [if_neg (by omega), hdrop]
    have hBl : ∀ x : List UInt8, ((B x).toList = s.toList) = (x = l) := fun x => by rw [Lib.toList_data, Lib.toList_data, hl]; rfl
    by_cases hf : from_ = 0
    · rw [if_pos hf]
      by_cases hm : v = -9223372036854775808
      · rw [if_pos hm]
        simp [Ows.numGo, Ows.numEnd, hf, hm]
      · rw [if_neg hm, wrap64_id (by omega) (by omega), decimalF (-v) k (by omega) (by omega) (by omega)]
        simp only [Option.bind_some, hBl]
        by_cases hd2 : Ows.dec (-v) = l
        · simp [Ows.numGo, Ows.numEnd, hf, hm, hd2]
        · simp [Ows.numGo, Ows.numEnd, hf, hm, hd2]
    · rw [if_neg hf, decimalF v k (by omega) (by omega) (by omega)]
      simp only [Option.bind_some, hBl]
      by_cases hd2 : Ows.dec v = l
      · simp [Ows.numGo, Ows.numEnd, hf, hd2]
      · simp [Ows.numGo, Ows.numEnd, hf, hd2]
  | succ d ih =>
    intro k i v hi hd hk h0 h1
    obtain ⟨k, rfl⟩ : ∃ m, k = m + 1 := ⟨k - 1, by omega⟩
    have hlen : l.length = s.size := by rw [← hl, ← Lib.size_eq]
    have hil : i < l.length := by omega
    have hbt : bt s (i : Int) = ((l.getD i 0).toNat : Int) := by
      have hi2 : i < s.size := by omega
      simp only [bt, Int.toNat_natCast, hi2, dif_pos]
      rw [byte_at s i hi2, hl]
    have hlt := (l.getD i 0).toNat_lt
    rw [List.drop_eq_getElem_cons hil]
    have e0 : l.getD i 0 = l[i] := by simp [List.getD_eq_getElem?_getD, List.getElem?_eq_getElem hil]
    simp only [ossuaryref34_Number.l0, Ows.numGo]
    rw [if_pos (by omega), if_pos (by omega), hbt]
    rw [e0] at hlt ⊢
    generalize l[i] = c at *
    rw [wrap64_id (x := (c.toNat : Int)) (by omega) (by omega), wrap64_id (x := (c.toNat : Int) - 48) (by omega) (by omega)]
    by_cases c1 : (c.toNat : Int) - 48 < 0
    · rw [if_pos c1, if_pos (.inl c1)]; rfl
    · rw [if_neg c1]
      by_cases c2 : 9 < (c.toNat : Int) - 48
      · rw [if_pos c2, if_pos (.inr (.inl c2))]; rfl
      · rw [if_neg c2, wrap64_id (x := -9223372036854775808 + ((c.toNat : Int) - 48)) (by omega) (by omega)]
        have htd : (-9223372036854775808 + ((c.toNat : Int) - 48)).tdiv 10 = -((9223372036854775808 - ((c.toNat : Int) - 48)) / 10) := by
          rw [show -9223372036854775808 + ((c.toNat : Int) - 48) = -(9223372036854775808 - ((c.toNat : Int) - 48)) by omega, Int.neg_tdiv, Int.tdiv_eq_ediv_of_nonneg (by omega)]
        rw [htd, wrap64_id (by omega) (by omega)]
        by_cases c3 : v < -((9223372036854775808 - ((c.toNat : Int) - 48)) / 10)
        · rw [if_pos c3, if_pos (by omega)]; rfl
        · rw [if_neg c3, if_neg (by omega), wrap64_id (x := v * 10) (by omega) (by omega), wrap64_id (x := v * 10 - ((c.toNat : Int) - 48)) (by omega) (by omega), wrap64_id (x := (i : Int) + 1) (by omega) (by omega)]
          exact ih k (i + 1) _ (by omega) (by omega) (by omega) (by omega) (by omega)
def optNum (o : Option Int) : Int × Bool := match o with | none => (0, false) | some n => (n, true)
theorem rNumberF (s : ByteArray) (hs : s.size ≤ 140737488351232) : ossuaryref34_Number.f (s.size + 40) s = some (optNum (Ows.rNum s.data.toList)) := by
  have hlen : s.data.toList.length = s.size := by rw [← Lib.size_eq]
  unfold ossuaryref34_Number.f
  by_cases h0 : (s.size : Int) = 0
  · rw [if_pos h0, Ows.rNum, if_pos (.inl (by omega))]
    rfl
  · rw [if_neg h0]
    by_cases h20 : (s.size : Int) > 20
    · rw [Ows.rNum, if_pos (.inr (by omega))]
      simp [h20, ossuaryref34_Number.j0, optNum]
    · rw [Ows.rNum, if_neg (by omega)]
      have hb : bt s 0 = ((s.data.toList.getD 0 0).toNat : Int) := by
        have hi2 : 0 < s.size := by omega
        simp only [bt, Int.toNat_zero, hi2, dif_pos]
        rw [byte_at s 0 hi2]
      simp only [h20, decide_false, ossuaryref34_Number.j0, ossuaryref34_Number.j1, Bool.false_eq_true, if_false]
      rw [if_pos (by omega), hb]
      generalize hl : s.data.toList = l at *
      rcases Ows.pre_cases l with ⟨t, hs2, hm, ht⟩ | ⟨hs2, hm, ht⟩
      · rw [if_pos (by rw [hs2]; rfl)]
        have := rloopF s l hl 1 hs (s.size - 1) (s.size + 38) 1 0 (by omega) rfl (by omega) (by omega) (by omega)
        refine this.trans ?_
        unfold Ows.numV optNum
        rw [hm, ht, hs2]
        rfl
      · rw [if_neg (by
          intro h
          rcases l with _ | ⟨c, l⟩
          · simp at hlen; omega
          · exact hs2 (by simp only [List.head?_cons]; congr 1; exact UInt8.toNat_inj.1 (show c.toNat = 45 by simp at h; omega)))]
        have := rloopF s l hl 0 hs (s.size - 0) (s.size + 38) 0 0 (by omega) rfl (by omega) (by omega) (by omega)
        refine this.trans ?_
        unfold Ows.numV optNum
        rw [hm, ht]
        rfl
theorem optNum_eq (o : Option Int) : optNum o = (o.getD 0, o.isSome) := by cases o <;> rfl
theorem rNumber_any (s : ByteArray) (w : World) (hs : s.size ≤ 140737488351232) :
    Calls Tryd.prog 14 #[.string s] w fun e w' => e = .returned (.tuple #[.int .i64 ((Ows.wNum s.data.toList).getD 0), .bool (Ows.wNum s.data.toList).isSome]) ∧ Below w.heap.size w w' := by
  rw [Ows.wNum_eq]
  have h := rNumberF s hs
  rw [optNum_eq] at h
  exact ossuaryref34_Number.calls _ s _ _ w h
end Go.Proofs.YtnkcgoaafpnbjaaDoor
