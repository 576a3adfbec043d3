/- The line of an ingest, parsed, and the example of the chapter, walked. -/
import Derived.Test.YtnkcgoaafpnbjaaDoorM4
import Derived.Test.YtnkcgoaafpnbjaaDoorM1
import Derived.Test.YtnkcgoaafpnbjaaDoorM2
import Derived.StillTailTactics
import Derived.Defers
import Derived.Recover
import Derived.Test.YtnkcgoaafpnbjaaDoorM3
/- reader.facts: the facts of the words that are left, or the panic that says that a line is none. -/
namespace Go.Proofs.YtnkcgoaafpnbjaaDoor
open Go.RowKit Go.Proofs.YtnkcgoaafpnbjaaDoorW.PrintWords
set_option linter.unusedVariables false
set_option linter.unusedSimpArgs false

/-- What reader.facts comes to. -/
def FactsPost (w0 : World) (b d : Nat) (w : World) (o : Option (List Fct)) (e : Ending) (w' : World) : Prop := match o with
  | none => e = Mal ∧ KeepB b w w'
  | some out => ∃ v, e = .returned v ∧ kFct.R 54 w' w.heap.size (fun k => w.heap.size ≤ k) v out ∧ RdS w0 w' b d [] ∧ KeepB b w w'
theorem FactsPost.mal {w0 : World} {b d : Nat} {w w' : World} {o : Option (List Fct)} (h : o = none) (hk : KeepB b w w') : FactsPost w0 b d w o (.panicked [{ v := .iface 33 (.int .i64 4), recovered := false }]) w' := by
  subst h
  exact ⟨rfl, hk⟩
theorem infoFct : (Tryd.prog.info? 54).map (fun i => (i.zero, i.size, i.bytes)) = some (some (.agg #[.int .i64 0, .string ⟨#[]⟩, .string ⟨#[]⟩, .string ⟨#[]⟩, .string ⟨#[]⟩, .int .i64 0]), 6, 80) := by kernel_rfl
theorem setC_size (w : World) (a : Addr) (v : Value) : (w.setCell a v).heap.size = w.heap.size := by simp [World.setCell]
/-- A fact's cells. -/
def cFct (h : Int) (t : T4) (v : Int) : Array Value := #[.int .i64 h, .string t.f0, .string t.f1, .string t.f2, .string t.f3, .int .i64 v]
theorem cFct_set (h : Int) (t : T4) (v : Int) (j : Nat) (hj : j < 4) (s : ByteArray) : (cFct h t v).setIfInBounds (1 + j) (.string s) = cFct h (t.set j s) v := by
  rcases j with _ | _ | _ | _ | j
  · rfl
  · rfl
  · rfl
  · rfl
  · omega
theorem cFct_at (h : Int) (t : T4) (v : Int) (j : Nat) (hj : j < 4) : ∃ s, (cFct h t v)[1 + j]? = some (.string s) := by
  rcases j with _ | _ | _ | _ | j
  · exact ⟨_, rfl⟩
  · exact ⟨_, rfl⟩
  · exact ⟨_, rfl⟩
  · exact ⟨_, rfl⟩
  · omega
set_option maxRecDepth 100000 in
set_option maxHeartbeats 4000000 in
theorem facts_any (w0 : World) (b d : Nat) (ls : List ByteArray) (w : World) (h : RdS w0 w b d ls) (hd1 : 1 ≤ d) (hd4 : d ≤ 4) :
    Calls Tryd.prog 39 #[.pointer (some ⟨b, 0, none⟩)] w (FactsPost w0 b d w (factsP d ls [])) := by
  have hbl := h.lt
  have hw0 := h.keep.size
  have H := Aside0.mk h
  clear h
  go_enter Tryd.func39, Tryd.ntmps39
  go_wp2
  go_step3
  go_wp2
  go_step3
  go_wp2
  go_loopg [2] (ls.length + 1) (fun g o wr => ∃ (ls' : List ByteArray) (out : List Fct), g = ls'.length + 1 ∧ out.length ≤ 50 ∧ Aside0 (factsP d ls [] = factsP d ls' out) ∧ Aside0 (kFct.R 54 wr w.heap.size (fun k => w.heap.size ≤ k) o out) ∧ Aside0 (RdS w0 wr b d ls') ∧ Aside0 (KeepB b w wr))
  case atStart => exact ⟨ls, [], rfl, by simp, ⟨rfl⟩, ⟨Kd.R_nil _ _ _ _ _⟩, H, ⟨KeepB.refl _ _⟩⟩
  case round =>
    obtain ⟨ls', out, rfl, hout, HE, HO, HR, HK⟩ := hrel
    obtain ⟨A0, c0, hleft⟩ := HR.out.left
    obtain ⟨Ao, co, rfl⟩ := Kd.R_slice HO.out
    rcases ls' with _ | ⟨x, r⟩
    · simp only [List.length_nil] at hleft
      have HEE := Aside0.mk (HE.out.trans (by rw [factsP_step, if_pos rfl]))
      clear HE
      go_wp2
      rw [Exit.noGoto_ret]
      go_ret
      rw [HEE.out]
      exact ⟨_, rfl, HO.out, HR.out, HK.out⟩
    · simp only [List.length_cons] at hleft
      have hstep := HE.out.trans (by rw [factsP_step, if_neg (by simp)])
      clear HE
      by_cases h50 : 50 ≤ out.length
      · rw [if_pos h50] at hstep
        have HEE := Aside0.mk hstep
        clear hstep
        have hb50 : decide ((out.length : Int) < 50) = false := by simp; omega
        go_wp2_with (first | (go_at_call 46; refine (must_false _).mono ?_; rintro e w' ⟨rfl, rfl⟩; unfold Mal))
        exact ⟨rfl, FactsPost.mal HEE.out HK.out⟩
      · rw [if_neg h50] at hstep
        have hb50 : decide ((out.length : Int) < 50) = true := by simp; omega
        have hwl := HK.out.size
        have hxs := HR.out.head
        cases hcp : Ows.cParse x.data.toList with
        | none =>
          have hfp : factP d (x :: r) = none := by simp only [factP, hcp]
          rw [hfp] at hstep
          have HEE := Aside0.mk hstep
          have HCP := Aside0.mk hcp
          clear hstep hcp hfp
          go_wp2_with (first
            | (go_at_call 46; (first | refine (must_true _).mono ?_ | refine (must_false _).mono ?_); rintro e w' ⟨rfl, rfl⟩; (try unfold Mal))
            | (go_at_call 38; refine (word_some w0 b d x r _ HR.out).mono ?_; rintro e w1 ⟨rfl, hR1, hK1⟩; have HR1 := Aside0.mk hR1; have HK1 := Aside0.mk hK1; clear hR1 hK1)
            | (go_at_call 65; refine (cParse_any x _ hxs).mono ?_; rintro e w2 ⟨rfl, hB2⟩; rw [HCP.out]; have HB2 := Aside0.mk hB2; clear hB2))
          exact ⟨rfl, FactsPost.mal HEE.out ((HK.out.trans HK1.out).trans (KeepB.of_below HB2.out))⟩
        | some hh =>
          have HST := Aside0.mk hstep
          have HCP := Aside0.mk hcp
          clear hstep hcp
          go_wp2_with (first
            | (go_at_call 46; (first | refine (must_true _).mono ?_ | refine (must_false _).mono ?_); rintro e w' ⟨rfl, rfl⟩; (try unfold Mal))
            | (go_at_call 38; refine (word_some w0 b d x r _ HR.out).mono ?_; rintro e w1 ⟨rfl, hR1, hK1⟩; have HR1 := Aside0.mk hR1; have HK1 := Aside0.mk hK1; clear hR1 hK1)
            | (go_at_call 65; refine (cParse_any x _ hxs).mono ?_; rintro e w2 ⟨rfl, hB2⟩; rw [HCP.out]; have HB2 := Aside0.mk hB2; have hdm := (HR1.out.below hB2).dims; have hbl2 := (HR1.out.below hB2).lt; clear hB2))
          have HBH := Aside0.mk (show (w2.alloc (.cells #[.int .i64 hh, .string ⟨#[]⟩, .string ⟨#[]⟩, .string ⟨#[]⟩, .string ⟨#[]⟩, .int .i64 0] 54)).heap[w2.heap.size]? = some (.cells (cFct hh zT4 0) 54 (0, 0)) from heap_alloc_new w2 _)
          have hz2 := HB2.out.size
          have hz1 := HK1.out.size
          have hz0 := HR1.out.keep.size
          go_loopg [35] d (fun g i wr2 => ∃ (j : Nat) (r2 : List ByteArray) (t : T4), g = d - j ∧ j ≤ d ∧ i = .int .i64 j ∧ Aside0 (textsP d 0 zT4 r = textsP (d - j) j t r2) ∧ Aside0 (wr2.heap[w2.heap.size]? = some (.cells (cFct hh t 0) 54 (0, 0))) ∧ Aside0 (RdS w0 wr2 b d r2) ∧ Aside0 (KeepB b wr wr2))
          case atStart => exact ⟨0, r, zT4, rfl, by omega, rfl, ⟨rfl⟩, HBH, ⟨(HR1.out.below HB2.out).below ((Below.refl _ _).alloc (Nat.le_refl _) _)⟩, ⟨(HK1.out.trans (KeepB.of_below HB2.out)).trans (KeepB.alloc _ _ _)⟩⟩
          case round =>
            obtain ⟨j, r2, t, rfl, hj, rfl, HT, HFB, HR2, HK2⟩ := hrel
            have hFl := blk_lt HFB.out
            by_cases hjd : j < d
            · have hdj : d - j = d - (j + 1) + 1 := by omega
              rcases r2 with _ | ⟨x2, r3⟩
              · have HEE := Aside0.mk (HST.out.trans (show _ = none by simp only [factP, HCP.out, HT.out, hdj, textsP]))
                clear hdj
                go_wp2_with (first
                  | (go_at_call 64; refine (text_none w0 b d _ HR2.out).mono ?_; rintro e w3 ⟨rfl, hK3⟩; unfold Mal; have HK3 := Aside0.mk hK3; clear hK3))
                exact ⟨rfl, FactsPost.mal HEE.out ((HK.out.trans HK2.out).trans HK3.out)⟩
              · cases hwb : Ows.wBare x2.data.toList with
                | none =>
                  have HEE := Aside0.mk (HST.out.trans (show _ = none by simp only [factP, HCP.out, HT.out, hdj, textsP, hwb]))
                  have HWB := Aside0.mk hwb
                  clear hdj hwb
                  go_wp2_with (first
                    | (go_at_call 64; refine (text_bad w0 b d x2 r3 _ HR2.out HWB.out).mono ?_; rintro e w3 ⟨rfl, hK3⟩; unfold Mal; have HK3 := Aside0.mk hK3; clear hK3))
                  exact ⟨rfl, FactsPost.mal HEE.out ((HK.out.trans HK2.out).trans HK3.out)⟩
                | some s =>
                  have HT2 := Aside0.mk (HT.out.trans (show _ = textsP (d - (j + 1)) (j + 1) (t.set j (B s)) r3 by rw [hdj, textsP, hwb]; rfl))
                  have HWB := Aside0.mk hwb
                  clear hdj hwb
                  have hj4 : j < 4 := by omega
                  go_wp2_with (first
                    | (go_at_call 64; refine (text_some w0 b d x2 r3 s _ HR2.out HWB.out).mono ?_; rintro e w3 ⟨rfl, hR3, hK3⟩; have HR3 := Aside0.mk hR3; have HK3 := Aside0.mk hK3; have hF3 := hK3.blk (by omega) HFB.out; have HF3 := Aside0.mk hF3; obtain ⟨s0, hs0⟩ := cFct_at hh t 0 j hj4; have hc3 := (blk_cell hF3 (1 + j)).trans hs0; have hz3 := hK3.size; have hcz := blk_frozen hF3; clear hR3 hK3 hF3 hs0))
                  go_roundg (d - (j + 1))
                  case measure => omega
                  case rel =>
                    refine ⟨j + 1, r3, t.set j (B s), rfl, by omega, by go_num, HT2, ⟨?_⟩, ⟨HR3.out.setNew (by omega) (by omega) _ _⟩, ⟨(HK2.out.trans HK3.out).setNew (by omega) _ _⟩⟩
                    rw [set_blk_ HF3.out, cFct_set hh t 0 j hj4]
            · obtain rfl : j = d := by omega
              have HTX := Aside0.mk (HT.out.trans (show _ = some (t, r2) by rw [Nat.sub_self]; rfl))
              clear HT
              rcases r2 with _ | ⟨y, r4⟩
              · have HEE := Aside0.mk (HST.out.trans (show _ = none by simp only [factP, HCP.out, HTX.out]))
                go_wp2_with (first
                  | (go_at_call 42; refine (num_none w0 b j _ HR2.out).mono ?_; rintro e w3 ⟨rfl, hK3⟩; unfold Mal; have HK3 := Aside0.mk hK3; clear hK3))
                exact ⟨rfl, FactsPost.mal HEE.out ((HK.out.trans HK2.out).trans HK3.out)⟩
              · cases hwn : Ows.wNum y.data.toList with
                | none =>
                  have HEE := Aside0.mk (HST.out.trans (show _ = none by simp only [factP, HCP.out, HTX.out, hwn]))
                  have HWN := Aside0.mk hwn
                  clear hwn
                  go_wp2_with (first
                    | (go_at_call 42; refine (num_bad w0 b j y r4 _ HR2.out HWN.out).mono ?_; rintro e w3 ⟨rfl, hK3⟩; unfold Mal; have HK3 := Aside0.mk hK3; clear hK3))
                  exact ⟨rfl, FactsPost.mal HEE.out ((HK.out.trans HK2.out).trans HK3.out)⟩
                | some v =>
                  have HEE := Aside0.mk (HST.out.trans (show _ = factsP j r4 (out ++ [⟨⟨hh, t⟩, v⟩]) by simp only [factP, HCP.out, HTX.out, hwn]))
                  have HWN := Aside0.mk hwn
                  clear hwn
                  have hlt50 : out.length < 50 := by omega
                  go_wp2_with (first
                    | ((with_reducible refine gate_dst (N := 51) rfl ?_); go_must (refine Kd.R_append kFct (w0 := w3.setCell ⟨w2.heap.size, 5, none⟩ (.int .i64 v)) (W := w3.setCell ⟨w2.heap.size, 5, none⟩ (.int .i64 v)) w.heap.size rfl (.tmp 48) (.tmp 50) 23 54 _ 80 rfl Tryd.underlying23 infoFct rfl (by decide) (by omega) (.slice Ao out.length co) out ⟨⟨hh, t⟩, v⟩ [.int .i64 hh, .string t.f0, .string t.f1, .string t.f2, .string t.f3, .int .i64 v] (fun k => w.heap.size ≤ k) (fun _ => False) rfl (by rw [setC_size]; rfl) (kFct_mkM _ _ _ _) (fun _ hk => hk.elim) (fun k hk => by simp at hk; omega) (Kd.R_step HO.out (fun k hk hlt => ((HK2.out.trans HK3.out).setNew (by omega) _ _).block k hlt (by omega))) (Below.refl _ _) (by simp; omega) (by omega) ?_); intro v1 w4 hr4 hb4 _ _; have HO4 := Aside0.mk hr4; have HB4 := Aside0.mk hb4; clear hr4 hb4)
                    | (go_at_call 42; refine (num_some w0 b j y r4 v _ HR2.out HWN.out).mono ?_; rintro e w3 ⟨rfl, hR3, hK3⟩; have HR3 := Aside0.mk hR3; have HK3 := Aside0.mk hK3; have hF3 := hK3.blk (by omega) HFB.out; have HF3 := Aside0.mk hF3; have hc0 := blk_cell hF3 0; have hc1 := blk_cell hF3 1; have hc2 := blk_cell hF3 2; have hc3 := blk_cell hF3 3; have hc4 := blk_cell hF3 4; have hc5 := blk_cell hF3 5; change _ = some (Value.int .i64 hh) at hc0; change _ = some (Value.string t.f0) at hc1; change _ = some (Value.string t.f1) at hc2; change _ = some (Value.string t.f2) at hc3; change _ = some (Value.string t.f3) at hc4; change _ = some (Value.int .i64 0) at hc5; have hz3 := hK3.size; have hcz := blk_frozen hF3; clear hR3 hK3 hF3))
                  go_roundg (r4.length + 1)
                  case measure =>
                    have htl := textsP_len _ _ _ _ _ HTX.out
                    simp only [List.length_cons] at htl ⊢
                    omega
                  case rel =>
                    exact ⟨r4, out ++ [⟨⟨hh, t⟩, v⟩], rfl, by simp; omega, HEE, HO4, ⟨(HR3.out.setNew (by omega) (by omega) _ _).low HB4.out (by omega) (by omega)⟩, ⟨(((HK.out.trans HK2.out).trans HK3.out).setNew (by omega) _ _).low HB4.out (by omega)⟩⟩
end Go.Proofs.YtnkcgoaafpnbjaaDoor
/- reader.step of a line that begins with 'ingest'. -/
namespace Go.Proofs.YtnkcgoaafpnbjaaDoor
open Go.RowKit Go.Proofs.YtnkcgoaafpnbjaaDoorW.PrintWords
set_option linter.unusedVariables false
set_option linter.unusedSimpArgs false

/-- A whole row is loaded, inside a region that draws its order. -/
theorem still_ld_row {P : Program} {ops : Array Oper} {w : World} {Q : Act → Prop} {a : Act} {o : Oper} {rest : List Oper} (hw : Region.wanted o (yielded ops a.tmps) = true) (ty : TypeId) (x : Operand) (ho : o.op = .load ty x) (b : Nat) (hx : a.eval x = .pointer (some ⟨b, 0, none⟩)) (cs : Array Value) (t : TypeId) (fr : Nat × Nat) (d : TypeDesc) (hg : w.heap[b]? = some (.cells cs t fr))
    (hu : P.underlying ty = some d) (hd : (match d with | .struct _ | .array _ _ => true | _ => false) = true) (hi : (P.info? ty).map (·.size) = some cs.size)
    (h : wpStill P ops w Q rest (a.put o.dst (.agg cs))) : wpStill P ops w Q (o :: rest) a := by
  refine wpStill_step fun K hK => ?_
  rw [if_pos hw]
  unfold Oper.still execOp
  simp only [ho, hx, Instr.loadAt, Instr.sureAddr, Sem.run_bind, Sem.run_pure, Result.andThen_ok, run_loadVar_row w b t ty cs fr d hg hu hd hi]
  exact ⟨rfl, hK _ h⟩

theorem qEq_refl (q : Qry) : qEq q q = true := by simp [qEq, bEq, tEq]
theorem pEq_refl (p : Pol) : pEq p p = true := by simp [pEq]
theorem own_capM {W : World} {base n c : Nat} {e : TypeId} {size : Nat} {A : Option Addr} {xs : List Value} (h : W.ownsRow base e size (.slice A n c) n xs) : n ≤ c ∧ c ≤ 9223372036854775807 := by
  rcases h.2 with ⟨h1, h2⟩ | ⟨g, cap, cur, h1, _, _, h2, h3, _⟩
  · injection h1 with _ h3 h4
    omega
  · injection h1 with _ _ h4
    unfold maxLen at h3
    omega
/-- A row of the call's own, read. -/
theorem R_use {T : Type} {kd : Kd T} {e base : Nat} {W : World} {ok : Nat → Prop} {A : Option Addr} {n c : Nat} {xs : List T} (h : kd.R e W base ok (.slice A n c) xs) : n = xs.length ∧ kd.C W A xs.length xs ∧ xs.length ≤ c ∧ c ≤ 9223372036854775807 := by
  obtain ⟨A', c', he, hle, hC⟩ := Kd.R_reads h
  obtain ⟨inner, ho⟩ := Kd.R_own h
  injection he with e1 e2 e3
  subst e1
  subst e2
  subst e3
  exact ⟨rfl, hC, own_capM ho⟩
/-- What reader.step comes to, of an ingest. -/
def StepPost1 (w0 : World) (b d : Nat) (w : World) (o : Option (List Fct)) (e : Ending) (w' : World) : Prop := match o with
  | none => e = Mal ∧ KeepB b w w'
  | some out => ∃ v, e = .returned (.agg (cStp 1 0 v zQry zPol nils)) ∧ kFct.R 54 w' w.heap.size (fun k => w.heap.size ≤ k) v out ∧ KeepB b w w'
/-- The facts of an ingest that is right. -/
def ingP (d : Nat) (ls : List ByteArray) : Option (List Fct) := (factsP d ls []).bind fun out => if (fAll d out).1 = 0 then some out else none
def ingW : ByteArray := ⟨#[105, 110, 103, 101, 115, 116]⟩

set_option maxRecDepth 100000 in
set_option maxHeartbeats 4000000 in
theorem step_1 (w0 : World) (b d : Nat) (ls : List ByteArray) (w : World) (h : RdS w0 w b d (ingW :: ls)) (hd1 : 1 ≤ d) (hd4 : d ≤ 4) :
    Calls Tryd.prog 23 #[.pointer (some ⟨b, 0, none⟩)] w (StepPost1 w0 b d w (ingP d ls)) := by
  have hbl := h.lt
  have hw0 := h.keep.size
  have H := Aside0.mk h
  clear h
  cases hfp : factsP d ls [] with
  | none =>
    have HP := Aside0.mk (show ingP d ls = none by simp only [ingP, hfp]; rfl)
    have HFP := Aside0.mk hfp
    clear hfp
    go_enter Tryd.func23, Tryd.ntmps23
    go_wp2_with (first
      | (go_at_call 38; refine (word_some w0 b d ingW ls _ (H.out.below ((Below.refl _ _).alloc (Nat.le_refl _) _))).mono ?_; rintro e w1 ⟨rfl, hR1, hK1⟩; have HR1 := Aside0.mk hR1; have HK1 := Aside0.mk hK1; unfold ingW; clear hR1 hK1)
      | (go_at_call 39; refine (facts_any w0 b d ls _ HR1.out hd1 hd4).mono ?_; intro e w2 hF; rw [HFP.out] at hF; obtain ⟨rfl, hK2⟩ := hF; unfold Mal; have HK2 := Aside0.mk hK2; clear hK2))
    rw [HP.out]
    exact ⟨rfl, rfl, ((KeepB.alloc b w _).trans HK1.out).trans HK2.out⟩
  | some out =>
    have HFP := Aside0.mk hfp
    have HP := Aside0.mk (show ingP d ls = if (fAll d out).1 = 0 then some out else none by simp only [ingP, hfp]; rfl)
    clear hfp
    have hS : w.heap.size < w.heap.size + 1 := by omega
    go_enter Tryd.func23, Tryd.ntmps23
    go_wp2_with (first
      | (go_at_call 38; refine (word_some w0 b d ingW ls _ (H.out.below ((Below.refl _ _).alloc (Nat.le_refl _) _))).mono ?_; rintro e w1 ⟨rfl, hR1, hK1⟩; have HR1 := Aside0.mk hR1; have HK1 := Aside0.mk hK1; have hz1 := hK1.size; rw [World.size_alloc] at hz1; unfold ingW; clear hR1 hK1)
      | (go_at_call 39; refine (facts_any w0 b d ls _ HR1.out hd1 hd4).mono ?_; intro e w2 hF; rw [HFP.out] at hF; obtain ⟨v, rfl, hO2, hR2, hK2⟩ := hF; obtain ⟨Av, cv, rfl⟩ := Kd.R_slice hO2; have HR2 := Aside0.mk hR2; have HO2 := Aside0.mk hO2; have HK2 := Aside0.mk hK2; have hz2 := hK2.size; clear hK2 hR2 hO2)
      | ((with_reducible refine gate_store (t := 32) (p := 2) rfl ?_); go_must (refine st_row rfl 32 _ _ rfl w.heap.size (cStp 1 0 (.slice Av out.length cv) zQry zPol nils) rfl rfl _ _ (HK2.out.blk (by omega) (HK1.out.blk (by omega) (heap_alloc_new w _))) (by exact info32) rfl (cStp_all _ _ _ _ _ _ _ _ _ _) ?_); intro W3 hg3 hk3; have HG3 := Aside0.mk hg3; have HK3 := Aside0.mk hk3; have hz3 := hk3.size; clear hg3 hk3))
    obtain ⟨Ar, cr, hl2⟩ := HR2.out.left
    have hr0 := HK3.out.cell hl2 (show b ≠ w.heap.size by omega)
    have hr1 := HK3.out.cell HR2.out.dims (show b ≠ w.heap.size by omega)
    clear hl2
    refine wp_region_still_tail 12 (by kernel_rfl) (by kernel_rfl) ?_
    simp only [List.take_succ_cons, List.take_zero, List.drop_succ_cons, List.drop_zero]
    still_step
    still_step
    still_step
    still_step
    still_step
    still_step
    still_step
    refine still_ld_row (by rfl) 32 _ rfl w.heap.size rfl (cStp 1 0 (.slice Av out.length cv) zQry zPol nils) _ _ _ HG3.out Tryd.underlying32 rfl info32 ?_
    repeat still_step
    refine wpStill_nil ?_
    change wpList _ _ _ _ _ W3.drew
    obtain ⟨W4, hW4⟩ : ∃ W4, W4 = W3.drew := ⟨_, rfl⟩
    have hg4 : W4.heap[w.heap.size]? = some (.cells (cStp 1 0 (.slice Av out.length cv) zQry zPol nils) 32 (0, 0)) := by rw [hW4]; exact HG3.out
    have hk4 : KeepB w.heap.size w2 W4 := by rw [hW4]; exact HK3.out.trans (KeepB.drew _ _)
    have hz4 : w2.heap.size ≤ W4.heap.size := hk4.size
    rw [← hW4]
    clear hW4
    have HO4 := Aside0.mk (Kd.R_step (w1 := W4) HO2.out (fun k hk hlt => hk4.block k hlt (by omega)))
    have HG4 := Aside0.mk hg4
    have HK4 := Aside0.mk hk4
    have hRI := right_1 0 out Av cv zQry zPol none 0 0 d (cStp 1 0 (.slice Av out.length cv) zQry zPol nils) rfl W4 (R_use HO4.out).2.1 (R_use HO4.out).2.2.1 (R_use HO4.out).2.2.2
    rw [show (((0 : Int) == 0 && (qEq zQry zQry && (pEq zPol zPol && decide (0 = 0)))) && decide ((fAll d out).1 = 0)) = decide ((fAll d out).1 = 0) from by rw [qEq_refl, pEq_refl]; rfl] at hRI
    clear hg4 hk4
    by_cases hfa : (fAll d out).1 = 0
    · rw [decide_eq_true hfa] at hRI
      rw [if_pos hfa] at HP
      have HRI := Aside0.mk hRI
      clear hRI hfa
      go_wp2_with (first
        | (go_at_call 46; refine (must_true _).mono ?_; rintro e w' ⟨rfl, rfl⟩)
        | (go_at_call 47; refine HRI.out.mono ?_; rintro e w5 ⟨rfl, hB5⟩; have HB5 := Aside0.mk hB5; have hz5 := hB5.size; clear hB5)
        | ((with_reducible refine gate_dst (N := 76) rfl ?_); go_must (refine ld_row rfl 32 _ rfl w.heap.size rfl _ _ _ _ ((HB5.out.block _ (by omega)).trans HG4.out) Tryd.underlying32 rfl info32 ?_))
        | ((with_reducible refine gate_store (t := 32) (p := 2) rfl ?_); go_must (refine st_row rfl 32 _ _ rfl w.heap.size (cStp 1 0 (.slice Av out.length cv) zQry zPol nils) rfl rfl _ _ ((HB5.out.block _ (by omega)).trans HG4.out) (by exact info32) rfl (cStp_all _ _ _ _ _ _ _ _ _ _) ?_; intro W6 hg6 hk6; have HG6 := Aside0.mk hg6; have HK6 := Aside0.mk hk6; have hz6 := hk6.size; clear hg6 hk6)))
      refine bodyPost_ret (ret_step rfl rfl HG6.out rfl) rfl ?_
      rw [HP.out]
      have hBd : Below w.heap.size w5 W6 := HK6.out.below (by omega) (Nat.le_refl _)
      refine ⟨_, rfl, Kd.R_mono (Kd.R_lower (Kd.R_step (w1 := W6) HO4.out (fun k hk hlt => (HK6.out.block k (by omega) (by omega)).trans (HB5.out.block k hlt))) (by omega)) (fun k hk => by omega), ?_⟩
      exact (((KeepB.alloc b w _).trans HK1.out).trans HK2.out).low ((HK4.out.below (by omega) (Nat.le_refl _)).trans ((HB5.out.mono (by omega)).trans hBd)) (Nat.le_refl _)
    · rw [decide_eq_false hfa] at hRI
      rw [if_neg hfa] at HP
      have HRI := Aside0.mk hRI
      clear hRI hfa
      go_wp2_with (first
        | (go_at_call 46; refine (must_false _).mono ?_; rintro e w' ⟨rfl, rfl⟩; unfold Mal)
        | (go_at_call 47; refine HRI.out.mono ?_; rintro e w5 ⟨rfl, hB5⟩; have HB5 := Aside0.mk hB5; have hz5 := hB5.size; clear hB5))
      rw [HP.out]
      exact ⟨rfl, rfl, (((KeepB.alloc b w _).trans HK1.out).trans HK2.out).low ((HK4.out.below (by omega) (Nat.le_refl _)).trans (HB5.out.mono (by omega))) (Nat.le_refl _)⟩
end Go.Proofs.YtnkcgoaafpnbjaaDoor
/- words.Parse: the closure that recovers, and a line that is an ingest. -/
namespace Go.Proofs.YtnkcgoaafpnbjaaDoor
open Go.RowKit Go.Proofs.YtnkcgoaafpnbjaaDoorW.PrintWords
set_option linter.unusedVariables false
set_option linter.unusedSimpArgs false

/-- The closure, deferred by a call that returns: it turns nothing. -/
theorem catch_idle (p q : Addr) (w : World) :
    CallsD Tryd.prog 22 #[.pointer (some p), .pointer (some q)] .returning w fun e u' w' => e = .returned (.tuple #[]) ∧ u' = .returning ∧ w' = w := by
  refine callsD_of_wpS Tryd.func22 rfl fun c₀ cs hu => ?_
  apply wpS_seq
  apply wpS_region
  simp [wpOpsS, go_sem, recoverD, hu, Tryd.ntmps22, Exit.thenS]
  apply wpS_seq
  apply wpS_region
  simp [wpOpsS, go_sem, Exit.thenS]
  refine wpS_cond (t := false) (by simp [Act.eval, Array.replicate]) ?_
  simp only [Bool.false_eq_true, if_false]
  refine wpS_of_wp (wp_skip ?_)
  cases c₀
  simp_all [bodyPostS, results, Tryd.results22]

/-- A whole row is stored, as one step of a region that draws its order. -/
theorem step_st_row {P : Program} {ops : Array Oper} {op : Oper} {a : Act} {W : World} {K : Act → World → Prop} {Q : Exit → Act → World → Prop} {E : Prop} (hw : Region.wanted op (yielded ops a.tmps) = true) (ty : TypeId) (x y : Operand) (ho : op.op = .store ty x y) (b : Nat) (cells : Array Value) (hx : a.eval x = .pointer (some ⟨b, 0, none⟩)) (hy : a.eval y = .agg cells) (old : Array Value) (t : TypeId) (hg : W.heap[b]? = some (.cells old t (0, 0)))
    (hi : (P.info? ty).map (·.size) = some cells.size) (hsz : old.size = cells.size) (h1 : cells.all (·.oneCell') = true)
    (h : ∀ W', W'.heap[b]? = some (.cells cells t (0, 0)) → KeepB b W W' → K (a.put op.dst undef) W') : if Region.wanted op (yielded ops a.tmps) = true then Oper.wp P op a W K Q else E := by
  rw [if_pos hw]
  have hr := run_storeVar_row (P := P) W b t ty old cells hg hi hsz h1
  unfold Oper.wp execOp
  simp only [ho, hx, hy, Instr.storeAt, Instr.sureAddr, Sem.run_bind, Sem.run_pure, Result.andThen_ok, hr]
  refine h _ ?_ (setRow_keep W b cells)
  simp [World.setRow, Array.getElem?_modify, hg]
set_option maxRecDepth 100000 in
/-- The closure, deferred by a call that panics: no step, and the fault. -/
theorem catch_mal (bs bf N : Nat) (cs' : Array Value) (hsz : cs'.size = 27) (x : Int) (older : List PanicEntry) (w : World) (hS : w.heap[bs]? = some (.cells cs' 32 (0, 0))) (hF : w.heap[bf]? = some (.cells #[.int .i64 x] 33 (0, 0))) (hne : bs ≠ bf) (hN : N ≤ bs) (hN2 : N ≤ bf) :
    CallsD Tryd.prog 22 #[.pointer (some ⟨bs, 0, none⟩), .pointer (some ⟨bf, 0, none⟩)] (.panicking ({ v := .iface 33 (.int .i64 4), recovered := false } :: older)) w fun e u' w' => e = .returned (.tuple #[]) ∧ u' = .panicking ({ v := .iface 33 (.int .i64 4), recovered := true } :: older) ∧ w'.heap[bs]? = some (.cells (cStp 0 0 nils zQry zPol nils) 32 (0, 0)) ∧ w'.heap[bf]? = some (.cells #[.int .i64 4] 33 (0, 0)) ∧ Below N w w' := by
  refine callsD_of_wpS Tryd.func22 rfl fun c₀ cs hu => ?_
  apply wpS_seq
  apply wpS_region
  simp [wpOpsS, go_sem, recoverD, hu, Tryd.ntmps22, Exit.thenS]
  apply wpS_seq
  apply wpS_region
  simp [wpOpsS, go_sem, Exit.thenS]
  refine wpS_cond (t := true) (by simp [Act.eval, Array.replicate]) ?_
  simp only [if_true]
  refine wpS_of_wp ?_
  simp only [Array.replicate, List.replicate, List.setIfInBounds_toArray, List.set_cons_zero, List.set_cons_succ, List.append_toArray, List.cons_append, List.nil_append]
  refine wp_region_any (by kernel_rfl) ?_
  change wpAny _ _ _ _ _ _ _ (World.drew _)
  refine wpAny_take (i := 0) (v := .agg (cStp 0 0 nils zQry zPol nils)) rfl (by kernel_rfl) (by kernel_rfl) (by kernel_rfl) (fun _ _ _ h => h) (Or.inl ⟨by rfl, ?_⟩) ?_
  · intro W
    go_simp
    rfl
  refine wpAny_take (i := 1) (v := .iface 33 (.int .i64 4)) rfl (by kernel_rfl) (by kernel_rfl) (by kernel_rfl) (fun _ _ _ h => h) (Or.inl ⟨by rfl, ?_⟩) ?_
  · intro W
    go_simp
  refine wpAny_take (i := 2) (v := .int .i64 4) rfl (by kernel_rfl) (by kernel_rfl) (by kernel_rfl) (fun _ _ _ h => h) (Or.inl ⟨by rfl, ?_⟩) ?_
  · intro W
    go_simp
    kernel_rfl
  refine wpAny_ready (rs := [3]) (by kernel_rfl) (by simp) ?_
  refine AllReady.cons rfl (fun K hK => ?_) AllReady.nil
  refine step_st_row rfl 32 _ _ rfl bs (cStp 0 0 nils zQry zPol nils) rfl rfl cs' 32 hS (by exact info32) hsz (cStp_all _ _ _ _ _ _ _ _ _ _) ?_
  intro W1 hg1 hk1
  refine hK _ _ ?_
  clear hK K
  have hF1 := hk1.blk (Ne.symm hne) (show w.drew.heap[bf]? = _ from hF)
  have hcf := blk_cell hF1 0
  change _ = some (Value.int .i64 x) at hcf
  have hzf := blk_frozen hF1 0
  have HF1 := Aside0.mk hF1
  have HG1 := Aside0.mk hg1
  have HK1 := Aside0.mk hk1
  have hlt : bs < w.drew.heap.size := blk_lt hS
  clear hF1 hg1 hk1 hS hF
  refine wpAny_ready (rs := [4]) (by kernel_rfl) (by simp) ?_
  refine AllReady.cons rfl (fun K hK => ?_) AllReady.nil
  go_simp
  refine hK _ _ ?_
  clear hK K
  refine wpAny_done (by kernel_rfl) ?_ _
  refine ⟨rfl, _, rfl, .tuple #[], by rw [results_none rfl], rfl, rfl, ?_, ?_, ?_⟩
  · exact (Below.heap_setCell _ _ _ _ hne).trans HG1.out
  · rw [set_blk_ HF1.out]; rfl
  · exact ((Below.refl _ _).drew.trans (HK1.out.below (by omega) hN)).setCell (by simpa using hN2) _

/-- A step and a fault out of their cells. -/
theorem ret_step2 {fn : Func} {p q : Tmp} (h : fn.results = #[.cell p 32, .cell q 33]) {tmps : Array Value} {w : World} {b b2 t : Nat} {cs : Array Value} {fr : Nat × Nat} {x : Int} (hp : tmps.getD p undef = .pointer (some ⟨b, 0, none⟩)) (hg : w.heap[b]? = some (.cells cs t fr)) (hs : cs.size = 27) (hq : tmps.getD q undef = .pointer (some ⟨b2, 0, none⟩)) (hg2 : w.cell? ⟨b2, 0, none⟩ = some (.int .i64 x)) :
    (results fn tmps).run Tryd.prog w = .ok (.tuple #[.agg cs, .int .i64 x]) w := by
  have h1 := run_loadVar_row (P := Tryd.prog) w b t 32 cs fr _ hg Tryd.underlying32 rfl (by rw [hs]; exact info32)
  have hp' : tmps[p]?.getD undef = .pointer (some ⟨b, 0, none⟩) := by simpa using hp
  have hq' : tmps[q]?.getD undef = .pointer (some ⟨b2, 0, none⟩) := by simpa using hq
  simp [results, h, hp', hq', asAddr, h1]
  go_simp
theorem wSplit_size (s x : ByteArray) (h : x ∈ wSplit s) : x.size ≤ s.size := by
  rw [wSplit_eq] at h
  obtain ⟨l, hl, rfl⟩ := List.mem_map.1 h
  have hsz : (B l).size = l.length := by simp [B, ByteArray.size]
  rw [hsz]
  unfold Ows.rSplit at hl
  split at hl
  · cases hl
  · obtain ⟨k, hk, rfl⟩ := List.mem_iff_getElem.1 hl
    have := Ows.splitF_bytes s.data.toList k
    rw [List.getD_eq_getElem?_getD, List.getElem?_eq_getElem hk, Option.getD_some] at this
    rw [Lib.size_eq]
    exact this
/-- What words.Parse comes to, of an ingest that is right. -/
def ParsePost1 (w : World) (out : List Fct) (e : Ending) (w' : World) : Prop := ∃ v, e = .returned (.tuple #[.agg (cStp 1 0 v zQry zPol nils), .int .i64 0]) ∧ kFct.R 54 w' w.heap.size (fun k => w.heap.size ≤ k) v out ∧ Below w.heap.size w w'
set_option maxRecDepth 100000 in
set_option maxHeartbeats 4000000 in
theorem parse_1 (s : ByteArray) (d : Nat) (m : Int) (ls : List ByteArray) (out : List Fct) (w : World) (hs : s.size < 4294967281) (hm : w.cell? ⟨0, 0, none⟩ = some (.int .i64 m)) (hsp : wSplit s = ingW :: ls) (hing : ingP d ls = some out) (hd1 : 1 ≤ d) (hd4 : d ≤ 4) :
    Calls Tryd.prog 7 #[.string s, .int .i64 d] w (ParsePost1 w out) := by
  have hmf : ∀ (fn : Fn) (first cap : Array Value) (w : World), (Instr.makeFunc fn first cap).run Tryd.prog w = .ok (.func fn first cap) w := fun _ _ _ _ => rfl
  have h0 := World.block_lt_of_cell? w _ hm
  change 0 < w.heap.size at h0
  have HM := Aside0.mk hm
  have HSP := Aside0.mk hsp
  have HI := Aside0.mk hing
  clear hm hsp hing
  go_enter_defers Tryd.func7, Tryd.ntmps7
  go_wp2_with fail
  change Calls _ _ _ ((w.alloc (.cells (cStp 0 0 nils zQry zPol nils) 32)).alloc (.cells #[.int .i64 0] 33)) _
  obtain ⟨W0, hW0⟩ : ∃ W0, W0 = (w.alloc (.cells (cStp 0 0 nils zQry zPol nils) 32)).alloc (.cells #[.int .i64 0] 33) := ⟨_, rfl⟩
  have hz0 : W0.heap.size = w.heap.size + 2 := by rw [hW0]; simp
  have HB0 : Aside0 (Below w.heap.size w W0) := ⟨by rw [hW0]; exact Below.alloc (Below.alloc (Below.refl _ _) (Nat.le_refl _) _) (by simp) _⟩
  have HS0 : Aside0 (W0.heap[w.heap.size]? = some (.cells (cStp 0 0 nils zQry zPol nils) 32 (0, 0))) := ⟨by rw [hW0]; exact (Below.heap_alloc _ _ _ (by simp)).trans (heap_alloc_new w _)⟩
  have HF0 : Aside0 (W0.heap[w.heap.size + 1]? = some (.cells #[.int .i64 0] 33 (0, 0))) := ⟨by rw [hW0, ← World.size_alloc]; exact heap_alloc_new _ _⟩
  rw [← hW0]
  clear hW0
  refine (Split_any s m _ hs ((World.cell?_of_block (w := w) (HB0.out.block 0 h0)).trans HM.out)).mono ?_
  rintro e w1 ⟨v1, rfl, hO1, hB1⟩
  rw [HSP.out] at hO1
  obtain ⟨A1, c1, rfl⟩ := Kd.R_slice hO1
  have hz1 := hB1.size
  have HO1 := Aside0.mk hO1
  have HB1 := Aside0.mk hB1
  clear hO1 hB1
  go_wp2_with fail
  obtain ⟨W2, hW2⟩ : ∃ W2, W2 = w1.alloc (.cells #[.slice A1 (ls.length + 1) c1, .int .i64 d] 57) := ⟨_, rfl⟩
  have hz2 : W2.heap.size = w1.heap.size + 1 := by rw [hW2]; simp
  have HB2 : Aside0 (Below w1.heap.size w1 W2) := ⟨by rw [hW2]; exact Below.alloc (Below.refl _ _) (Nat.le_refl _) _⟩
  have HR2 : Aside0 (RdS W2 W2 w1.heap.size d (ingW :: ls)) := ⟨RdS.new (by rw [hW2]; exact heap_alloc_new w1 _) (R_use HO1.out).2.2.1 (R_use HO1.out).2.2.2 (by rw [hW2]; exact Kd.C_below (R_use HO1.out).2.1 (Below.alloc (Below.refl _ _) (Nat.le_refl _) _)) (fun x hx => by have := wSplit_size s x (by rw [HSP.out]; exact hx); omega)⟩
  rw [← hW2]
  clear hW2
  refine (step_1 W2 w1.heap.size d ls W2 HR2.out hd1 hd4).mono ?_
  rw [HI.out]
  rintro e w3 ⟨v, rfl, hO3, hK3⟩
  obtain ⟨Av, cv, rfl⟩ := Kd.R_slice hO3
  have hz3 := hK3.size
  have HO3 := Aside0.mk hO3
  have HK3 := Aside0.mk hK3
  have HS3 := Aside0.mk (hK3.blk (by omega) ((HB2.out.block _ (by omega)).trans ((HB1.out.block _ (by omega)).trans HS0.out)))
  have HF3 := Aside0.mk (hK3.blk (by omega) ((HB2.out.block _ (by omega)).trans ((HB1.out.block _ (by omega)).trans HF0.out)))
  clear hO3 hK3
  go_wp2_with (first
    | ((with_reducible refine gate_store (t := 32) (p := 4) rfl ?_); go_must (refine st_row rfl 32 _ _ rfl w.heap.size (cStp 1 0 (.slice Av out.length cv) zQry zPol nils) rfl rfl _ _ HS3.out (by exact info32) rfl (cStp_all _ _ _ _ _ _ _ _ _ _) ?_; intro W4 hg4 hk4; have HG4 := Aside0.mk hg4; have HK4 := Aside0.mk hk4; have hz4 := hk4.size; have hf4 := hk4.blk (by omega) HF3.out; have HF4 := Aside0.mk hf4; have hc4 := blk_cell hf4 0; change _ = some (Value.int .i64 0) at hc4; have hr4 := blk_frozen hf4 0; clear hg4 hk4 hf4)))
  refine leaves_cons (f := 22) (args := #[.pointer (some ⟨w.heap.size, 0, none⟩), .pointer (some ⟨w.heap.size + 1, 0, none⟩)]) (by simp) (by simp [go_sem]) ?_
  refine (catch_idle ⟨w.heap.size, 0, none⟩ ⟨w.heap.size + 1, 0, none⟩ _).mono ?_
  rintro e u' w'' ⟨rfl, rfl, rfl⟩
  refine ⟨_, ret_step2 rfl rfl ((Below.heap_setCell _ _ _ _ (by simp)).trans HG4.out) rfl rfl (x := 0) (by rw [blk_cell (set_blk_ HF4.out 0 _)]; rfl), _, rfl, ?_, ?_⟩
  · exact Kd.R_mono (Kd.R_lower (Kd.R_step HO3.out (fun k hk hlt => (Below.heap_setCell _ _ _ _ (by simp; omega)).trans (HK4.out.block k hlt (by omega)))) (by omega)) (fun k hk => by omega)
  · have hb4 : Below w.heap.size w3 W4 := HK4.out.below (by omega) (Nat.le_refl _)
    have hb3 : Below w1.heap.size W2 w3 := HK3.out.below (by omega) (Nat.le_refl _)
    exact ((((HB0.out.trans (HB1.out.mono (by omega))).trans (HB2.out.mono (by omega))).trans (hb3.mono (by omega))).trans hb4).setCell (by simp) _
end Go.Proofs.YtnkcgoaafpnbjaaDoor
/- The chapter's example: its line is parsed as it says. -/
namespace Go.Proofs.YtnkcgoaafpnbjaaDoor
open Go.RowKit Go.Proofs.YtnkcgoaafpnbjaaDoorW.PrintWords
set_option linter.unusedVariables false
set_option linter.unusedSimpArgs false

def aliveL : ByteArray := ⟨#[105, 110, 103, 101, 115, 116, 32, 49, 57, 55, 48, 45, 48, 49, 45, 48, 49, 84, 48, 53, 32, 101, 117, 32, 45, 32, 51]⟩
def aliveW : List ByteArray := [⟨#[49, 57, 55, 48, 45, 48, 49, 45, 48, 49, 84, 48, 53]⟩, ⟨#[101, 117]⟩, ⟨#[45]⟩, ⟨#[51]⟩]
def aliveF : Fct := ⟨⟨5, ⟨⟨#[101, 117]⟩, ⟨#[]⟩, ⟨#[]⟩, ⟨#[]⟩⟩⟩, 3⟩
theorem aliveL_split : wSplit aliveL = ingW :: aliveW := by
  rw [wSplit_eq]
  have h : Ows.rSplit aliveL.data.toList = [[105, 110, 103, 101, 115, 116], [49, 57, 55, 48, 45, 48, 49, 45, 48, 49, 84, 48, 53], [101, 117], [45], [51]] := by decide +kernel
  rw [h]
  rfl
theorem alive_fact : factP 2 aliveW = some (aliveF, []) := by
  have h1 : Ows.cParse [49, 57, 55, 48, 45, 48, 49, 45, 48, 49, 84, 48, 53] = some 5 := by decide +kernel
  have h2 : Ows.wBare [101, 117] = some [101, 117] := by decide +kernel
  have h3 : Ows.wBare [45] = some [] := by decide +kernel
  have h4 : Ows.wNum [51] = some 3 := by decide +kernel
  simp only [factP, aliveW, textsP, h1, h2, h3, h4]
  rfl
theorem alive_ing : ingP 2 aliveW = some [aliveF] := by
  have h : factsP 2 aliveW [] = some [aliveF] := by
    rw [factsP_step, if_neg (by simp [aliveW]), if_neg (by simp), alive_fact]
    simp only
    rw [factsP_step, if_pos rfl]
    rfl
  have h2 : (fAll (2 : Nat) [aliveF]).1 = 0 := by decide +kernel
  unfold ingP
  rw [h]
  simp only [Option.bind_some]
  rw [if_pos h2]

set_option maxRecDepth 100000 in
set_option maxHeartbeats 4000000 in
theorem alive_any (m : Int) (w : World) (hm : w.cell? ⟨0, 0, none⟩ = some (.int .i64 m)) :
    Calls Tryd.prog 6 #[] w fun e w' => e = .returned (.bool true) ∧ Below w.heap.size w w' := by
  have HP := Aside0.mk (parse_1 aliveL 2 m aliveW [aliveF] w (by decide) hm aliveL_split alive_ing (by omega) (by omega))
  have h0 := World.block_lt_of_cell? w _ hm
  change 0 < w.heap.size at h0
  clear hm
  go_enter Tryd.func6, Tryd.ntmps6
  go_wp2_with fail
  refine HP.out.mono ?_
  rintro e w1 ⟨v, rfl, hO, hB⟩
  obtain ⟨Av, cv, rfl⟩ := Kd.R_slice hO
  have hz1 := hB.size
  have HB1 := Aside0.mk hB
  have HO1 := Aside0.mk hO
  clear hO hB
  go_wp2_with (first
    | ((with_reducible refine gate_store (t := 32) (p := 1) rfl ?_); go_must (refine st_row rfl 32 _ _ rfl w1.heap.size (cStp 1 0 (.slice Av [aliveF].length cv) zQry zPol nils) rfl rfl _ _ (heap_alloc_new _ _) (by exact info32) rfl (cStp_all _ _ _ _ _ _ _ _ _ _) ?_; intro W4 hg4 hk4; have HG4 := Aside0.mk hg4; have HK4 := Aside0.mk hk4; have hz4 := hk4.size; have hs4 := blk_cell hg4 2; change _ = some (Value.slice Av 1 cv) at hs4; obtain ⟨ad, hA, c0, c1, _, _, _, c5⟩ := at_Fct (R_use (Kd.R_step (w1 := W4) HO1.out (fun k hk hlt => (hk4.block k (by simp; omega) (by omega)).trans (Below.heap_alloc _ _ _ hlt)))).2.1 0 (by omega) (by decide); subst hA; rw [show ad.add (Int.toNat 0 * 6) = ad from by simp [Addr.add]] at c0 c1 c5; change _ = some (Value.int .i64 5) at c0; change _ = some (Value.string ⟨#[101, 117]⟩) at c1; change _ = some (Value.int .i64 3) at c5; clear hg4 hk4)))
  go_ret
  exact ⟨rfl, (below_alloc HB1.out _).trans (HK4.out.below (by simp; omega) (by omega))⟩
end Go.Proofs.YtnkcgoaafpnbjaaDoor
/- The law of bare words: the program's number, text and words of any text, and its word, are the reference's. -/
namespace Go.Proofs.YtnkcgoaafpnbjaaDoor
open Go.RowKit Go.Proofs.YtnkcgoaafpnbjaaDoorW.PrintWords
set_option linter.unusedVariables false
set_option linter.unusedSimpArgs false

set_option maxRecDepth 100000 in
set_option maxHeartbeats 4000000 in
theorem bares_any (s : ByteArray) (m : Int) (w : World) (hs0 : s.size ≤ 9223372036854775807) (hm : w.cell? ⟨0, 0, none⟩ = some (.int .i64 m)) :
    Calls Tryd.prog 5 #[.string s] w fun e w' => e = .returned (.bool true) ∧ Below w.heap.size w w' := by
  have h0 := World.block_lt_of_cell? w _ hm
  change 0 < w.heap.size at h0
  have HAL := Aside0.mk (fun (W : World) (hB : Below w.heap.size w W) => alive_any m W ((World.cell?_of_block (w := w) (hB.block 0 h0)).trans hm))
  have HSP := Aside0.mk (fun (W : World) (hB : Below w.heap.size w W) (hl : s.size < 4294967281) => Split_any s m W hl ((World.cell?_of_block (w := w) (hB.block 0 h0)).trans hm))
  clear hm
  by_cases h300 : 300 < s.size
  · go_enter Tryd.func5, Tryd.ntmps5
    go_wp2_with (go_at_call 6; refine (HAL.out _ (Below.refl _ _)).mono ?_; rintro e w1 ⟨rfl, hB⟩; have HB := Aside0.mk hB; clear hB)
    go_ret
    exact ⟨rfl, HB.out⟩
  · have hs : s.size ≤ 140737488351232 := by omega
    go_enter Tryd.func5, Tryd.ntmps5
    go_wp2_with fail
    refine (Number_any s _ hs).mono ?_
    rintro e w1 ⟨rfl, hB1⟩
    have HB1 := Aside0.mk hB1
    have HN := Aside0.mk (fun W => rNumber_any s W hs)
    generalize (Ows.wNum s.data.toList).getD 0 = n at *
    generalize (Ows.wNum s.data.toList).isSome = b at *
    clear hB1
    go_wp2_with fail
    refine (HN.out _).mono ?_
    rintro e w2 ⟨rfl, hB2⟩
    have HB2 := Aside0.mk (HB1.out.trans (hB2.mono HB1.out.size))
    clear hB2
    go_wp2_with fail
    refine (Bare_any s _ hs).mono ?_
    rintro e w3 ⟨rfl, hB3⟩
    have HB3 := Aside0.mk (HB2.out.trans (hB3.mono HB2.out.size))
    clear hB3
    have HR := Aside0.mk (fun W => rBare_any s W hs)
    rw [← Ows.wBare_eq] at HR
    generalize B ((Ows.wBare s.data.toList).getD []) = t at *
    generalize (Ows.wBare s.data.toList).isSome = c at *
    go_wp2_with fail
    refine (HR.out _).mono ?_
    rintro e w4 ⟨rfl, hB4⟩
    have HB4 := Aside0.mk (HB3.out.trans (hB4.mono HB3.out.size))
    clear hB4
    go_wp2_with fail
    have HRQ := Aside0.mk (fun W => rQuote_any s W hs)
    refine (Quote_any s _ (by omega)).mono ?_
    rintro e w5 ⟨rfl, hB5⟩
    have HB5 := Aside0.mk (HB4.out.trans (hB5.mono HB4.out.size))
    clear hB5
    generalize B (Ows.quote s.data.toList) = q at *
    go_wp2_with fail
    refine (HRQ.out _).mono ?_
    rintro e w6 ⟨rfl, hD6⟩
    have HB6 := Aside0.mk (HB5.out.trans (hD6.below.mono HB5.out.size))
    clear hD6
    go_wp2_with fail
    refine (HSP.out _ HB6.out (by omega)).mono ?_
    rintro e w7 ⟨v7, rfl, hO7, hB7⟩
    have HB7 := Aside0.mk (HB6.out.trans (hB7.mono HB6.out.size))
    clear hB7
    have HRS := Aside0.mk (fun W => rSplit_any s W (by omega))
    rw [← wSplit_eq] at HRS
    obtain ⟨A7, c7, rfl⟩ := Kd.R_slice hO7
    have HO7 := Aside0.mk hO7
    clear hO7
    generalize wSplit s = l at *
    go_wp2_with fail
    refine (HRS.out _).mono ?_
    rintro e w8 ⟨v8, rfl, hO8, hB8⟩
    have HB8 := Aside0.mk (HB7.out.trans (hB8.mono HB7.out.size))
    obtain ⟨A8, c8, rfl⟩ := Kd.R_slice hO8
    have HO7b := Aside0.mk (Kd.R_below HO7.out hB8)
    have HO8 := Aside0.mk hO8
    clear hO8 hB8
    go_wp2_with fail
    refine (SameStr_any A7 A8 c7 c8 l l _ (R_use HO7b.out).2.2.1 (R_use HO8.out).2.2.1 (R_use HO7b.out).2.1 (R_use HO8.out).2.1).mono ?_
    rintro e w9 ⟨rfl, hB9⟩
    rw [show sameB l l = true from decide_eq_true rfl]
    have HB9 := Aside0.mk (HB8.out.trans (hB9.mono HB8.out.size))
    clear hB9
    go_wp2_with fail
    refine (HAL.out _ HB9.out).mono ?_
    rintro e w10 ⟨rfl, hB10⟩
    have HB10 := Aside0.mk (HB9.out.trans (hB10.mono HB9.out.size))
    clear hB10
    go_wp2_with fail
    go_ret
    exact ⟨rfl, HB10.out⟩
end Go.Proofs.YtnkcgoaafpnbjaaDoor
