/- The program's small functions on words, walked. -/
import Derived.Test.YtnkcgoaafpnbjaaDoorProg
import Derived.Test.YtnkcgoaafpnbjaaDoorM1
import Derived.Test.YtnkcgoaafpnbjaaDoorShelf
import Derived.WalkKit
import Derived.WalkLawsBesides
import Derived.WalkSpells
import Derived.Outline
import Derived.Deep.QuietTactic
import Derived.BigQuiet
import Derived.Deep.LoopGhost
import Derived.Lib.Hide
import Derived.Lib.ConvBytes
import Derived.Deep.DeepFit
import Derived.Deep.DeepMust
/- What the walks of this seat share: imports, element types, small lemmas. -/
namespace Go.Proofs.YtnkcgoaafpnbjaaDoor
open Go.RowKit Go.Proofs.YtnkcgoaafpnbjaaDoorW.PrintWords

theorem infoU8 : (Tryd.prog.info? 5).map (fun i => (i.zero, i.size, i.bytes)) = some (some (.int .u8 0), 1, 1) := by kernel_rfl
theorem infoStr : (Tryd.prog.info? 9).map (fun i => (i.zero, i.size, i.bytes)) = some (some (.string ⟨#[]⟩), 1, 16) := by kernel_rfl
theorem infoBool : (Tryd.prog.info? 4).map (fun i => (i.zero, i.size, i.bytes)) = some (some (.bool false), 1, 1) := by kernel_rfl
theorem ret_bool {a b : Bool} (h : a = b) : Ending.returned (.bool a) = .returned (.bool b) := by rw [h]
theorem ret_str {a b : ByteArray} (h : a = b) : Ending.returned (.string a) = .returned (.string b) := by rw [h]
theorem ret_int {k : IntKind} {a b : Int} (h : a = b) : Ending.returned (.int k a) = .returned (.int k b) := by rw [h]
/-- The string of bytes. -/
def B (l : List UInt8) : ByteArray := ⟨l.toArray⟩
theorem B_data (s : ByteArray) : B s.data.toList = s := rfl
theorem data_B (l : List UInt8) : (B l).data.toList = l := rfl
/-- Bytes as numbers. -/
def bytesI (l : List UInt8) : List Int := l.map fun c => (c.toNat : Int)
theorem bytesI_snoc (l : List UInt8) (c : UInt8) : bytesI (l ++ [c]) = bytesI l ++ [(c.toNat : Int)] := by simp [bytesI]
theorem bytesI_len (l : List UInt8) : (bytesI l).length = l.length := by simp [bytesI]
theorem str_bytesI (l : List UInt8) : strOfNums (bytesI l) = B l := by
  unfold strOfNums bytesI B
  simp only [List.map_map]
  congr 2
  exact (List.map_congr_left (fun c _ => by simp)).trans (List.map_id l)
theorem below_bytes (w : World) (e : TypeId) (s : ByteArray) : Below w.heap.size w (Lib.bytesWorld w e s) :=
  ⟨rfl, rfl, rfl, by rw [Lib.bytesWorld_size]; omega, fun k hk => Lib.bytesWorld_at_old w e s k hk⟩
theorem below_up {B0 : Nat} {w w1 w2 : World} (h : Below B0 w w1) (hB : B0 ≤ w1.heap.size) (k : Below w1.heap.size w1 w2) : Below B0 w w2 := h.trans (k.mono hB)
/-- A byte of a string. -/
theorem byte_at (s : ByteArray) (k : Nat) (h : k < s.size) : (s[k]'h) = s.data.toList.getD k 0 := by
  simp [List.getD_eq_getElem?_getD, List.getElem?_eq_getElem (show k < s.data.toList.length by rw [← Lib.size_eq]; exact h)]
  rfl
/-- 'string(b)' of bytes of the call's own. -/
theorem conv_own {w : World} {base : Nat} {ok : Nat → Prop} {l : List UInt8} {v : Value} (h : (Kd.int .u8).R 5 w base ok v (bytesI l)) :
    ∃ A c, v = .slice A l.length c ∧ (convert 67 9 (.slice A l.length c)).run Tryd.prog w = .ok (.string (B l)) w := by
  obtain ⟨A, c, he, _, hC⟩ := Kd.R_reads h
  rw [bytesI_len] at he
  refine ⟨A, c, he, ?_⟩
  have := Kd.C_string (P := Tryd.prog) (c := c) Tryd.underlying67 Tryd.underlying5 Tryd.underlying9 hC
  rw [bytesI_len, str_bytesI] at this
  exact this
end Go.Proofs.YtnkcgoaafpnbjaaDoor
/- The reader's small methods: a word, or the panic that says that a line is none. -/
namespace Go.Proofs.YtnkcgoaafpnbjaaDoor
open Go.RowKit Go.Proofs.YtnkcgoaafpnbjaaDoorW.PrintWords
set_option linter.unusedVariables false
set_option linter.unusedSimpArgs false

/-- Of what there was at most block b has turned. -/
structure KeepB (b : Nat) (w w' : World) : Prop where
  os : w'.os = w.os
  tape : w'.tape = w.tape
  output : w'.output = w.output
  size : w.heap.size ≤ w'.heap.size
  block : ∀ k, k < w.heap.size → k ≠ b → w'.heap[k]? = w.heap[k]?
theorem KeepB.refl (b : Nat) (w : World) : KeepB b w w := ⟨rfl, rfl, rfl, Nat.le_refl _, fun _ _ _ => rfl⟩
theorem KeepB.trans {b : Nat} {w w1 w2 : World} (h : KeepB b w w1) (k : KeepB b w1 w2) : KeepB b w w2 :=
  ⟨k.os.trans h.os, k.tape.trans h.tape, k.output.trans h.output, Nat.le_trans h.size k.size, fun i hi hb => (k.block i (Nat.lt_of_lt_of_le hi h.size) hb).trans (h.block i hi hb)⟩
theorem KeepB.of_below {b : Nat} {w w' : World} (h : Below w.heap.size w w') : KeepB b w w' := ⟨h.os, h.tape, h.output, h.size, fun k hk _ => h.block k hk⟩
theorem KeepB.set (b : Nat) (w : World) (j : Nat) (u : Value) : KeepB b w (w.setCell ⟨b, j, none⟩ u) :=
  ⟨rfl, rfl, rfl, by simp [World.setCell], fun k _ hb => Below.heap_setCell _ _ _ _ (by simpa using hb)⟩
theorem KeepB.alloc (b : Nat) (w : World) (o : Obj) : KeepB b w (w.alloc o) := KeepB.of_below ((Below.refl _ _).alloc (Nat.le_refl _) _)
theorem KeepB.drew (b : Nat) (w : World) : KeepB b w w.drew := KeepB.of_below (Below.refl _ _).drew
theorem KeepB.below {b B : Nat} {w w' : World} (h : KeepB b w w') (hB : B ≤ w.heap.size) (hb : B ≤ b) : Below B w w' := ⟨h.os, h.tape, h.output, h.size, fun k hk => h.block k (by omega) (by omega)⟩
theorem KeepB.blk {b g : Nat} {w w' : World} (h : KeepB b w w') (hg : g ≠ b) {o : Obj} (hb : w.heap[g]? = some o) : w'.heap[g]? = some o := (h.block g (blk_lt hb) hg).trans hb
theorem KeepB.cell {b : Nat} {w w' : World} (h : KeepB b w w') {a : Addr} {v : Value} (hc : w.cell? a = some v) (hg : a.block ≠ b) : w'.cell? a = some v := by
  have hl := World.block_lt_of_cell? w a hc
  have := h.block a.block hl hg
  unfold World.cell? at hc ⊢
  rw [this]
  exact hc

/-- The reader in block b of world w: the words that are left, which lie in world w0, and the number of dimensions. -/
def RdS (w0 w : World) (b : Nat) (dims : Int) (ls : List ByteArray) : Prop :=
  ∃ A c, w.heap[b]? = some (.cells #[.slice A ls.length c, .int .i64 dims] 57 (0, 0)) ∧ ls.length ≤ c ∧ c ≤ 9223372036854775807 ∧ Kd.string.C w0 A ls.length ls ∧ (∀ x, x ∈ ls → x.size ≤ 4294967296) ∧ KeepB b w0 w ∧ (0 < ls.length → ∃ ad, A = some ad ∧ ad.block ≠ b)

theorem RdS.move {w0 w w' : World} {b : Nat} {dims : Int} {ls : List ByteArray} (h : RdS w0 w b dims ls) (hk : KeepB b w w') (hb : w'.heap[b]? = w.heap[b]?) : RdS w0 w' b dims ls := by
  obtain ⟨A, c, h1, h2, h3, h4, h5, h6, h7⟩ := h
  exact ⟨A, c, hb.trans h1, h2, h3, h4, h5, h6.trans hk, h7⟩
theorem RdS.lt {w0 w : World} {b : Nat} {dims : Int} {ls : List ByteArray} (h : RdS w0 w b dims ls) : b < w.heap.size := by
  obtain ⟨A, c, h1, _⟩ := h
  exact blk_lt h1
theorem RdS.below {w0 w w' : World} {b : Nat} {dims : Int} {ls : List ByteArray} (h : RdS w0 w b dims ls) (hb : Below w.heap.size w w') : RdS w0 w' b dims ls := h.move (KeepB.of_below hb) (hb.block b h.lt)
theorem RdS.drew {w0 w : World} {b : Nat} {dims : Int} {ls : List ByteArray} (h : RdS w0 w b dims ls) : RdS w0 w.drew b dims ls := h.below (Below.refl _ _).drew
theorem RdS.keep {w0 w : World} {b : Nat} {dims : Int} {ls : List ByteArray} (h : RdS w0 w b dims ls) : KeepB b w0 w := by
  obtain ⟨A, c, _, _, _, _, _, h6, _⟩ := h
  exact h6
/-- A store into a block that is newer. -/
theorem KeepB.setNew {b F : Nat} {w w' : World} (h : KeepB b w w') (hF : w.heap.size ≤ F) (j : Nat) (u : Value) : KeepB b w (w'.setCell ⟨F, j, none⟩ u) :=
  ⟨h.os, h.tape, h.output, by simpa [World.setCell] using h.size, fun k hk hb => (Below.heap_setCell _ _ _ _ (by simp; omega)).trans (h.block k hk hb)⟩
theorem RdS.setNew {w0 w : World} {b F : Nat} {dims : Int} {ls : List ByteArray} (h : RdS w0 w b dims ls) (hF : w0.heap.size ≤ F) (hb : F ≠ b) (j : Nat) (u : Value) : RdS w0 (w.setCell ⟨F, j, none⟩ u) b dims ls := by
  obtain ⟨A, c, h1, h2, h3, h4, h5, h6, h7⟩ := h
  exact ⟨A, c, (Below.heap_setCell _ _ _ _ (fun e => hb e.symm)).trans h1, h2, h3, h4, h5, h6.setNew hF j u, h7⟩
theorem KeepB.low {b B : Nat} {w W w1 : World} (h : KeepB b w W) (hb : Below B W w1) (hB : w.heap.size ≤ B) : KeepB b w w1 :=
  ⟨hb.os.trans h.os, hb.tape.trans h.tape, hb.output.trans h.output, Nat.le_trans h.size hb.size, fun k hk hkb => (hb.block k (by omega)).trans (h.block k hk hkb)⟩
theorem RdS.low {w0 w w1 : World} {b B : Nat} {dims : Int} {ls : List ByteArray} (h : RdS w0 w b dims ls) (hb : Below B w w1) (hB : w0.heap.size ≤ B) (hbB : b < B) : RdS w0 w1 b dims ls := by
  obtain ⟨A, c, h1, h2, h3, h4, h5, h6, h7⟩ := h
  exact ⟨A, c, (hb.block b hbB).trans h1, h2, h3, h4, h5, h6.low hb hB, h7⟩
/-- The number of dimensions, read. -/
theorem RdS.dims {w0 w : World} {b : Nat} {dims : Int} {ls : List ByteArray} (h : RdS w0 w b dims ls) : w.cell? ⟨b, 1, none⟩ = some (.int .i64 dims) := by
  obtain ⟨A, c, h1, _⟩ := h
  rw [blk_cell h1]; rfl
/-- How many words are left. -/
theorem RdS.left {w0 w : World} {b : Nat} {dims : Int} {ls : List ByteArray} (h : RdS w0 w b dims ls) : ∃ A c, w.cell? ⟨b, 0, none⟩ = some (.slice A ls.length c) := by
  obtain ⟨A, c, h1, _⟩ := h
  exact ⟨A, c, by rw [blk_cell h1]; rfl⟩

/-- A row of strings does not lie in the reader's block. -/
theorem strs_off {w : World} {b : Nat} {dims : Int} {A : Option Addr} {n c m : Nat} {A' : Option Addr} {ls : List ByteArray} (hb : w.heap[b]? = some (.cells #[.slice A' m c, .int .i64 dims] 57 (0, 0)))
    (h : Kd.string.C w A n ls) (hn : 0 < n) : ∃ ad, A = some ad ∧ ad.block ≠ b := by
  obtain ⟨ad, he, hc⟩ := Kd.at_string h 0 (by omega) (by omega)
  refine ⟨ad, he, fun e => ?_⟩
  simp only [Int.toNat_zero] at hc
  have hz : ad.add 0 = ad := by simp [Addr.add]
  rw [hz] at hc
  obtain ⟨bk, of, sp⟩ := ad
  simp only at e
  subst e
  unfold World.cell? at hc
  rw [hb] at hc
  simp only at hc
  split at hc
  · exact absurd hc (by simp)
  · rcases of with _ | _ | of <;> simp at hc

theorem add_block_ (a : Addr) (n : Nat) : (a.add n).block = a.block := by unfold Addr.add; split <;> rfl
theorem strs_keep {w w' : World} {b : Nat} {A : Option Addr} {n : Nat} {ls : List ByteArray} (h : Kd.string.C w A n ls) (hk : KeepB b w w') (hf : 0 < n → ∃ ad, A = some ad ∧ ad.block ≠ b) : Kd.string.C w' A n ls := by
  obtain ⟨h1, h2, h3⟩ := h
  refine ⟨h1, h2, fun hn => ?_⟩
  obtain ⟨ad, e, hc⟩ := h3 hn
  obtain ⟨ad', e', hne⟩ := hf hn
  rw [e] at e'
  injection e' with e'
  subst e'
  refine ⟨ad, e, fun j p hj => ?_⟩
  obtain ⟨cs, hl, hp, hu⟩ := hc j p hj
  exact ⟨cs, hl, hp, fun i u hi => hk.cell (hu i u hi) (by rw [add_block_]; exact hne)⟩

theorem strs_tail {w : World} {ad : Addr} {x : ByteArray} {ls : List ByteArray} (h : Kd.string.C w (some ad) (ls.length + 1) (x :: ls)) : w.cell? ad = some (.string x) ∧ Kd.string.C w (some (ad.add 1)) ls.length ls := by
  constructor
  · obtain ⟨ad', he, hc⟩ := Kd.at_string h 0 (by omega) (by omega)
    injection he with he
    subst he
    simpa [Addr.add, rdOf] using hc
  · obtain ⟨h1, h2, h3⟩ := h
    refine ⟨rfl, by omega, fun hn => ?_⟩
    obtain ⟨ad', he, hc⟩ := h3 (by omega)
    injection he with he
    subst he
    refine ⟨_, rfl, fun j p hj => ?_⟩
    obtain ⟨cs, hl, hp, hu⟩ := hc (j + 1) p (by simpa using hj)
    refine ⟨cs, hl, hp, fun i u hi => ?_⟩
    have := hu i u hi
    rw [← this]
    congr 1
    have e1 : Kd.string.sz = 1 := rfl
    rw [e1]
    simp only [Addr.add]
    split <;> split <;> simp_all <;> omega

theorem set_blk_ {w : World} {b t : Nat} {cs : Array Value} (h : w.heap[b]? = some (.cells cs t (0, 0))) (j : Nat) (v : Value) : (w.setCell ⟨b, j, none⟩ v).heap[b]? = some (.cells (cs.setIfInBounds j v) t (0, 0)) := by
  simp [World.setCell, Array.getElem?_modify, h]
theorem RdS.set_ {w0 w : World} {b : Nat} {dims : Int} {A0 : Option Addr} {n0 c0 c : Nat} {ad : Addr} {ls : List ByteArray} {A : Option Addr} (hb : w.heap[b]? = some (.cells #[.slice A0 n0 c0, .int .i64 dims] 57 (0, 0)))
    (hT : Kd.string.C w0 (some (ad.add 1)) ls.length ls) (hne : ad.block ≠ b) (hl : ls.length ≤ c) (hc : c ≤ 9223372036854775807) (hA : 0 < ls.length → A = some (ad.add 1)) (hsz : ∀ x, x ∈ ls → x.size ≤ 4294967296) (hk : KeepB b w0 w) : RdS w0 (w.setCell ⟨b, 0, none⟩ (.slice A ls.length c)) b dims ls := by
  refine ⟨A, c, by rw [set_blk_ hb]; rfl, hl, hc, ⟨hT.1, hT.2.1, fun hn => ?_⟩, hsz, hk.trans (KeepB.set b w 0 _), fun hn => ⟨_, hA hn, by rw [add_block_]; exact hne⟩⟩
  obtain ⟨q, e, r⟩ := hT.2.2 hn
  exact ⟨q, (hA hn).trans e, r⟩
/-- The reader as it is made. -/
theorem RdS.new {w : World} {b : Nat} {dims : Int} {ls : List ByteArray} {A : Option Addr} {c : Nat} (hb : w.heap[b]? = some (.cells #[.slice A ls.length c, .int .i64 dims] 57 (0, 0))) (hl : ls.length ≤ c) (hc : c ≤ 9223372036854775807) (hC : Kd.string.C w A ls.length ls) (hsz : ∀ x, x ∈ ls → x.size ≤ 4294967296) : RdS w w b dims ls :=
  ⟨A, c, hb, hl, hc, hC, hsz, KeepB.refl _ _, fun hn => strs_off hb hC hn⟩

/-- What says that a line is none. -/
def Mal : Ending := .panicked [{ v := .iface 33 (.int .i64 4), recovered := false }]

theorem must_true (w : World) : Calls Tryd.prog 46 #[.bool true] w fun e w' => e = .returned (.tuple #[]) ∧ w = w' := by
  go_enter Tryd.func46, Tryd.ntmps46
  go_wp2
  go_end0
  exact ⟨rfl, rfl⟩
theorem must_false (w : World) : Calls Tryd.prog 46 #[.bool false] w fun e w' => e = Mal ∧ w = w' := by
  unfold Mal
  go_enter Tryd.func46, Tryd.ntmps46
  go_wp2
  exact ⟨rfl, rfl, rfl⟩

set_option maxHeartbeats 1000000 in
theorem word_some (w0 : World) (b : Nat) (dims : Int) (x : ByteArray) (ls : List ByteArray) (w : World) (h : RdS w0 w b dims (x :: ls)) :
    Calls Tryd.prog 38 #[.pointer (some ⟨b, 0, none⟩)] w fun e w' => e = .returned (.string x) ∧ RdS w0 w' b dims ls ∧ KeepB b w w' := by
  obtain ⟨A, c, hb, hl, hcm, hC, hsz, hK, hA⟩ := h
  have HSZ := Aside0.mk (fun y (hy : y ∈ ls) => hsz y (List.mem_cons_of_mem _ hy))
  clear hsz
  obtain ⟨ad, rfl, hne⟩ := hA (by simp)
  obtain ⟨hx0, hT⟩ := strs_tail hC
  have hx := hK.cell hx0 hne
  have HK0 := Aside0.mk hK
  have HT := Aside0.mk hT
  have HB := Aside0.mk hb
  have HN := Aside0.mk hne
  have h0 : w.cell? ⟨b, 0, none⟩ = some (.slice (some ad) (ls.length + 1) c) := by rw [blk_cell hb]; rfl
  have hf : w.frozen? ⟨b, 0, none⟩ = false := blk_frozen hb 0
  have hl1 : ls.length + 1 ≤ c := hl
  clear hC hb hl hT hne hK hA hx0
  go_enter Tryd.func38, Tryd.ntmps38
  go_wp2_with (first | (go_at_call 46; refine (must_true _).mono ?_; rintro e w' ⟨rfl, rfl⟩))
  · go_ret
    exact ⟨rfl, RdS.set_ HB.out HT.out HN.out (by omega) (by omega) (by omega) HSZ.out HK0.out, KeepB.set _ _ _ _⟩
  · go_ret
    exact ⟨rfl, RdS.set_ HB.out HT.out HN.out (by omega) (by omega) (fun _ => by simp [Addr.add]) HSZ.out HK0.out, KeepB.set _ _ _ _⟩

theorem word_none (w0 : World) (b : Nat) (dims : Int) (w : World) (h : RdS w0 w b dims []) :
    Calls Tryd.prog 38 #[.pointer (some ⟨b, 0, none⟩)] w fun e w' => e = Mal ∧ w = w' := by
  obtain ⟨A, c, hb, hl, hcm, hC, _⟩ := h
  have h0 : w.cell? ⟨b, 0, none⟩ = some (.slice A 0 c) := by rw [blk_cell hb]; rfl
  clear hC hb hl
  go_enter Tryd.func38, Tryd.ntmps38
  go_wp2_with (first | (go_at_call 46; refine (must_false _).mono ?_; rintro e w' ⟨rfl, rfl⟩; unfold Mal))
  exact ⟨rfl, rfl, rfl⟩
end Go.Proofs.YtnkcgoaafpnbjaaDoor
/- Numbers and texts as words: the program's. -/
namespace Go.Proofs.YtnkcgoaafpnbjaaDoor
open Go.RowKit Go.Proofs.YtnkcgoaafpnbjaaDoorW.PrintWords
set_option linter.unusedVariables false
set_option linter.unusedSimpArgs false

theorem numGo_step (t : List UInt8) (k : Nat) (v : Int) (hk : k < t.length) : Ows.numGo (t.drop k) v = if ((t.getD k 0).toNat : Int) - 48 < 0 ∨ 9 < ((t.getD k 0).toNat : Int) - 48 ∨ v < -922337203685477580 ∨ v * 10 < -9223372036854775808 + (((t.getD k 0).toNat : Int) - 48) then none else Ows.numGo (t.drop (k + 1)) (v * 10 - (((t.getD k 0).toNat : Int) - 48)) := by
  rw [List.drop_eq_getElem_cons hk]
  simp only [Ows.numGo, List.getD_eq_getElem?_getD, List.getElem?_eq_getElem hk, Option.getD_some]

theorem head48 {t : List UInt8} {p : 0 < (⟨t.toArray⟩ : ByteArray).size} (h : (((⟨t.toArray⟩ : ByteArray)[0]'p).toNat : Int) = 48) : t.head? = some 48 := by
  rcases t with _ | ⟨x, r⟩
  · simp [ByteArray.size] at p
  · have h2 : x.toNat = 48 := by
      have : ((⟨(x :: r).toArray⟩ : ByteArray)[0]'p) = x := rfl
      rw [this] at h
      omega
    simp only [List.head?_cons]
    congr 1
    exact UInt8.toNat_inj.1 (by simpa using h2)
theorem head48n {t : List UInt8} {p : 0 < (⟨t.toArray⟩ : ByteArray).size} (h : ¬ (((⟨t.toArray⟩ : ByteArray)[0]'p).toNat : Int) = 48) : ¬ t.head? = some 48 := by
  rcases t with _ | ⟨x, r⟩
  · simp [ByteArray.size] at p
  · intro h2
    have : ((⟨(x :: r).toArray⟩ : ByteArray)[0]'p) = x := rfl
    rw [this] at h
    simp at h2
    subst h2
    exact h rfl

set_option maxRecDepth 100000 in
set_option maxHeartbeats 4000000 in
theorem Number_any (s : ByteArray) (w : World) (hs : s.size ≤ 140737488351232) :
    Calls Tryd.prog 13 #[.string s] w fun e w' => e = .returned (.tuple #[.int .i64 ((Ows.wNum s.data.toList).getD 0), .bool (Ows.wNum s.data.toList).isSome]) ∧ Below w.heap.size w w' := by
  have hlen : (Lib.trimPrefix s.data.toList [45]).length ≤ 140737488351232 := Nat.le_trans (Lib.trimPrefix_le _ _) (by rw [← Lib.size_eq]; exact hs)
  have HR := Aside0.mk (show Ows.wNum s.data.toList = Ows.wNumT (Lib.trimPrefix s.data.toList [45]) (Lib.hasPrefix s.data.toList [45]) from rfl)
  have kc := fun (W : World) (t : ByteArray) => Lib.run_convert_string_bytes (P := Tryd.prog) W 9 67 5 t Tryd.underlying9 Tryd.underlying67 Tryd.underlying5
  go_enter Tryd.func13, Tryd.ntmps13
  go_wp2_with fail
  refine (Tryd.strings_CutPrefix _ _ _).mono ?_
  rintro e w' ⟨rfl, rfl⟩
  generalize Lib.trimPrefix s.data.toList [45] = t at *
  generalize Lib.hasPrefix s.data.toList [45] = m at *
  have HG := Aside0.mk (fun (k : Nat) (v : Int) (hk : k < t.length) => numGo_step t k v hk)
  have HC := Aside0.mk (fun (j : Nat) (hj : j < t.length) => Lib.bytesWorld_cell w' 5 ⟨t.toArray⟩ j (by simpa [ByteArray.size] using hj))
  go_wp2
  all_goals first
    | (go_ret2
       refine ⟨?_, Below.refl _ _⟩
       have hb : Ows.wBad t m := by
         first
         | exact .inl ‹t = []›
         | exact .inr (.inl ⟨by omega, head48 ‹_›⟩)
         | exact .inr (.inr ⟨‹m = true›, by simp_all⟩)
         | (exfalso; simp_all; done)
       rw [HR.out, Ows.wNumT_bad hb]; rfl)
    | (have hnb : Ows.wNumT t m = Ows.numEnd m (Ows.numGo t 0) := by
         apply Ows.wNumT_go
         rintro (h | ⟨h1, h2⟩ | ⟨h1, h2⟩)
         · exact absurd h ‹_›
         · first | omega | exact head48n ‹_› h2
         · subst h2; simp_all
       have HE := Aside0.mk (HR.out.trans hnb)
       clear hnb HR
       try simp only [Bool.and_eq_true, decide_eq_true_eq, decide_eq_false_iff_not] at *
       try go_simp
       go_loopg [2, 36] t.length (fun g n i wr => ∃ (k : Nat) (v : Int), g = t.length - k ∧ k ≤ t.length ∧ i = .int .i64 k ∧ n = .int .i64 v ∧ -9223372036854775808 ≤ v ∧ v ≤ 0 ∧ Aside0 (Ows.numGo t 0 = Ows.numGo (t.drop k) v) ∧ wr = Lib.bytesWorld w' 5 ⟨t.toArray⟩)
       case atStart => exact ⟨0, 0, by omega, by omega, rfl, rfl, by omega, by omega, ⟨rfl⟩, rfl⟩
       case round =>
         obtain ⟨k, v, rfl, hk, rfl, rfl, hv1, hv2, hv, rfl⟩ := hrel
         by_cases hlt : k < t.length
         · have hcell := HC.out k hlt
           have hgo := HG.out k v hlt
           have hbd : (t.getD k 0).toNat < 256 := (t.getD k 0).toNat_lt
           change _ = some (Value.int .u8 ((t.getD k 0).toNat : Int)) at hcell
           generalize (t.getD k 0).toNat = b at *
           have HGO := Aside0.mk (hv.out.trans hgo)
           clear hgo hv
           go_wp2
           all_goals first
             | (go_ret2
                refine ⟨?_, below_bytes _ _ _⟩
                rw [HE.out, HGO.out, if_pos (by omega)]; rfl)
             | (go_roundg (t.length - (k + 1))
                case rel => exact ⟨k + 1, _, rfl, by omega, by go_num, rfl, by omega, by omega, ⟨by rw [HGO.out, if_neg (by omega)]⟩, rfl⟩
                case measure => omega)
         · obtain rfl : k = t.length := by omega
           have HV := Aside0.mk (show Ows.numGo t 0 = some v by rw [hv.out, List.drop_length]; rfl)
           by_cases hmin : v = -9223372036854775808
           all_goals
             go_wp2
             all_goals
               go_ret2
               refine ⟨?_, below_bytes _ _ _⟩
               rw [HE.out, HV.out]
               simp_all [Ows.numEnd])
end Go.Proofs.YtnkcgoaafpnbjaaDoor
/- The text whose word that is: the program's. -/
namespace Go.Proofs.YtnkcgoaafpnbjaaDoor
open Go.RowKit Go.Proofs.YtnkcgoaafpnbjaaDoorW.PrintWords
set_option linter.unusedVariables false
set_option linter.unusedSimpArgs false

set_option maxHeartbeats 2000000 in
theorem plain_any (c : Int) (w : World) : Calls Tryd.prog 31 #[.int .u8 c] w fun e w' => e = .returned (.bool (Ows.plainI c)) ∧ w = w' := by
  go_enter Tryd.func31, Tryd.ntmps31
  go_wp2
  all_goals
    go_ret
    refine ⟨ret_bool ?_, rfl⟩
    first | (refine (Ows.plainI_true ?_).symm; omega) | (refine (Ows.plainI_false ?_).symm; omega) | (unfold Ows.plainI; rw [Bool.eq_iff_iff]; simp; omega)

theorem bareGo_step (l : List UInt8) (k : Nat) (hk : k < l.length) : Ows.bareGo (l.drop k) = if Ows.plainI (l.getD k 0).toNat = true then (Ows.bareGo (l.drop (k + 1))).map ((l.getD k 0) :: ·) else if l.getD k 0 ≠ 37 ∨ l.length ≤ k + 2 then none
    else if Ows.hv (l.getD (k + 1) 0) < 0 ∨ Ows.hv (l.getD (k + 2) 0) < 0 ∨ Ows.plainI (16 * Ows.hv (l.getD (k + 1) 0) + Ows.hv (l.getD (k + 2) 0)) = true then none else (Ows.bareGo (l.drop (k + 3))).map ((16 * Ows.hv (l.getD (k + 1) 0) + Ows.hv (l.getD (k + 2) 0)).toNat.toUInt8 :: ·) := by
  rw [List.drop_eq_getElem_cons hk]
  have e0 : l.getD k 0 = l[k] := by simp [List.getD_eq_getElem?_getD, List.getElem?_eq_getElem hk]
  rw [e0]
  by_cases hl : l.length ≤ k + 2
  · rw [if_pos (Or.inr hl : l[k] ≠ 37 ∨ _)]
    rw [show Ows.bareGo (l[k] :: l.drop (k + 1)) = if Ows.plainI (l[k].toNat : Int) = true then (Ows.bareGo (l.drop (k + 1))).map (l[k] :: ·) else if l[k] ≠ 37 then none else match l.drop (k + 1) with | h :: l2 :: r2 => if Ows.hv h < 0 ∨ Ows.hv l2 < 0 ∨ Ows.plainI (16 * Ows.hv h + Ows.hv l2) = true then none else (Ows.bareGo r2).map ((16 * Ows.hv h + Ows.hv l2).toNat.toUInt8 :: ·) | _ => none from by cases l.drop (k + 1) with | nil => rfl | cons a t => cases t <;> rfl]
    by_cases h1 : Ows.plainI (l[k].toNat : Int) = true
    · rw [if_pos h1, if_pos h1]
    · rw [if_neg h1, if_neg h1]
      split
      · rfl
      · split
        · rename_i h _ _ _ he
          have := congrArg List.length he
          simp at this
          omega
        · rfl
  · have h1 : k + 1 < l.length := by omega
    have h2 : k + 2 < l.length := by omega
    have e1 : l.getD (k + 1) 0 = l[k + 1] := by simp [List.getD_eq_getElem?_getD, List.getElem?_eq_getElem h1]
    have e2 : l.getD (k + 2) 0 = l[k + 2] := by simp [List.getD_eq_getElem?_getD, List.getElem?_eq_getElem h2]
    rw [e1, e2, List.drop_eq_getElem_cons h1, List.drop_eq_getElem_cons h2]
    simp only [Ows.bareGo, hl, or_false]

theorem hexIndex (c : UInt8) (x : Int) (hx : Ows.hv c = x) (w : World) : Calls Tryd.prog 32 #[.string ⟨#[48, 49, 50, 51, 52, 53, 54, 55, 56, 57, 97, 98, 99, 100, 101, 102]⟩, .int .u8 c.toNat] w fun e w' => e = .returned (.int .i64 x) ∧ w' = w := by
  have h := Tryd.strings_IndexByte ⟨#[48, 49, 50, 51, 52, 53, 54, 55, 56, 57, 97, 98, 99, 100, 101, 102]⟩ (c.toNat : Int) w
  have e : ((c.toNat : Int).toNat.toUInt8) = c := by simp
  rw [e] at h
  subst hx
  exact h
theorem hv_lt (c : UInt8) : -1 ≤ Ows.hv c ∧ Ows.hv c ≤ 15 := by
  have h : ∀ n : Fin 256, -1 ≤ Ows.hv (UInt8.ofNat n.val) ∧ Ows.hv (UInt8.ofNat n.val) ≤ 15 := by decide +kernel
  have := h ⟨c.toNat, c.toNat_lt⟩
  simpa using this

theorem or_nibble (x y : Int) (h1 : 0 ≤ x) (h2 : x ≤ 15) (h3 : 0 ≤ y) (h4 : y ≤ 15) : bits BinOp.or IntKind.i64 (x * 16) y % 256 = 16 * x + y := by
  have h : ∀ a b : Fin 16, bits BinOp.or IntKind.i64 ((a.val : Int) * 16) (b.val : Int) % 256 = 16 * (a.val : Int) + (b.val : Int) := by decide +kernel
  have := h ⟨x.toNat, by omega⟩ ⟨y.toNat, by omega⟩
  simpa [Int.toNat_of_nonneg h1, Int.toNat_of_nonneg h3] using this
theorem map_map_ (f g : List UInt8 → List UInt8) (o : Option (List UInt8)) : (o.map f).map g = o.map (fun x => g (f x)) := by cases o <;> rfl

set_option maxRecDepth 100000 in
set_option maxHeartbeats 2000000 in
theorem Bare_any (s : ByteArray) (w : World) (hs : s.size ≤ 140737488351232) :
    Calls Tryd.prog 15 #[.string s] w fun e w' => e = .returned (.tuple #[.string (B ((Ows.wBare s.data.toList).getD [])), .bool (Ows.wBare s.data.toList).isSome]) ∧ Below w.heap.size w w' := by
  have HB := Aside0.mk (Below.refl w.heap.size w)
  by_cases hd : s.data.toList = [45]
  · have he : (s.toList == ([45] : List UInt8)) = true := by rw [Lib.toList_data, hd]; rfl
    have HE := Aside0.mk hd
    clear hd
    go_enter Tryd.func15, Tryd.ntmps15
    go_wp2
    go_ret2
    refine ⟨?_, HB.out⟩
    rw [HE.out]; rfl
  · have hlen : s.data.toList.length = s.size := (Lib.size_eq s).symm
    have HG := Aside0.mk (fun (k : Nat) (hk : k < s.data.toList.length) => bareGo_step s.data.toList k hk)
    have HBT := Aside0.mk (byte_at s)
    have he : (s.toList == ([45] : List UInt8)) = false := by rw [Lib.toList_data, beq_eq_false_iff_ne]; exact hd
    have HW := Aside0.mk (show Ows.wBare s.data.toList = (Ows.bareGo s.data.toList).bind fun b => if b = [] then none else some b from if_neg hd)
    clear hd
    generalize hL : s.data.toList = l at *
    have HL := Aside0.mk hL
    clear hL
    go_enter Tryd.func15, Tryd.ntmps15
    go_wp2
    go_loopg [4, 5] s.size (fun g v i wr => ∃ (k : Nat) (acc : List UInt8), g = s.size - k ∧ k ≤ s.size ∧ acc.length ≤ k ∧ i = .int .i64 k ∧ Aside0 (Ows.bareGo l = (Ows.bareGo (l.drop k)).map (acc ++ ·)) ∧ Aside0 (Kd.R (Kd.int .u8) 5 wr w.heap.size (fun _ => True) v (bytesI acc)) ∧ Aside0 (Below w.heap.size w wr))
    case atStart => exact ⟨0, [], by omega, by omega, by simp, rfl, ⟨by rw [List.drop_zero]; cases Ows.bareGo l <;> rfl⟩, ⟨Kd.R_nil _ _ _ _ _⟩, HB⟩
    case round =>
      obtain ⟨k, acc, rfl, hk, ha, rfl, HA, HO, HB⟩ := hrel
      by_cases hlt : k < s.size
      · have hgo := HG.out k (by omega)
        have hb0 := HBT.out k hlt
        generalize l.getD k 0 = c at *
        by_cases hp : Ows.plainI (c.toNat : Int) = true
        · rw [if_pos hp] at hgo
          have HGO := Aside0.mk hgo
          clear hgo
          go_wp2_with (first | (go_at_call 31; refine (plain_any _ _).mono ?_; rintro e w' ⟨rfl, rfl⟩) | ((with_reducible refine gate_dst (N := 25) rfl ?_); refine Kd.R_append (Kd.int .u8) (w0 := w) w.heap.size rfl (.tmp 20) (.tmp 24) 67 5 (.int .u8 0) 1 rfl Tryd.underlying67 infoU8 rfl (by decide) (by omega) u4 (bytesI acc) (c.toNat : Int) [.int .u8 c.toNat] (fun _ => True) (fun _ => False) rfl rfl ?aP (fun _ hk => hk.elim) (fun _ _ => trivial) HO.out HB.out HB.out.size ?aL ?_; (case aP => exact rfl); (case aL => rw [bytesI_len]; omega); intro v1 w1 hr hb1 _ _; have HO1 := Aside0.mk hr; have HB1 := Aside0.mk hb1; clear hr hb1))
          go_roundg (s.size - (k + 1))
          case measure => omega
          case rel =>
            refine ⟨k + 1, acc ++ [c], rfl, by omega, by simp; omega, by go_num, ⟨?_⟩, ⟨by rw [bytesI_snoc]; exact HO1.out⟩, HB1⟩
            rw [HA.out, HGO.out, map_map_]
            simp
        · rw [if_neg hp] at hgo
          have hpf : Ows.plainI (c.toNat : Int) = false := by simpa using hp
          by_cases hc : c ≠ 37 ∨ s.size ≤ k + 2
          · rw [if_pos (hc.imp_right (fun h => by omega))] at hgo
            have HGO := Aside0.mk hgo
            clear hgo hp
            by_cases hc1 : (c.toNat : Int) = 37
            · have hge : s.size ≤ k + 2 := by
                rcases hc with hc | hc
                · exact absurd (UInt8.toNat_inj.1 (show c.toNat = 37 by omega)) hc
                · exact hc
              clear hc
              go_wp2_with (first | (go_at_call 31; refine (plain_any _ _).mono ?_; rintro e w' ⟨rfl, rfl⟩))
              go_ret2
              refine ⟨?_, HB.out⟩
              rw [HW.out, HA.out, HGO.out]; rfl
            · clear hc
              go_wp2_with (first | (go_at_call 31; refine (plain_any _ _).mono ?_; rintro e w' ⟨rfl, rfl⟩))
              go_ret2
              refine ⟨?_, HB.out⟩
              rw [HW.out, HA.out, HGO.out]; rfl
          · obtain ⟨rfl, hge⟩ : c = 37 ∧ k + 2 < s.size := ⟨Classical.byContradiction fun h => hc (.inl h), Classical.byContradiction fun h => hc (.inr (by omega))⟩
            rw [if_neg (by rintro (h | h); exact h rfl; omega)] at hgo
            have hb1 := HBT.out (k + 1) (by omega)
            have hb2 := HBT.out (k + 2) hge
            have hi1 : IntKind.i64.wrap ((k : Int) + 1) = (k : Int) + 1 := IntWalk.i64_in _ (by omega)
            have hi2 : IntKind.i64.wrap ((k : Int) + 2) = (k : Int) + 2 := IntWalk.i64_in _ (by omega)
            have hn1 : ((k : Int) + 1).toNat = k + 1 := by omega
            have hn2 : ((k : Int) + 2).toNat = k + 2 := by omega
            generalize l.getD (k + 1) 0 = c1 at *
            generalize l.getD (k + 2) 0 = c2 at *
            obtain ⟨x1, hx1⟩ : ∃ x, Ows.hv c1 = x := ⟨_, rfl⟩
            obtain ⟨x2, hx2⟩ : ∃ x, Ows.hv c2 = x := ⟨_, rfl⟩
            have hr1 := hv_lt c1
            have hr2 := hv_lt c2
            rw [hx1] at hgo hr1
            rw [hx2] at hgo hr2
            have HX1 := Aside0.mk hx1
            have HX2 := Aside0.mk hx2
            clear hx1 hx2 hp hc
            obtain ⟨hr1a, hr1b⟩ := hr1
            obtain ⟨hr2a, hr2b⟩ := hr2
            by_cases hbad : x1 < 0 ∨ x2 < 0
            · rw [if_pos (by omega)] at hgo
              have HGO := Aside0.mk hgo
              clear hgo
              go_wp2_with (first | (go_at_call 31; refine (plain_any _ _).mono ?_; rintro e w' ⟨rfl, rfl⟩))
              go_quiet ((first | (go_at_call 32; exact Calls.quiet_of_same (hexIndex _ _ HX1.out _)) | (go_at_call 32; exact Calls.quiet_of_same (hexIndex _ _ HX2.out _))))
              by_cases h1 : x1 < 0
              all_goals
                go_wp2_with (first | (go_at_call 31; refine (plain_any _ _).mono ?_; rintro e w' ⟨rfl, rfl⟩))
                go_ret2
                refine ⟨?_, pw_below_drewN HB.out _⟩
                rw [HW.out, HA.out, HGO.out]; rfl
            · have g1 : 0 ≤ x1 := by omega
              have g2 : 0 ≤ x2 := by omega
              clear hbad hr1a hr2a
              have hor := or_nibble x1 x2 g1 hr1b g2 hr2b
              have hzr : 0 ≤ 16 * x1 + x2 ∧ 16 * x1 + x2 ≤ 255 := by omega
              obtain ⟨hz1, hz2⟩ := hzr
              generalize hz : 16 * x1 + x2 = z at *
              clear hz
              by_cases hpz : Ows.plainI z = true
              · rw [if_pos (by simp [hpz])] at hgo
                have HGO := Aside0.mk hgo
                clear hgo
                go_wp2_with (first | (go_at_call 31; refine (plain_any _ _).mono ?_; rintro e w' ⟨rfl, rfl⟩))
                go_quiet ((first | (go_at_call 32; exact Calls.quiet_of_same (hexIndex _ _ HX1.out _)) | (go_at_call 32; exact Calls.quiet_of_same (hexIndex _ _ HX2.out _))))
                go_wp2_with (first | (go_at_call 31; refine (plain_any _ _).mono ?_; rintro e w' ⟨rfl, rfl⟩))
                go_ret2
                refine ⟨?_, pw_below_drewN HB.out _⟩
                rw [HW.out, HA.out, HGO.out]; rfl
              · rw [if_neg (by rintro (h | h | h); omega; omega; exact hpz h)] at hgo
                have hpz' : Ows.plainI z = false := by simpa using hpz
                have HGO := Aside0.mk hgo
                clear hgo hpz
                go_wp2_with (first | (go_at_call 31; refine (plain_any _ _).mono ?_; rintro e w' ⟨rfl, rfl⟩))
                go_quiet ((first | (go_at_call 32; exact Calls.quiet_of_same (hexIndex _ _ HX1.out _)) | (go_at_call 32; exact Calls.quiet_of_same (hexIndex _ _ HX2.out _))))
                have HBd := Aside0.mk (pw_below_drewN HB.out nq)
                have HOd := Aside0.mk (Kd.R_drewN HO.out nq)
                go_wp2_with (first | (go_at_call 31; refine (plain_any _ _).mono ?_; rintro e w' ⟨rfl, rfl⟩) | ((with_reducible refine gate_dst (N := 68) rfl ?_); go_must (refine Kd.R_append (Kd.int .u8) (w0 := w) w.heap.size rfl (.tmp 61) (.tmp 67) 67 5 (.int .u8 0) 1 rfl Tryd.underlying67 infoU8 rfl (by decide) (by omega) u4 (bytesI acc) z [.int .u8 z] (fun _ => True) (fun _ => False) rfl rfl ?aP (fun _ hk => hk.elim) (fun _ _ => trivial) HOd.out HBd.out HBd.out.size ?aL ?_); (case aP => exact rfl); (case aL => rw [bytesI_len]; omega); intro v1 w1 hr hb1 _ _; have HO1 := Aside0.mk hr; have HB1 := Aside0.mk hb1; clear hr hb1))
                go_roundg (s.size - (k + 3))
                case measure => omega
                case rel =>
                  refine ⟨k + 3, acc ++ [z.toNat.toUInt8], rfl, by omega, by simp; omega, by go_num, ⟨?_⟩, ⟨?_⟩, HB1⟩
                  · rw [HA.out, HGO.out, map_map_]
                    simp
                  · rw [bytesI_snoc, show ((z.toNat.toUInt8).toNat : Int) = z from by simp; omega]
                    exact HO1.out
      · obtain rfl : k = s.size := by omega
        have hfin : Ows.bareGo l = some acc := by
          rw [HA.out, show l.drop s.size = [] from List.drop_of_length_le (by omega)]
          simp [Ows.bareGo]
        have HF := Aside0.mk hfin
        clear hfin
        obtain ⟨A0, c0, rfl, hcv⟩ := conv_own HO.out
        by_cases ha0 : acc = []
        · subst ha0
          simp only [List.length_nil] at hcv
          go_wp2
          go_ret2
          refine ⟨?_, HB.out⟩
          rw [HW.out, HF.out]; rfl
        · have hpos : 0 < acc.length := List.length_pos_iff.2 ha0
          have HN := Aside0.mk ha0
          clear ha0
          go_wp2
          go_ret2
          refine ⟨?_, HB.out⟩
          rw [HW.out, HF.out]
          simp [HN.out]
end Go.Proofs.YtnkcgoaafpnbjaaDoor
/- A line's words: the program's. -/
namespace Go.Proofs.YtnkcgoaafpnbjaaDoor
open Go.RowKit Go.Proofs.YtnkcgoaafpnbjaaDoorW.PrintWords
set_option linter.unusedVariables false
set_option linter.unusedSimpArgs false

/-- A line's words. -/
def wSplit (s : ByteArray) : List ByteArray := if s.data.toList = [] then [] else Lib.splitB ⟨#[32]⟩ 0 (Lib.countB s ⟨#[32]⟩) s

theorem Split_any (s : ByteArray) (m : Int) (w : World) (hs : s.size < 4294967281) (hm : w.cell? ⟨0, 0, none⟩ = some (.int .i64 m)) :
    Calls Tryd.prog 20 #[.string s] w fun e w' => ∃ v : Value, e = .returned v ∧ Kd.string.R 9 w' w.heap.size (fun _ => True) v (wSplit s) ∧ Below w.heap.size w w' := by
  by_cases hd : s.data.toList = []
  · have he : (s.toList == ([] : List UInt8)) = true := by rw [Lib.toList_data, hd]; rfl
    have he2 : s.toList = [] := by rw [Lib.toList_data, hd]
    have HE := Aside0.mk hd
    clear hd
    go_enter Tryd.func20, Tryd.ntmps20
    go_wp2
    go_ret
    refine ⟨_, rfl, ?_, Below.refl _ _⟩
    rw [wSplit, if_pos HE.out]
    exact Kd.R_nil _ _ _ _ _
  · have he : (s.toList == ([] : List UInt8)) = false := by rw [Lib.toList_data, beq_eq_false_iff_ne]; exact hd
    have he2 : ¬ s.toList = [] := by rw [Lib.toList_data]; exact hd
    have HE := Aside0.mk hd
    have HM := Aside0.mk hm
    clear hd hm
    go_enter Tryd.func20, Tryd.ntmps20
    go_wp2_with (first | (go_at_call 37; refine (Tryd.strings_Split _ _ m _ hs HM.out (by decide)).mono ?_; rintro e w' ⟨rfl, hw⟩; subst hw))
    go_ret
    refine ⟨_, rfl, ?_, (Below.refl _ _).alloc (Nat.le_refl _) _⟩
    rw [wSplit, if_neg HE.out]
    have hl := Lib.splitB_all ⟨#[32]⟩ (by decide) 0 _ s rfl
    have hn := Lib.countB_le ⟨#[32]⟩ (by decide) s.size s (Nat.le_refl _)
    rw [← hl]
    exact Kd.R_of_own (own_lit_of (enc := Value.string) w w.heap.size 9 _ (Nat.le_refl _) (by rw [hl]; omega)) (fun _ _ => trivial)

theorem wSplit_eq (s : ByteArray) : wSplit s = (Ows.rSplit s.data.toList).map B := by
  unfold wSplit Ows.rSplit
  by_cases h : s.data.toList = []
  · rw [if_pos h, if_pos h]; rfl
  · rw [if_neg h, if_neg h]
    have h1 := Lib.splitB_data ⟨#[32]⟩ 0 (Lib.countB s ⟨#[32]⟩) s
    have h2 : Lib.countB s ⟨#[32]⟩ = Lib.count s.data.toList [32] := rfl
    rw [h2] at h1 ⊢
    have h3 : (⟨#[32]⟩ : ByteArray).data.toList = [32] := rfl
    rw [h3, Ows.split_eq] at h1
    rw [← h1, List.map_map]
    exact ((List.map_congr_left (fun x _ => by rfl)).trans (List.map_id _)).symm
end Go.Proofs.YtnkcgoaafpnbjaaDoor
/- The reader's number and text. -/
namespace Go.Proofs.YtnkcgoaafpnbjaaDoor
open Go.RowKit Go.Proofs.YtnkcgoaafpnbjaaDoorW.PrintWords
set_option linter.unusedVariables false
set_option linter.unusedSimpArgs false

theorem RdS.head {w0 w : World} {b : Nat} {dims : Int} {x : ByteArray} {ls : List ByteArray} (h : RdS w0 w b dims (x :: ls)) : x.size ≤ 4294967296 := by
  obtain ⟨A, c, _, _, _, _, h5, _, _⟩ := h
  exact h5 x (by simp)

theorem num_some (w0 : World) (b : Nat) (dims : Int) (x : ByteArray) (ls : List ByteArray) (n : Int) (w : World) (h : RdS w0 w b dims (x :: ls)) (hn : Ows.wNum x.data.toList = some n) :
    Calls Tryd.prog 42 #[.pointer (some ⟨b, 0, none⟩)] w fun e w' => e = .returned (.int .i64 n) ∧ RdS w0 w' b dims ls ∧ KeepB b w w' := by
  have hsz := h.head
  have H := Aside0.mk h
  have HN := Aside0.mk hn
  clear h hn
  go_enter Tryd.func42, Tryd.ntmps42
  go_wp2_with fail
  refine (word_some w0 b dims x ls _ H.out).mono ?_
  rintro e w1 ⟨rfl, hR, hK⟩
  have HR := Aside0.mk hR
  have HK := Aside0.mk hK
  clear hR hK
  go_wp2_with fail
  refine (Number_any x _ (by omega)).mono ?_
  rintro e w2 ⟨rfl, hB⟩
  rw [HN.out]
  have HB := Aside0.mk hB
  clear hB
  go_wp2_with fail
  refine (must_true _).mono ?_
  rintro e w3 ⟨rfl, rfl⟩
  go_wp2
  go_ret
  exact ⟨rfl, HR.out.below HB.out, HK.out.trans (KeepB.of_below HB.out)⟩
theorem num_bad (w0 : World) (b : Nat) (dims : Int) (x : ByteArray) (ls : List ByteArray) (w : World) (h : RdS w0 w b dims (x :: ls)) (hn : Ows.wNum x.data.toList = none) :
    Calls Tryd.prog 42 #[.pointer (some ⟨b, 0, none⟩)] w fun e w' => e = Mal ∧ KeepB b w w' := by
  have hsz := h.head
  have H := Aside0.mk h
  have HN := Aside0.mk hn
  clear h hn
  unfold Mal
  go_enter Tryd.func42, Tryd.ntmps42
  go_wp2_with fail
  refine (word_some w0 b dims x ls _ H.out).mono ?_
  rintro e w1 ⟨rfl, hR, hK⟩
  have HR := Aside0.mk hR
  have HK := Aside0.mk hK
  clear hR hK
  go_wp2_with fail
  refine (Number_any x _ (by omega)).mono ?_
  rintro e w2 ⟨rfl, hB⟩
  rw [HN.out]
  have HB := Aside0.mk hB
  clear hB
  go_wp2_with fail
  refine (must_false _).mono ?_
  rintro e w3 ⟨rfl, rfl⟩
  unfold Mal
  go_wp2
  exact ⟨rfl, rfl, HK.out.trans (KeepB.of_below HB.out)⟩
theorem num_none (w0 : World) (b : Nat) (dims : Int) (w : World) (h : RdS w0 w b dims []) :
    Calls Tryd.prog 42 #[.pointer (some ⟨b, 0, none⟩)] w fun e w' => e = Mal ∧ KeepB b w w' := by
  have H := Aside0.mk h
  clear h
  unfold Mal
  go_enter Tryd.func42, Tryd.ntmps42
  go_wp2_with fail
  refine (word_none w0 b dims _ H.out).mono ?_
  rintro e w1 ⟨rfl, rfl⟩
  unfold Mal
  go_wp2
  exact ⟨rfl, rfl, KeepB.refl _ _⟩

theorem text_some (w0 : World) (b : Nat) (dims : Int) (x : ByteArray) (ls : List ByteArray) (n : List UInt8) (w : World) (h : RdS w0 w b dims (x :: ls)) (hn : Ows.wBare x.data.toList = some n) :
    Calls Tryd.prog 64 #[.pointer (some ⟨b, 0, none⟩)] w fun e w' => e = .returned (.string (B n)) ∧ RdS w0 w' b dims ls ∧ KeepB b w w' := by
  have hsz := h.head
  have H := Aside0.mk h
  have HN := Aside0.mk hn
  clear h hn
  go_enter Tryd.func64, Tryd.ntmps64
  go_wp2_with fail
  refine (word_some w0 b dims x ls _ H.out).mono ?_
  rintro e w1 ⟨rfl, hR, hK⟩
  have HR := Aside0.mk hR
  have HK := Aside0.mk hK
  clear hR hK
  go_wp2_with fail
  refine (Bare_any x _ (by omega)).mono ?_
  rintro e w2 ⟨rfl, hB⟩
  rw [HN.out]
  have HB := Aside0.mk hB
  clear hB
  go_wp2_with fail
  refine (must_true _).mono ?_
  rintro e w3 ⟨rfl, rfl⟩
  go_wp2
  go_ret
  exact ⟨rfl, HR.out.below HB.out, HK.out.trans (KeepB.of_below HB.out)⟩
theorem text_bad (w0 : World) (b : Nat) (dims : Int) (x : ByteArray) (ls : List ByteArray) (w : World) (h : RdS w0 w b dims (x :: ls)) (hn : Ows.wBare x.data.toList = none) :
    Calls Tryd.prog 64 #[.pointer (some ⟨b, 0, none⟩)] w fun e w' => e = Mal ∧ KeepB b w w' := by
  have hsz := h.head
  have H := Aside0.mk h
  have HN := Aside0.mk hn
  clear h hn
  unfold Mal
  go_enter Tryd.func64, Tryd.ntmps64
  go_wp2_with fail
  refine (word_some w0 b dims x ls _ H.out).mono ?_
  rintro e w1 ⟨rfl, hR, hK⟩
  have HR := Aside0.mk hR
  have HK := Aside0.mk hK
  clear hR hK
  go_wp2_with fail
  refine (Bare_any x _ (by omega)).mono ?_
  rintro e w2 ⟨rfl, hB⟩
  rw [HN.out]
  have HB := Aside0.mk hB
  clear hB
  go_wp2_with fail
  refine (must_false _).mono ?_
  rintro e w3 ⟨rfl, rfl⟩
  unfold Mal
  go_wp2
  exact ⟨rfl, rfl, HK.out.trans (KeepB.of_below HB.out)⟩
theorem text_none (w0 : World) (b : Nat) (dims : Int) (w : World) (h : RdS w0 w b dims []) :
    Calls Tryd.prog 64 #[.pointer (some ⟨b, 0, none⟩)] w fun e w' => e = Mal ∧ KeepB b w w' := by
  have H := Aside0.mk h
  clear h
  unfold Mal
  go_enter Tryd.func64, Tryd.ntmps64
  go_wp2_with fail
  refine (word_none w0 b dims _ H.out).mono ?_
  rintro e w1 ⟨rfl, rfl⟩
  unfold Mal
  go_wp2
  exact ⟨rfl, rfl, KeepB.refl _ _⟩
end Go.Proofs.YtnkcgoaafpnbjaaDoor
