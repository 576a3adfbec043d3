/- What is plain: numbers, texts and words as functions on lists of bytes; facts, queries, policies, steps as data. -/
import Derived.Lib.Strings
import Derived.Lib.Bytealg
import Derived.Lib.SplitLaws
import Derived.Test.YtnkcgoaafpnbjaaDoorWWords
/- Numbers and texts as words, as plain functions on lists of bytes. -/
namespace Ows

abbrev Bs := List UInt8

/-- The digits of a number, read below 0. -/
def numGo : Bs → Int → Option Int
  | [], n => some n
  | c :: r, n => if (c.toNat : Int) - 48 < 0 ∨ 9 < (c.toNat : Int) - 48 ∨ n < -922337203685477580 ∨ n * 10 < -9223372036854775808 + ((c.toNat : Int) - 48) then none else numGo r (n * 10 - ((c.toNat : Int) - 48))

def wBad (t : Bs) (m : Bool) : Prop := t = [] ∨ (1 < t.length ∧ t.head? = some 48) ∨ (m = true ∧ t = [48])
instance (t : Bs) (m : Bool) : Decidable (wBad t m) := by unfold wBad; infer_instance
/-- What stands in the digits comes out. -/
def numEnd (m : Bool) (o : Option Int) : Option Int := o.bind fun n => if m = true then some n else if n = -9223372036854775808 then none else some (-n)
def wNumT (t : Bs) (m : Bool) : Option Int := if wBad t m then none else numEnd m (numGo t 0)
theorem wNumT_bad {t : Bs} {m : Bool} (h : wBad t m) : wNumT t m = none := if_pos h
theorem wNumT_go {t : Bs} {m : Bool} (h : ¬ wBad t m) : wNumT t m = numEnd m (numGo t 0) := if_neg h

/-- The number whose text that is. -/
def wNum (s : Bs) : Option Int := wNumT (Go.Lib.trimPrefix s [45]) (Go.Lib.hasPrefix s [45])

/-- Does a byte stand as it is? -/
def plainI (c : Int) : Bool := decide (48 ≤ c ∧ c ≤ 57 ∨ 97 ≤ c ∧ c ≤ 122 ∨ 65 ≤ c ∧ c ≤ 90 ∨ c = 95 ∨ c = 46)
theorem plainI_true {c : Int} (h : 48 ≤ c ∧ c ≤ 57 ∨ 97 ≤ c ∧ c ≤ 122 ∨ 65 ≤ c ∧ c ≤ 90 ∨ c = 95 ∨ c = 46) : plainI c = true := decide_eq_true h
theorem plainI_false {c : Int} (h : ¬ (48 ≤ c ∧ c ≤ 57 ∨ 97 ≤ c ∧ c ≤ 122 ∨ 65 ≤ c ∧ c ≤ 90 ∨ c = 95 ∨ c = 46)) : plainI c = false := decide_eq_false h

def hexl : Bs := [48, 49, 50, 51, 52, 53, 54, 55, 56, 57, 97, 98, 99, 100, 101, 102]
/-- A digit of base 16; -1: it is none. -/
def hv (c : UInt8) : Int := Go.Lib.indexByte hexl c
/-- What a word's bytes stand for. -/
def bareGo : Bs → Option Bs
  | [] => some []
  | c :: r => if plainI c.toNat = true then (bareGo r).map (c :: ·)
    else if c ≠ 37 then none
    else match r with
      | h :: l :: r' => if hv h < 0 ∨ hv l < 0 ∨ plainI (16 * hv h + hv l) = true then none else (bareGo r').map ((16 * hv h + hv l).toNat.toUInt8 :: ·)
      | _ => none
/-- The text whose word that is. -/
def wBare (w : Bs) : Option Bs := if w = [45] then some [] else (bareGo w).bind fun b => if b = [] then none else some b

def hexd (n : Nat) : UInt8 := hexl.getD n 0
def quoteC (c : UInt8) : Bs := if plainI c.toNat = true then [c] else [37, hexd (c.toNat / 16), hexd (c.toNat % 16)]
def quoteL (s : Bs) : Bs := s.flatMap quoteC
/-- A text's word. -/
def quote (s : Bs) : Bs := if s = [] then [45] else quoteL s
theorem quoteL_snoc (s : Bs) (c : UInt8) : quoteL (s ++ [c]) = quoteL s ++ quoteC c := by simp [quoteL]
theorem quoteC_len (c : UInt8) : (quoteC c).length ≤ 3 := by unfold quoteC; split <;> simp
theorem quoteL_len (s : Bs) : (quoteL s).length ≤ 3 * s.length := by
  induction s with
  | nil => simp [quoteL]
  | cons c r ih =>
    have := quoteC_len c
    simp only [quoteL, List.flatMap_cons, List.length_append, List.length_cons] at *
    omega

/-- A digit of base 16; of what is none 0. -/
def hz (c : UInt8) : Int := if hv c < 0 then 0 else hv c

end Ows
/- A number's text: decimal, and that both readers of one agree. -/
namespace Ows

/-- The digits of a natural number. -/
def decNat (n : Nat) : Bs := if n < 10 then [UInt8.ofNat (48 + n)] else decNat (n / 10) ++ [UInt8.ofNat (48 + n % 10)]
termination_by n
decreasing_by omega
/-- A number's text. -/
def dec (n : Int) : Bs := if n < 0 then 45 :: decNat (-n).toNat else decNat n.toNat

def valD (t : Bs) : Nat := t.foldl (fun a c => a * 10 + (c.toNat - 48)) 0
def digs (t : Bs) : Prop := ∀ c ∈ t, 48 ≤ c.toNat ∧ c.toNat ≤ 57
theorem valD_snoc (t : Bs) (c : UInt8) : valD (t ++ [c]) = valD t * 10 + (c.toNat - 48) := by simp [valD]
theorem numGo_some : ∀ (t : Bs) (a : Nat) (r : Int), numGo t (-(a : Int)) = some r → digs t ∧ r = -((t.foldl (fun a c => a * 10 + (c.toNat - 48)) a : Nat) : Int) ∧ -9223372036854775808 ≤ r ∨ t = [] := by
  intro t
  induction t with
  | nil => intro a r h; exact .inr rfl
  | cons c t ih =>
    intro a r h
    left
    unfold numGo at h
    split at h
    · cases h
    · rename_i hc
      have e : -(a : Int) * 10 - ((c.toNat : Int) - 48) = -((a * 10 + (c.toNat - 48) : Nat) : Int) := by omega
      rw [e] at h
      have hd : 48 ≤ c.toNat ∧ c.toNat ≤ 57 := by omega
      rcases ih _ _ h with ⟨h1, h2, h3⟩ | rfl
      · refine ⟨fun x hx => ?_, by rw [List.foldl_cons]; exact h2, h3⟩
        rcases List.mem_cons.1 hx with rfl | hx
        · exact hd
        · exact h1 x hx
      · simp only [numGo, Option.some.injEq] at h
        subst h
        refine ⟨fun x hx => ?_, rfl, by omega⟩
        rcases List.mem_cons.1 hx with rfl | hx
        · exact hd
        · cases hx
theorem numGo_val {t : Bs} {r : Int} (h : numGo t 0 = some r) : digs t ∧ r = -(valD t : Int) ∧ -9223372036854775808 ≤ r := by
  rcases numGo_some t 0 r (by simpa using h) with h0 | rfl
  · exact h0
  · simp only [numGo, Option.some.injEq] at h
    subst h
    exact ⟨(fun x hx => by cases hx), rfl, by omega⟩
theorem decNat_small {n : Nat} (h : n < 10) : decNat n = [UInt8.ofNat (48 + n)] := by rw [decNat, if_pos h]
theorem decNat_big {n : Nat} (h : ¬ n < 10) : decNat n = decNat (n / 10) ++ [UInt8.ofNat (48 + n % 10)] := by rw [decNat, if_neg h]
theorem digit_back {c : UInt8} (h : 48 ≤ c.toNat ∧ c.toNat ≤ 57) : UInt8.ofNat (48 + (c.toNat - 48)) = c := by
  rw [show 48 + (c.toNat - 48) = c.toNat by omega]
  simp
theorem snoc_ind {P : Bs → Prop} (h0 : P []) (h1 : ∀ t c, P t → P (t ++ [c])) : ∀ t, P t := by
  intro t
  have : ∀ l : Bs, P l.reverse := by
    intro l
    induction l with
    | nil => exact h0
    | cons c l ih => rw [List.reverse_cons]; exact h1 _ _ ih
  simpa using this t.reverse
/-- A text of digits without zeros ahead is its value's. -/
theorem decNat_valD : ∀ t : Bs, digs t → t ≠ [] → (t.length = 1 ∨ t.head? ≠ some 48) → decNat (valD t) = t ∧ (t.head? ≠ some 48 → 1 ≤ valD t) := by
  refine snoc_ind (fun _ h => absurd rfl h) ?_
  intro t c ih hd _ hh
  have hc : 48 ≤ c.toNat ∧ c.toNat ≤ 57 := hd c (by simp)
  have hdt : digs t := fun x hx => hd x (by simp [hx])
  rw [valD_snoc]
  rcases t with _ | ⟨x, t⟩
  · refine ⟨?_, fun h => ?_⟩
    · simp only [valD, List.foldl_nil, Nat.zero_mul, Nat.zero_add, List.nil_append]
      rw [decNat_small (by omega), digit_back hc]
    · simp only [List.nil_append, List.head?_cons, ne_eq, Option.some.injEq] at h
      have : c.toNat ≠ 48 := fun e => h (UInt8.toNat_inj.1 e)
      omega
  · have hx : (x :: t).head? ≠ some 48 := by
      rcases hh with hh | hh
      · simp at hh
      · simpa using hh
    obtain ⟨h1, h2⟩ := ih hdt (by simp) (.inr hx)
    have h3 := h2 hx
    refine ⟨?_, fun _ => by omega⟩
    rw [decNat_big (by omega), show (valD (x :: t) * 10 + (c.toNat - 48)) / 10 = valD (x :: t) by omega, show (valD (x :: t) * 10 + (c.toNat - 48)) % 10 = c.toNat - 48 by omega, h1, digit_back hc]
theorem decNat_ne (n : Nat) : decNat n ≠ [] := by
  by_cases h : n < 10
  · rw [decNat_small h]; simp
  · rw [decNat_big h]; simp
theorem decNat_head : ∀ n : Nat, 1 ≤ n → (decNat n).head? ≠ some 48 := by
  intro n
  induction n using Nat.strongRecOn with
  | _ n ih =>
    intro h1
    by_cases h : n < 10
    · rw [decNat_small h]
      simp only [List.head?_cons, ne_eq, Option.some.injEq]
      intro e
      have := congrArg UInt8.toNat e
      simp at this
      omega
    · rw [decNat_big h]
      have := ih (n / 10) (by omega) (by omega)
      have hne := decNat_ne (n / 10)
      revert this hne
      cases decNat (n / 10) with
      | nil => intro _ h; exact absurd rfl h
      | cons a l => intro h _; simpa using h
theorem decNat_len : ∀ (k n : Nat), n < 10 ^ (k + 1) → (decNat n).length ≤ k + 1 := by
  intro k
  induction k with
  | zero => intro n h; rw [decNat_small (by simpa using h)]; simp
  | succ k ih =>
    intro n h
    by_cases h10 : n < 10
    · rw [decNat_small h10]; simp
    · rw [decNat_big h10, List.length_append, List.length_singleton]
      have := ih (n / 10) (by rw [Nat.pow_succ] at h; omega)
      omega
theorem decNat_digs : ∀ n : Nat, digs (decNat n) := by
  intro n
  induction n using Nat.strongRecOn with
  | _ n ih =>
    by_cases h : n < 10
    · rw [decNat_small h]
      intro c hc
      rw [List.mem_singleton.1 hc]
      simp
      omega
    · rw [decNat_big h]
      intro c hc
      rcases List.mem_append.1 hc with hc | hc
      · exact ih (n / 10) (by omega) c hc
      · rw [List.mem_singleton.1 hc]
        simp
        omega

/-- What the digits behind a sign, if there is one, come to. -/
def numV (s : Bs) : Option Int := numEnd (Go.Lib.hasPrefix s [45]) (numGo (Go.Lib.trimPrefix s [45]) 0)
/-- The number whose text that is, by its text. -/
def rNum (s : Bs) : Option Int := if s.length = 0 ∨ 20 < s.length then none else (numV s).bind fun n => if dec n = s then some n else none

theorem pre_cases (s : Bs) : (∃ t, s = 45 :: t ∧ Go.Lib.hasPrefix s [45] = true ∧ Go.Lib.trimPrefix s [45] = t) ∨ (s.head? ≠ some 45 ∧ Go.Lib.hasPrefix s [45] = false ∧ Go.Lib.trimPrefix s [45] = s) := by
  rcases s with _ | ⟨c, t⟩
  · exact .inr ⟨by simp, rfl, rfl⟩
  · by_cases h : c = 45
    · subst h
      exact .inl ⟨t, rfl, by simp [Go.Lib.hasPrefix], by simp [Go.Lib.trimPrefix, Go.Lib.hasPrefix]⟩
    · refine .inr ⟨by simpa using h, ?_, ?_⟩
      · simp [Go.Lib.hasPrefix, List.isPrefixOf, Ne.symm h]
      · simp [Go.Lib.trimPrefix, Go.Lib.hasPrefix, List.isPrefixOf, Ne.symm h]

theorem numEnd_some {m : Bool} {o : Option Int} {n : Int} (h : numEnd m o = some n) : ∃ v, o = some v ∧ ((m = true ∧ n = v) ∨ (m = false ∧ v ≠ -9223372036854775808 ∧ n = -v)) := by
  unfold numEnd at h
  rcases o with _ | v
  · cases h
  · refine ⟨v, rfl, ?_⟩
    simp only [Option.bind_some] at h
    cases m with
    | true => left; simpa using h.symm
    | false =>
      right
      simp only [Bool.false_eq_true, if_false] at h
      split at h
      · cases h
      · rename_i hv
        exact ⟨rfl, hv, (by simpa using h.symm)⟩

theorem core_eq (s t : Bs) (m : Bool) (hc : (m = true ∧ s = 45 :: t) ∨ (m = false ∧ s = t)) :
    wNumT t m = if s.length = 0 ∨ 20 < s.length then none else (numEnd m (numGo t 0)).bind fun n => if dec n = s then some n else none := by
  by_cases hb : wBad t m
  · rw [wNumT_bad hb]
    split
    · rfl
    · rename_i hl
      cases hv : numEnd m (numGo t 0) with
      | none => rfl
      | some n =>
        simp only [Option.bind_some]
        rw [if_neg]
        intro hdec
        obtain ⟨v, hv1, hv2⟩ := numEnd_some hv
        obtain ⟨hd, hval, hlo⟩ := numGo_val hv1
        rcases hc with ⟨rfl, rfl⟩ | ⟨rfl, rfl⟩
        · rcases hv2 with ⟨_, rfl⟩ | ⟨h, _⟩
          · unfold dec at hdec
            split at hdec
            · rename_i hneg
              have e : decNat (-n).toNat = t := by simpa using hdec
              have hpos : 1 ≤ (-n).toNat := by omega
              have hh := decNat_head _ hpos
              rw [e] at hh
              rcases hb with rfl | ⟨_, h⟩ | ⟨_, rfl⟩
              · exact decNat_ne _ e
              · exact hh h
              · exact hh rfl
            · have := decNat_digs n.toNat
              rw [hdec] at this
              have := this 45 (by simp)
              simp at this
          · cases h
        · rcases hv2 with ⟨h, _⟩ | ⟨_, hmin, rfl⟩
          · cases h
          · unfold dec at hdec
            rw [if_neg (by omega)] at hdec
            rcases hb with rfl | ⟨h1, h⟩ | ⟨h, _⟩
            · exact decNat_ne _ hdec
            · by_cases h0 : 1 ≤ (-v).toNat
              · have := decNat_head _ h0
                rw [hdec] at this
                exact this h
              · rw [show (-v).toNat = 0 by omega, decNat_small (by omega)] at hdec
                rw [← hdec] at h1
                simp at h1
            · cases h
  · rw [wNumT_go hb]
    have key : ∀ n, numEnd m (numGo t 0) = some n → dec n = s := by
      intro n hv
      obtain ⟨v, hv1, hv2⟩ := numEnd_some hv
      obtain ⟨hd, hval, hlo⟩ := numGo_val hv1
      have hcan : t ≠ [] ∧ (t.length = 1 ∨ t.head? ≠ some 48) := by
        refine ⟨fun h => hb (.inl h), ?_⟩
        rcases Nat.lt_or_ge 1 t.length with h | h
        · right
          exact fun h2 => hb (.inr (.inl ⟨h, h2⟩))
        · left
          have : t.length ≠ 0 := fun h => hb (.inl (List.length_eq_zero_iff.1 h))
          omega
      obtain ⟨hdv, hpos⟩ := decNat_valD _ hd hcan.1 hcan.2
      rcases hc with ⟨rfl, rfl⟩ | ⟨rfl, rfl⟩
      · rcases hv2 with ⟨_, rfl⟩ | ⟨h, _⟩
        · have hne : t.head? ≠ some 48 := by
            rcases hcan.2 with h | h
            · intro h48
              rcases t with _ | ⟨c, _ | ⟨d, t⟩⟩
              · simp at h
              · simp at h48; subst h48; exact hb (.inr (.inr ⟨rfl, rfl⟩))
              · simp at h
            · exact h
          have := hpos hne
          unfold dec
          rw [if_pos (by omega), hval, show (- -(valD t : Int)).toNat = valD t by omega, hdv]
        · cases h
      · rcases hv2 with ⟨h, _⟩ | ⟨_, hmin, rfl⟩
        · cases h
        · unfold dec
          rw [if_neg (by omega), hval, show (- -(valD s : Int)).toNat = valD s by omega, hdv]
    have hne : s.length ≠ 0 := by
      intro h
      have : s = [] := List.length_eq_zero_iff.1 h
      subst this
      rcases hc with ⟨_, h⟩ | ⟨_, rfl⟩
      · cases h
      · exact hb (.inl rfl)
    cases hv : numEnd m (numGo t 0) with
    | none => split <;> rfl
    | some n =>
      have hs := key n hv
      have hlen : s.length ≤ 20 := by
        rw [← hs]
        obtain ⟨v, hv1, hv2⟩ := numEnd_some hv
        obtain ⟨hd, hval, hlo⟩ := numGo_val hv1
        unfold dec
        split
        · have := decNat_len 18 (-n).toNat (by omega)
          simp only [List.length_cons]; omega
        · have := decNat_len 18 n.toNat (by omega)
          omega
      rw [if_neg (by omega)]
      simp [hs]
/-- What is no number's text by the program is none by its text, and the other way round. -/
theorem wNum_eq (s : Bs) : wNum s = rNum s := by
  rcases pre_cases s with ⟨t, hs, hm, ht⟩ | ⟨hs, hm, ht⟩
  · unfold wNum rNum numV
    rw [hm, ht]
    exact core_eq s t true (.inl ⟨rfl, hs⟩)
  · unfold wNum rNum numV
    rw [hm, ht]
    exact core_eq s s false (.inr ⟨rfl, rfl⟩)

end Ows
/- The other side's text of a word, as a plain function. -/
namespace Ows

/-- What a word may stand for. -/
def rbGo : Bs → Bs
  | [] => []
  | [c] => [c]
  | [c, h] => [c, h]
  | c :: h :: l :: r => if c = 37 then (16 * hz h + hz l).toNat.toUInt8 :: rbGo r else c :: rbGo (h :: l :: r)
/-- The text, if its word is that. -/
def rBare (w : Bs) : Option Bs := if quote (if w = [45] then [] else rbGo w) = w then some (if w = [45] then [] else rbGo w) else none
theorem rbGo_cons (c : UInt8) (r : Bs) (h : c ≠ 37 ∨ r.length < 2) : rbGo (c :: r) = c :: rbGo r := by
  rcases r with _ | ⟨a, _ | ⟨b, r⟩⟩
  · rfl
  · rfl
  · rcases h with h | h
    · simp only [rbGo, if_neg h]
    · simp at h; omega
theorem hz_lt (c : UInt8) : 0 ≤ hz c ∧ hz c ≤ 15 := by
  have h : ∀ n : Fin 256, 0 ≤ hz (UInt8.ofNat n.val) ∧ hz (UInt8.ofNat n.val) ≤ 15 := by decide +kernel
  have := h ⟨c.toNat, c.toNat_lt⟩
  simpa using this

end Ows
/- Both readers of a text's word agree. -/
namespace Ows

theorem hexd_hv (c : UInt8) (h : 0 ≤ hv c) : hexd (hv c).toNat = c := by
  have h2 : ∀ n : Fin 256, 0 ≤ hv (UInt8.ofNat n.val) → hexd (hv (UInt8.ofNat n.val)).toNat = UInt8.ofNat n.val := by decide +kernel
  have := h2 ⟨c.toNat, c.toNat_lt⟩
  simp only [UInt8.ofNat_toNat] at this
  exact this h
theorem hv_hexd (a : Nat) (h : a < 16) : hv (hexd a) = a := by
  have h2 : ∀ x : Fin 16, hv (hexd x.val) = (x.val : Int) := by decide +kernel
  exact h2 ⟨a, h⟩
theorem hv_le (c : UInt8) : hv c ≤ 15 := by
  have h : ∀ n : Fin 256, hv (UInt8.ofNat n.val) ≤ 15 := by decide +kernel
  have := h ⟨c.toNat, c.toNat_lt⟩
  simpa using this
theorem plain37 : plainI ((37 : UInt8).toNat : Int) = false := by decide
theorem bareGo_37 (h l : UInt8) (r : Bs) : bareGo (37 :: h :: l :: r) = if hv h < 0 ∨ hv l < 0 ∨ plainI (16 * hv h + hv l) = true then none else (bareGo r).map ((16 * hv h + hv l).toNat.toUInt8 :: ·) := by
  rw [bareGo.eq_def]
  simp only [plain37, ne_eq, not_true_eq_false, if_false, Bool.false_eq_true]
theorem bareGo_37a : bareGo [37] = none := by
  rw [bareGo.eq_def]
  simp only [plain37, ne_eq, not_true_eq_false, if_false, Bool.false_eq_true]
theorem bareGo_37b (h : UInt8) : bareGo [37, h] = none := by
  rw [bareGo.eq_def]
  simp only [plain37, ne_eq, not_true_eq_false, if_false, Bool.false_eq_true]
theorem bareGo_out : ∀ (n : Nat) (w : Bs), w.length ≤ n → ∀ b, bareGo w = some b → quoteL b = w ∧ rbGo w = b := by
  intro n
  induction n with
  | zero =>
    intro w hw b h
    have : w = [] := List.length_eq_zero_iff.1 (by omega)
    subst this
    simp only [bareGo, Option.some.injEq] at h
    subst h
    exact ⟨rfl, rfl⟩
  | succ n ih =>
    intro w hw b h
    rcases w with _ | ⟨c, r⟩
    · simp only [bareGo, Option.some.injEq] at h
      subst h
      exact ⟨rfl, rfl⟩
    · simp only [List.length_cons] at hw
      by_cases hp : plainI (c.toNat : Int) = true
      · rw [bareGo.eq_def] at h
        simp only [hp, if_true] at h
        obtain ⟨b', hb', rfl⟩ := Option.map_eq_some_iff.1 h
        obtain ⟨h1, h2⟩ := ih r (by omega) b' hb'
        have hc : c ≠ 37 := fun e => by rw [e, plain37] at hp; cases hp
        refine ⟨?_, by rw [rbGo_cons _ _ (.inl hc), h2]⟩
        show quoteC c ++ quoteL b' = _
        rw [h1, quoteC, if_pos hp]; rfl
      · by_cases hc : c = 37
        · subst hc
          rcases r with _ | ⟨h', _ | ⟨l', r⟩⟩
          · rw [bareGo_37a] at h; cases h
          · rw [bareGo_37b] at h; cases h
          · rw [bareGo_37] at h
            split at h
            · cases h
            · rename_i hx
              obtain ⟨b', hb', rfl⟩ := Option.map_eq_some_iff.1 h
              simp only [List.length_cons] at hw
              obtain ⟨h1, h2⟩ := ih r (by omega) b' hb'
              have g1 : 0 ≤ hv h' := by omega
              have g2 : 0 ≤ hv l' := by omega
              have k1 := hv_le h'
              have k2 := hv_le l'
              have hpx : ¬ plainI (16 * hv h' + hv l') = true := fun e => hx (.inr (.inr e))
              have ex : (((16 * hv h' + hv l').toNat.toUInt8).toNat : Int) = 16 * hv h' + hv l' := by simp; omega
              have ez1 : hz h' = hv h' := if_neg (by omega)
              have ez2 : hz l' = hv l' := if_neg (by omega)
              refine ⟨?_, by simp only [rbGo, if_true, h2, ez1, ez2]⟩
              show quoteC _ ++ quoteL b' = _
              rw [h1, quoteC, ex, if_neg hpx]
              have e1 : ((16 * hv h' + hv l').toNat.toUInt8).toNat / 16 = (hv h').toNat := by omega
              have e2 : ((16 * hv h' + hv l').toNat.toUInt8).toNat % 16 = (hv l').toNat := by omega
              rw [e1, e2, hexd_hv _ g1, hexd_hv _ g2]
              rfl
        · rw [bareGo.eq_def] at h
          simp only [hp, ne_eq, hc, not_false_eq_true, if_true] at h
          cases h
theorem bareGo_in : ∀ b : Bs, bareGo (quoteL b) = some b := by
  intro b
  induction b with
  | nil => rfl
  | cons c b ih =>
    show bareGo (quoteC c ++ quoteL b) = _
    unfold quoteC
    by_cases hp : plainI (c.toNat : Int) = true
    · rw [if_pos hp]
      simp only [List.cons_append, List.nil_append]
      rw [bareGo.eq_def]
      simp only [hp, if_true, ih, Option.map_some]
    · rw [if_neg hp]
      simp only [List.cons_append, List.nil_append]
      have hlt := c.toNat_lt
      have ex : 16 * (((c.toNat / 16 : Nat) : Int)) + ((c.toNat % 16 : Nat) : Int) = (c.toNat : Int) := by omega
      rw [bareGo_37, hv_hexd _ (show c.toNat / 16 < 16 by omega), hv_hexd _ (show c.toNat % 16 < 16 by omega), ex, if_neg (by rintro (h | h | h); omega; omega; exact hp h), ih]
      simp
theorem wBare_eq (w : Bs) : wBare w = rBare w := by
  unfold wBare rBare
  by_cases h45 : w = [45]
  · rw [if_pos h45, if_pos h45, if_pos (by rw [h45]; rfl)]
  · rw [if_neg h45, if_neg h45]
    cases hb : bareGo w with
    | none =>
      simp only [Option.bind_none]
      rw [if_neg]
      intro hq
      unfold quote at hq
      split at hq
      · exact h45 hq.symm
      · rw [← hq, bareGo_in] at hb
        cases hb
    | some b =>
      obtain ⟨h1, h2⟩ := bareGo_out _ w (Nat.le_refl _) b hb
      simp only [Option.bind_some]
      rw [h2]
      by_cases hb0 : b = []
      · rw [if_pos hb0, if_neg]
        rw [hb0] at h1 ⊢
        intro h
        exact h45 h.symm
      · rw [if_neg hb0, if_pos (by rw [quote, if_neg hb0, h1])]

end Ows
/- A line's words, as a plain function. -/
namespace Ows

/-- One byte more: a space begins a word. -/
def addC (acc : List Bs) (c : UInt8) : List Bs := if c = 32 then acc ++ [[]] else acc.set (acc.length - 1) (acc.getD (acc.length - 1) [] ++ [c])
def splitF (l : Bs) : List Bs := l.foldl addC [[]]
/-- A line's words. -/
def rSplit (l : Bs) : List Bs := if l = [] then [] else splitF l
theorem addC_len (acc : List Bs) (c : UInt8) : acc.length ≤ (addC acc c).length ∧ (addC acc c).length ≤ acc.length + 1 := by unfold addC; split <;> simp
theorem splitF_snoc (l : Bs) (c : UInt8) : splitF (l ++ [c]) = addC (splitF l) c := by simp [splitF]
theorem splitF_len (l : Bs) : 1 ≤ (splitF l).length ∧ (splitF l).length ≤ l.length + 1 := by
  have h : ∀ (l : Bs) (a : List Bs), a.length ≤ (l.foldl addC a).length ∧ (l.foldl addC a).length ≤ a.length + l.length := by
    intro l
    induction l with
    | nil => intro a; simp
    | cons c r ih =>
      intro a
      have h1 := addC_len a c
      have h2 := ih (addC a c)
      simp only [List.foldl_cons, List.length_cons]
      omega
  have := h l [[]]
  simp only [splitF, List.length_singleton] at *
  omega
theorem splitF_bytes (l : Bs) (k : Nat) : ((splitF l).getD k []).length ≤ l.length := by
  have h : ∀ (l : Bs) (a : List Bs) (m : Nat), (∀ k, (a.getD k []).length ≤ m) → ∀ k, ((l.foldl addC a).getD k []).length ≤ m + l.length := by
    intro l
    induction l with
    | nil => intro a m h k; simpa using h k
    | cons c r ih =>
      intro a m h k
      have := ih (addC a c) (m + 1) (fun j => by
        unfold addC
        split
        · simp only [List.getD_eq_getElem?_getD, List.getElem?_append]
          split
          · have := h j; rw [List.getD_eq_getElem?_getD] at this; omega
          · rcases j - a.length with _ | n <;> simp
        · simp only [List.getD_eq_getElem?_getD, List.getElem?_set]
          have h1 := h j
          have h2 := h (a.length - 1)
          rw [List.getD_eq_getElem?_getD] at h1 h2
          split
          · split
            · simp; omega
            · simp
          · omega) k
      simp only [List.foldl_cons, List.length_cons]
      omega
  have := h l [[]] 0 (fun k => by rcases k with _ | k <;> simp) k
  simpa [splitF] using this

end Ows
/- Both readers of a line's words agree. -/
namespace Ows
open Go

/-- The first word, and the others. -/
def sp : Bs → Bs × List Bs
  | [] => ([], [])
  | c :: r => if c = 32 then ([], (sp r).1 :: (sp r).2) else (c :: (sp r).1, (sp r).2)
theorem addC_space (pre : List Bs) (x : Bs) : addC (pre ++ [x]) 32 = pre ++ [x] ++ [[]] := if_pos rfl
theorem addC_other (pre : List Bs) (x : Bs) (c : UInt8) (h : c ≠ 32) : addC (pre ++ [x]) c = pre ++ [x ++ [c]] := by
  unfold addC
  rw [if_neg h]
  simp [List.getD_eq_getElem?_getD]
theorem fold_sp : ∀ (l : Bs) (pre : List Bs) (x : Bs), l.foldl addC (pre ++ [x]) = pre ++ (x ++ (sp l).1) :: (sp l).2 := by
  intro l
  induction l with
  | nil => intro pre x; simp [sp]
  | cons c r ih =>
    intro pre x
    rw [List.foldl_cons]
    by_cases h : c = 32
    · subst h
      rw [addC_space, ih]
      simp [sp]
    · rw [addC_other _ _ _ h, ih]
      simp [sp, h]
theorem splitF_sp (l : Bs) : splitF l = (sp l).1 :: (sp l).2 := by
  have := fold_sp l [] []
  simpa [splitF] using this
theorem splitK_sp : ∀ l : Bs, Lib.splitK [32] 0 (Lib.count l [32]) l = (sp l).1 :: (sp l).2 := by
  intro l
  induction l with
  | nil => rfl
  | cons c r ih =>
    by_cases h : c = 32
    · subst h
      have hi : Lib.index (32 :: r) [32] = ((0 : Nat) : Int) := by simp [Lib.index, List.isPrefixOf]
      rw [Lib.count_hit (by simp) hi, Nat.add_comm]
      simp only [Lib.splitK]
      rw [hi]
      simp only [sp, if_true]
      rw [if_neg (by decide)]
      simpa using ih
    · have hix : Lib.index (c :: r) [32] = if Lib.index r [32] == -1 then -1 else Lib.index r [32] + 1 := by
        simp [Lib.index, List.isPrefixOf, Ne.symm h]
      simp only [sp, h, if_false]
      rcases Lib.index_spec r [32] with ⟨hm, _⟩ | ⟨i, hm, _⟩
      · rw [hm] at hix
        have hm2 : Lib.index (c :: r) [32] = -1 := hix
        rw [Lib.count_miss hm] at ih
        rw [Lib.count_miss hm2]
        simp only [Lib.splitK, List.cons.injEq] at ih ⊢
        exact ⟨by rw [← ih.1]; exact ⟨trivial, rfl⟩, ih.2⟩
      · rw [hm] at hix
        have hm2 : Lib.index (c :: r) [32] = ((i + 1 : Nat) : Int) := by
          rw [hix, if_neg (by simp)]
          omega
        rw [Lib.count_hit (by simp) hm, Nat.add_comm] at ih
        rw [Lib.count_hit (by simp) hm2, Nat.add_comm]
        simp only [Lib.splitK] at ih ⊢
        rw [hm, if_neg (by simp)] at ih
        rw [hm2, if_neg (by simp; omega)]
        have e1 : ((i + 1 : Nat) : Int).toNat = i + 1 := by omega
        have e2 : ((i : Nat) : Int).toNat = i := by omega
        rw [e2] at ih
        rw [e1]
        simp only [List.cons.injEq, List.length_singleton, Nat.add_zero, List.take_succ_cons] at ih ⊢
        refine ⟨by rw [ih.1]; exact ⟨trivial, rfl⟩, ?_⟩
        rw [← ih.2]
        have e3 : (c :: r).drop (i + 1 + 1) = r.drop (i + 1) := rfl
        rw [e3]
theorem split_eq (l : Bs) : Lib.splitK [32] 0 (Lib.count l [32]) l = splitF l := by rw [splitK_sp, splitF_sp]

end Ows
/- Facts, queries, policies and steps as data: what a value's cells say. -/
namespace Go.Proofs.YtnkcgoaafpnbjaaDoor
open Go.RowKit Go.Proofs.YtnkcgoaafpnbjaaDoorW.PrintWords
set_option linter.unusedVariables false

/-! #### [4]bool -/
structure B4 where
  f0 : Bool
  f1 : Bool
  f2 : Bool
  f3 : Bool
def zB4 : B4 := ⟨false, false, false, false⟩
def kB4 : Kd B4 := Kd.iso (Kd.pair Kd.bool (Kd.pair Kd.bool (Kd.pair Kd.bool Kd.bool))) (fun x : B4 => (x.f0, x.f1, x.f2, x.f3))
theorem kB4_open {w : World} {x : B4} {cs : List Value} (h : kB4.K w x cs) : cs = [.bool x.f0, .bool x.f1, .bool x.f2, .bool x.f3] := by
  obtain ⟨_, _, rfl, rfl, ⟨_, _, rfl, rfl, ⟨_, _, rfl, rfl, rfl⟩⟩⟩ := h
  exact rfl
theorem kB4_openM {w : World} {base : Nat} {ok : Nat → Prop} {x : B4} {cs : List Value} (h : kB4.M w base ok x cs) : cs = [.bool x.f0, .bool x.f1, .bool x.f2, .bool x.f3] := by
  obtain ⟨_, _, rfl, rfl, ⟨_, _, rfl, rfl, ⟨_, _, rfl, rfl, rfl⟩⟩⟩ := h
  exact rfl
theorem kB4_mk (w : World) (x : B4)  : kB4.K w x [.bool x.f0, .bool x.f1, .bool x.f2, .bool x.f3] := ⟨[.bool x.f0], [.bool x.f1, .bool x.f2, .bool x.f3], rfl, rfl, ⟨[.bool x.f1], [.bool x.f2, .bool x.f3], rfl, rfl, ⟨[.bool x.f2], [.bool x.f3], rfl, rfl, rfl⟩⟩⟩
theorem kB4_mkM (w : World) (base : Nat) (ok : Nat → Prop) (x : B4)  : kB4.M w base ok x [.bool x.f0, .bool x.f1, .bool x.f2, .bool x.f3] := ⟨[.bool x.f0], [.bool x.f1, .bool x.f2, .bool x.f3], rfl, rfl, ⟨[.bool x.f1], [.bool x.f2, .bool x.f3], rfl, rfl, ⟨[.bool x.f2], [.bool x.f3], rfl, rfl, rfl⟩⟩⟩
def rd_B4 (xs : List B4) (i : Int) : B4 := xs.getD i.toNat zB4
theorem at_B4 {w : World} {A : Option Addr} {n : Nat} {xs : List B4} (h : Kd.C kB4 w A n xs) (i : Int) (h0 : 0 ≤ i) (h1 : i < n) : ∃ ad , A = some ad ∧ w.cell? (ad.add (i.toNat * 4)) = some (.bool (rd_B4 xs i).f0) ∧ w.cell? ⟨(ad.add (i.toNat * 4)).block, (ad.add (i.toNat * 4)).off + 1, none⟩ = some (.bool (rd_B4 xs i).f1) ∧ w.cell? ⟨(ad.add (i.toNat * 4)).block, (ad.add (i.toNat * 4)).off + 2, none⟩ = some (.bool (rd_B4 xs i).f2) ∧ w.cell? ⟨(ad.add (i.toNat * 4)).block, (ad.add (i.toNat * 4)).off + 3, none⟩ = some (.bool (rd_B4 xs i).f3) := by
  obtain ⟨ad, c, e, _, hK, hc0⟩ := Kd.C_get h zB4 i h0 h1
  have hc : ∀ j u, c[j]? = some u → w.cell? (ad.add (i.toNat * 4 + j)) = some u := hc0
  obtain rfl := kB4_open hK
  exact ⟨ad, e, hc 0 _ rfl, by rw [← add_field _ _ 1 (by omega)]; exact hc 1 _ rfl, by rw [← add_field _ _ 2 (by omega)]; exact hc 2 _ rfl, by rw [← add_field _ _ 3 (by omega)]; exact hc 3 _ rfl⟩

/-! #### [4]string -/
structure T4 where
  f0 : ByteArray
  f1 : ByteArray
  f2 : ByteArray
  f3 : ByteArray
def zT4 : T4 := ⟨(⟨#[]⟩ : ByteArray), (⟨#[]⟩ : ByteArray), (⟨#[]⟩ : ByteArray), (⟨#[]⟩ : ByteArray)⟩
def kT4 : Kd T4 := Kd.iso (Kd.pair Kd.string (Kd.pair Kd.string (Kd.pair Kd.string Kd.string))) (fun x : T4 => (x.f0, x.f1, x.f2, x.f3))
theorem kT4_open {w : World} {x : T4} {cs : List Value} (h : kT4.K w x cs) : cs = [.string x.f0, .string x.f1, .string x.f2, .string x.f3] := by
  obtain ⟨_, _, rfl, rfl, ⟨_, _, rfl, rfl, ⟨_, _, rfl, rfl, rfl⟩⟩⟩ := h
  exact rfl
theorem kT4_openM {w : World} {base : Nat} {ok : Nat → Prop} {x : T4} {cs : List Value} (h : kT4.M w base ok x cs) : cs = [.string x.f0, .string x.f1, .string x.f2, .string x.f3] := by
  obtain ⟨_, _, rfl, rfl, ⟨_, _, rfl, rfl, ⟨_, _, rfl, rfl, rfl⟩⟩⟩ := h
  exact rfl
theorem kT4_mk (w : World) (x : T4)  : kT4.K w x [.string x.f0, .string x.f1, .string x.f2, .string x.f3] := ⟨[.string x.f0], [.string x.f1, .string x.f2, .string x.f3], rfl, rfl, ⟨[.string x.f1], [.string x.f2, .string x.f3], rfl, rfl, ⟨[.string x.f2], [.string x.f3], rfl, rfl, rfl⟩⟩⟩
theorem kT4_mkM (w : World) (base : Nat) (ok : Nat → Prop) (x : T4)  : kT4.M w base ok x [.string x.f0, .string x.f1, .string x.f2, .string x.f3] := ⟨[.string x.f0], [.string x.f1, .string x.f2, .string x.f3], rfl, rfl, ⟨[.string x.f1], [.string x.f2, .string x.f3], rfl, rfl, ⟨[.string x.f2], [.string x.f3], rfl, rfl, rfl⟩⟩⟩
def rd_T4 (xs : List T4) (i : Int) : T4 := xs.getD i.toNat zT4
theorem at_T4 {w : World} {A : Option Addr} {n : Nat} {xs : List T4} (h : Kd.C kT4 w A n xs) (i : Int) (h0 : 0 ≤ i) (h1 : i < n) : ∃ ad , A = some ad ∧ w.cell? (ad.add (i.toNat * 4)) = some (.string (rd_T4 xs i).f0) ∧ w.cell? ⟨(ad.add (i.toNat * 4)).block, (ad.add (i.toNat * 4)).off + 1, none⟩ = some (.string (rd_T4 xs i).f1) ∧ w.cell? ⟨(ad.add (i.toNat * 4)).block, (ad.add (i.toNat * 4)).off + 2, none⟩ = some (.string (rd_T4 xs i).f2) ∧ w.cell? ⟨(ad.add (i.toNat * 4)).block, (ad.add (i.toNat * 4)).off + 3, none⟩ = some (.string (rd_T4 xs i).f3) := by
  obtain ⟨ad, c, e, _, hK, hc0⟩ := Kd.C_get h zT4 i h0 h1
  have hc : ∀ j u, c[j]? = some u → w.cell? (ad.add (i.toNat * 4 + j)) = some u := hc0
  obtain rfl := kT4_open hK
  exact ⟨ad, e, hc 0 _ rfl, by rw [← add_field _ _ 1 (by omega)]; exact hc 1 _ rfl, by rw [← add_field _ _ 2 (by omega)]; exact hc 2 _ rfl, by rw [← add_field _ _ 3 (by omega)]; exact hc 3 _ rfl⟩

/-! #### api.Key = ossuary/api.Key -/
structure Key where
  f0 : Int
  f1 : T4
def zKey : Key := ⟨(0 : Int), zT4⟩
def kKey : Kd Key := Kd.iso (Kd.pair (Kd.int .i64) kT4) (fun x : Key => (x.f0, x.f1))
theorem kKey_open {w : World} {x : Key} {cs : List Value} (h : kKey.K w x cs) : cs = [.int .i64 x.f0, .string x.f1.f0, .string x.f1.f1, .string x.f1.f2, .string x.f1.f3] := by
  obtain ⟨_, _, rfl, rfl, s1⟩ := h
  obtain rfl := kT4_open s1
  exact rfl
theorem kKey_openM {w : World} {base : Nat} {ok : Nat → Prop} {x : Key} {cs : List Value} (h : kKey.M w base ok x cs) : cs = [.int .i64 x.f0, .string x.f1.f0, .string x.f1.f1, .string x.f1.f2, .string x.f1.f3] := by
  obtain ⟨_, _, rfl, rfl, s1⟩ := h
  obtain rfl := kT4_openM s1
  exact rfl
theorem kKey_mk (w : World) (x : Key)  : kKey.K w x [.int .i64 x.f0, .string x.f1.f0, .string x.f1.f1, .string x.f1.f2, .string x.f1.f3] := ⟨[.int .i64 x.f0], [.string x.f1.f0, .string x.f1.f1, .string x.f1.f2, .string x.f1.f3], rfl, rfl, (kT4_mk w x.f1 )⟩
theorem kKey_mkM (w : World) (base : Nat) (ok : Nat → Prop) (x : Key)  : kKey.M w base ok x [.int .i64 x.f0, .string x.f1.f0, .string x.f1.f1, .string x.f1.f2, .string x.f1.f3] := ⟨[.int .i64 x.f0], [.string x.f1.f0, .string x.f1.f1, .string x.f1.f2, .string x.f1.f3], rfl, rfl, (kT4_mkM w base ok x.f1 )⟩
def rd_Key (xs : List Key) (i : Int) : Key := xs.getD i.toNat zKey
theorem at_Key {w : World} {A : Option Addr} {n : Nat} {xs : List Key} (h : Kd.C kKey w A n xs) (i : Int) (h0 : 0 ≤ i) (h1 : i < n) : ∃ ad , A = some ad ∧ w.cell? (ad.add (i.toNat * 5)) = some (.int .i64 (rd_Key xs i).f0) ∧ w.cell? ⟨(ad.add (i.toNat * 5)).block, (ad.add (i.toNat * 5)).off + 1, none⟩ = some (.string (rd_Key xs i).f1.f0) ∧ w.cell? ⟨(ad.add (i.toNat * 5)).block, (ad.add (i.toNat * 5)).off + 2, none⟩ = some (.string (rd_Key xs i).f1.f1) ∧ w.cell? ⟨(ad.add (i.toNat * 5)).block, (ad.add (i.toNat * 5)).off + 3, none⟩ = some (.string (rd_Key xs i).f1.f2) ∧ w.cell? ⟨(ad.add (i.toNat * 5)).block, (ad.add (i.toNat * 5)).off + 4, none⟩ = some (.string (rd_Key xs i).f1.f3) := by
  obtain ⟨ad, c, e, _, hK, hc0⟩ := Kd.C_get h zKey i h0 h1
  have hc : ∀ j u, c[j]? = some u → w.cell? (ad.add (i.toNat * 5 + j)) = some u := hc0
  obtain rfl := kKey_open hK
  exact ⟨ad, e, hc 0 _ rfl, by rw [← add_field _ _ 1 (by omega)]; exact hc 1 _ rfl, by rw [← add_field _ _ 2 (by omega)]; exact hc 2 _ rfl, by rw [← add_field _ _ 3 (by omega)]; exact hc 3 _ rfl, by rw [← add_field _ _ 4 (by omega)]; exact hc 4 _ rfl⟩

/-! #### api.Fact = ossuary/api.Fact -/
structure Fct where
  f0 : Key
  f1 : Int
def zFct : Fct := ⟨zKey, (0 : Int)⟩
def kFct : Kd Fct := Kd.iso (Kd.pair kKey (Kd.int .i64)) (fun x : Fct => (x.f0, x.f1))
theorem kFct_open {w : World} {x : Fct} {cs : List Value} (h : kFct.K w x cs) : cs = [.int .i64 x.f0.f0, .string x.f0.f1.f0, .string x.f0.f1.f1, .string x.f0.f1.f2, .string x.f0.f1.f3, .int .i64 x.f1] := by
  obtain ⟨_, _, rfl, s0, rfl⟩ := h
  obtain rfl := kKey_open s0
  exact rfl
theorem kFct_openM {w : World} {base : Nat} {ok : Nat → Prop} {x : Fct} {cs : List Value} (h : kFct.M w base ok x cs) : cs = [.int .i64 x.f0.f0, .string x.f0.f1.f0, .string x.f0.f1.f1, .string x.f0.f1.f2, .string x.f0.f1.f3, .int .i64 x.f1] := by
  obtain ⟨_, _, rfl, s0, rfl⟩ := h
  obtain rfl := kKey_openM s0
  exact rfl
theorem kFct_mk (w : World) (x : Fct)  : kFct.K w x [.int .i64 x.f0.f0, .string x.f0.f1.f0, .string x.f0.f1.f1, .string x.f0.f1.f2, .string x.f0.f1.f3, .int .i64 x.f1] := ⟨[.int .i64 x.f0.f0, .string x.f0.f1.f0, .string x.f0.f1.f1, .string x.f0.f1.f2, .string x.f0.f1.f3], [.int .i64 x.f1], rfl, (kKey_mk w x.f0 ), rfl⟩
theorem kFct_mkM (w : World) (base : Nat) (ok : Nat → Prop) (x : Fct)  : kFct.M w base ok x [.int .i64 x.f0.f0, .string x.f0.f1.f0, .string x.f0.f1.f1, .string x.f0.f1.f2, .string x.f0.f1.f3, .int .i64 x.f1] := ⟨[.int .i64 x.f0.f0, .string x.f0.f1.f0, .string x.f0.f1.f1, .string x.f0.f1.f2, .string x.f0.f1.f3], [.int .i64 x.f1], rfl, (kKey_mkM w base ok x.f0 ), rfl⟩
def rd_Fct (xs : List Fct) (i : Int) : Fct := xs.getD i.toNat zFct
theorem at_Fct {w : World} {A : Option Addr} {n : Nat} {xs : List Fct} (h : Kd.C kFct w A n xs) (i : Int) (h0 : 0 ≤ i) (h1 : i < n) : ∃ ad , A = some ad ∧ w.cell? (ad.add (i.toNat * 6)) = some (.int .i64 (rd_Fct xs i).f0.f0) ∧ w.cell? ⟨(ad.add (i.toNat * 6)).block, (ad.add (i.toNat * 6)).off + 1, none⟩ = some (.string (rd_Fct xs i).f0.f1.f0) ∧ w.cell? ⟨(ad.add (i.toNat * 6)).block, (ad.add (i.toNat * 6)).off + 2, none⟩ = some (.string (rd_Fct xs i).f0.f1.f1) ∧ w.cell? ⟨(ad.add (i.toNat * 6)).block, (ad.add (i.toNat * 6)).off + 3, none⟩ = some (.string (rd_Fct xs i).f0.f1.f2) ∧ w.cell? ⟨(ad.add (i.toNat * 6)).block, (ad.add (i.toNat * 6)).off + 4, none⟩ = some (.string (rd_Fct xs i).f0.f1.f3) ∧ w.cell? ⟨(ad.add (i.toNat * 6)).block, (ad.add (i.toNat * 6)).off + 5, none⟩ = some (.int .i64 (rd_Fct xs i).f1) := by
  obtain ⟨ad, c, e, _, hK, hc0⟩ := Kd.C_get h zFct i h0 h1
  have hc : ∀ j u, c[j]? = some u → w.cell? (ad.add (i.toNat * 6 + j)) = some u := hc0
  obtain rfl := kFct_open hK
  exact ⟨ad, e, hc 0 _ rfl, by rw [← add_field _ _ 1 (by omega)]; exact hc 1 _ rfl, by rw [← add_field _ _ 2 (by omega)]; exact hc 2 _ rfl, by rw [← add_field _ _ 3 (by omega)]; exact hc 3 _ rfl, by rw [← add_field _ _ 4 (by omega)]; exact hc 4 _ rfl, by rw [← add_field _ _ 5 (by omega)]; exact hc 5 _ rfl⟩

/-! #### api.Query = ossuary/api.Query -/
structure Qry where
  f0 : Int
  f1 : Int
  f2 : B4
  f3 : B4
  f4 : T4
def zQry : Qry := ⟨(0 : Int), (0 : Int), zB4, zB4, zT4⟩
def kQry : Kd Qry := Kd.iso (Kd.pair (Kd.int .i64) (Kd.pair (Kd.int .i64) (Kd.pair kB4 (Kd.pair kB4 kT4)))) (fun x : Qry => (x.f0, x.f1, x.f2, x.f3, x.f4))
theorem kQry_open {w : World} {x : Qry} {cs : List Value} (h : kQry.K w x cs) : cs = [.int .i64 x.f0, .int .i64 x.f1, .bool x.f2.f0, .bool x.f2.f1, .bool x.f2.f2, .bool x.f2.f3, .bool x.f3.f0, .bool x.f3.f1, .bool x.f3.f2, .bool x.f3.f3, .string x.f4.f0, .string x.f4.f1, .string x.f4.f2, .string x.f4.f3] := by
  obtain ⟨_, _, rfl, rfl, ⟨_, _, rfl, rfl, ⟨_, _, rfl, s2, ⟨_, _, rfl, s6, s10⟩⟩⟩⟩ := h
  obtain rfl := kB4_open s2
  obtain rfl := kB4_open s6
  obtain rfl := kT4_open s10
  exact rfl
theorem kQry_openM {w : World} {base : Nat} {ok : Nat → Prop} {x : Qry} {cs : List Value} (h : kQry.M w base ok x cs) : cs = [.int .i64 x.f0, .int .i64 x.f1, .bool x.f2.f0, .bool x.f2.f1, .bool x.f2.f2, .bool x.f2.f3, .bool x.f3.f0, .bool x.f3.f1, .bool x.f3.f2, .bool x.f3.f3, .string x.f4.f0, .string x.f4.f1, .string x.f4.f2, .string x.f4.f3] := by
  obtain ⟨_, _, rfl, rfl, ⟨_, _, rfl, rfl, ⟨_, _, rfl, s2, ⟨_, _, rfl, s6, s10⟩⟩⟩⟩ := h
  obtain rfl := kB4_openM s2
  obtain rfl := kB4_openM s6
  obtain rfl := kT4_openM s10
  exact rfl
theorem kQry_mk (w : World) (x : Qry)  : kQry.K w x [.int .i64 x.f0, .int .i64 x.f1, .bool x.f2.f0, .bool x.f2.f1, .bool x.f2.f2, .bool x.f2.f3, .bool x.f3.f0, .bool x.f3.f1, .bool x.f3.f2, .bool x.f3.f3, .string x.f4.f0, .string x.f4.f1, .string x.f4.f2, .string x.f4.f3] := ⟨[.int .i64 x.f0], [.int .i64 x.f1, .bool x.f2.f0, .bool x.f2.f1, .bool x.f2.f2, .bool x.f2.f3, .bool x.f3.f0, .bool x.f3.f1, .bool x.f3.f2, .bool x.f3.f3, .string x.f4.f0, .string x.f4.f1, .string x.f4.f2, .string x.f4.f3], rfl, rfl, ⟨[.int .i64 x.f1], [.bool x.f2.f0, .bool x.f2.f1, .bool x.f2.f2, .bool x.f2.f3, .bool x.f3.f0, .bool x.f3.f1, .bool x.f3.f2, .bool x.f3.f3, .string x.f4.f0, .string x.f4.f1, .string x.f4.f2, .string x.f4.f3], rfl, rfl, ⟨[.bool x.f2.f0, .bool x.f2.f1, .bool x.f2.f2, .bool x.f2.f3], [.bool x.f3.f0, .bool x.f3.f1, .bool x.f3.f2, .bool x.f3.f3, .string x.f4.f0, .string x.f4.f1, .string x.f4.f2, .string x.f4.f3], rfl, (kB4_mk w x.f2 ), ⟨[.bool x.f3.f0, .bool x.f3.f1, .bool x.f3.f2, .bool x.f3.f3], [.string x.f4.f0, .string x.f4.f1, .string x.f4.f2, .string x.f4.f3], rfl, (kB4_mk w x.f3 ), (kT4_mk w x.f4 )⟩⟩⟩⟩
theorem kQry_mkM (w : World) (base : Nat) (ok : Nat → Prop) (x : Qry)  : kQry.M w base ok x [.int .i64 x.f0, .int .i64 x.f1, .bool x.f2.f0, .bool x.f2.f1, .bool x.f2.f2, .bool x.f2.f3, .bool x.f3.f0, .bool x.f3.f1, .bool x.f3.f2, .bool x.f3.f3, .string x.f4.f0, .string x.f4.f1, .string x.f4.f2, .string x.f4.f3] := ⟨[.int .i64 x.f0], [.int .i64 x.f1, .bool x.f2.f0, .bool x.f2.f1, .bool x.f2.f2, .bool x.f2.f3, .bool x.f3.f0, .bool x.f3.f1, .bool x.f3.f2, .bool x.f3.f3, .string x.f4.f0, .string x.f4.f1, .string x.f4.f2, .string x.f4.f3], rfl, rfl, ⟨[.int .i64 x.f1], [.bool x.f2.f0, .bool x.f2.f1, .bool x.f2.f2, .bool x.f2.f3, .bool x.f3.f0, .bool x.f3.f1, .bool x.f3.f2, .bool x.f3.f3, .string x.f4.f0, .string x.f4.f1, .string x.f4.f2, .string x.f4.f3], rfl, rfl, ⟨[.bool x.f2.f0, .bool x.f2.f1, .bool x.f2.f2, .bool x.f2.f3], [.bool x.f3.f0, .bool x.f3.f1, .bool x.f3.f2, .bool x.f3.f3, .string x.f4.f0, .string x.f4.f1, .string x.f4.f2, .string x.f4.f3], rfl, (kB4_mkM w base ok x.f2 ), ⟨[.bool x.f3.f0, .bool x.f3.f1, .bool x.f3.f2, .bool x.f3.f3], [.string x.f4.f0, .string x.f4.f1, .string x.f4.f2, .string x.f4.f3], rfl, (kB4_mkM w base ok x.f3 ), (kT4_mkM w base ok x.f4 )⟩⟩⟩⟩
def rd_Qry (xs : List Qry) (i : Int) : Qry := xs.getD i.toNat zQry
theorem at_Qry {w : World} {A : Option Addr} {n : Nat} {xs : List Qry} (h : Kd.C kQry w A n xs) (i : Int) (h0 : 0 ≤ i) (h1 : i < n) : ∃ ad , A = some ad ∧ w.cell? (ad.add (i.toNat * 14)) = some (.int .i64 (rd_Qry xs i).f0) ∧ w.cell? ⟨(ad.add (i.toNat * 14)).block, (ad.add (i.toNat * 14)).off + 1, none⟩ = some (.int .i64 (rd_Qry xs i).f1) ∧ w.cell? ⟨(ad.add (i.toNat * 14)).block, (ad.add (i.toNat * 14)).off + 2, none⟩ = some (.bool (rd_Qry xs i).f2.f0) ∧ w.cell? ⟨(ad.add (i.toNat * 14)).block, (ad.add (i.toNat * 14)).off + 3, none⟩ = some (.bool (rd_Qry xs i).f2.f1) ∧ w.cell? ⟨(ad.add (i.toNat * 14)).block, (ad.add (i.toNat * 14)).off + 4, none⟩ = some (.bool (rd_Qry xs i).f2.f2) ∧ w.cell? ⟨(ad.add (i.toNat * 14)).block, (ad.add (i.toNat * 14)).off + 5, none⟩ = some (.bool (rd_Qry xs i).f2.f3) ∧ w.cell? ⟨(ad.add (i.toNat * 14)).block, (ad.add (i.toNat * 14)).off + 6, none⟩ = some (.bool (rd_Qry xs i).f3.f0) ∧ w.cell? ⟨(ad.add (i.toNat * 14)).block, (ad.add (i.toNat * 14)).off + 7, none⟩ = some (.bool (rd_Qry xs i).f3.f1) ∧ w.cell? ⟨(ad.add (i.toNat * 14)).block, (ad.add (i.toNat * 14)).off + 8, none⟩ = some (.bool (rd_Qry xs i).f3.f2) ∧ w.cell? ⟨(ad.add (i.toNat * 14)).block, (ad.add (i.toNat * 14)).off + 9, none⟩ = some (.bool (rd_Qry xs i).f3.f3) ∧ w.cell? ⟨(ad.add (i.toNat * 14)).block, (ad.add (i.toNat * 14)).off + 10, none⟩ = some (.string (rd_Qry xs i).f4.f0) ∧ w.cell? ⟨(ad.add (i.toNat * 14)).block, (ad.add (i.toNat * 14)).off + 11, none⟩ = some (.string (rd_Qry xs i).f4.f1) ∧ w.cell? ⟨(ad.add (i.toNat * 14)).block, (ad.add (i.toNat * 14)).off + 12, none⟩ = some (.string (rd_Qry xs i).f4.f2) ∧ w.cell? ⟨(ad.add (i.toNat * 14)).block, (ad.add (i.toNat * 14)).off + 13, none⟩ = some (.string (rd_Qry xs i).f4.f3) := by
  obtain ⟨ad, c, e, _, hK, hc0⟩ := Kd.C_get h zQry i h0 h1
  have hc : ∀ j u, c[j]? = some u → w.cell? (ad.add (i.toNat * 14 + j)) = some u := hc0
  obtain rfl := kQry_open hK
  exact ⟨ad, e, hc 0 _ rfl, by rw [← add_field _ _ 1 (by omega)]; exact hc 1 _ rfl, by rw [← add_field _ _ 2 (by omega)]; exact hc 2 _ rfl, by rw [← add_field _ _ 3 (by omega)]; exact hc 3 _ rfl, by rw [← add_field _ _ 4 (by omega)]; exact hc 4 _ rfl, by rw [← add_field _ _ 5 (by omega)]; exact hc 5 _ rfl, by rw [← add_field _ _ 6 (by omega)]; exact hc 6 _ rfl, by rw [← add_field _ _ 7 (by omega)]; exact hc 7 _ rfl, by rw [← add_field _ _ 8 (by omega)]; exact hc 8 _ rfl, by rw [← add_field _ _ 9 (by omega)]; exact hc 9 _ rfl, by rw [← add_field _ _ 10 (by omega)]; exact hc 10 _ rfl, by rw [← add_field _ _ 11 (by omega)]; exact hc 11 _ rfl, by rw [← add_field _ _ 12 (by omega)]; exact hc 12 _ rfl, by rw [← add_field _ _ 13 (by omega)]; exact hc 13 _ rfl⟩

/-! #### api.Policy = ossuary/api.Policy -/
structure Pol where
  f0 : Int
  f1 : Int
  f2 : Int
  f3 : Int
  f4 : Int
  f5 : Int
  f6 : Int
  f7 : Int
  f8 : Int
def zPol : Pol := ⟨(0 : Int), (0 : Int), (0 : Int), (0 : Int), (0 : Int), (0 : Int), (0 : Int), (0 : Int), (0 : Int)⟩
def kPol : Kd Pol := Kd.iso (Kd.pair (Kd.int .i64) (Kd.pair (Kd.int .i64) (Kd.pair (Kd.int .i64) (Kd.pair (Kd.int .i64) (Kd.pair (Kd.int .i64) (Kd.pair (Kd.int .i64) (Kd.pair (Kd.int .i64) (Kd.pair (Kd.int .i64) (Kd.int .i64))))))))) (fun x : Pol => (x.f0, x.f1, x.f2, x.f3, x.f4, x.f5, x.f6, x.f7, x.f8))
theorem kPol_open {w : World} {x : Pol} {cs : List Value} (h : kPol.K w x cs) : cs = [.int .i64 x.f0, .int .i64 x.f1, .int .i64 x.f2, .int .i64 x.f3, .int .i64 x.f4, .int .i64 x.f5, .int .i64 x.f6, .int .i64 x.f7, .int .i64 x.f8] := by
  obtain ⟨_, _, rfl, rfl, ⟨_, _, rfl, rfl, ⟨_, _, rfl, rfl, ⟨_, _, rfl, rfl, ⟨_, _, rfl, rfl, ⟨_, _, rfl, rfl, ⟨_, _, rfl, rfl, ⟨_, _, rfl, rfl, rfl⟩⟩⟩⟩⟩⟩⟩⟩ := h
  exact rfl
theorem kPol_openM {w : World} {base : Nat} {ok : Nat → Prop} {x : Pol} {cs : List Value} (h : kPol.M w base ok x cs) : cs = [.int .i64 x.f0, .int .i64 x.f1, .int .i64 x.f2, .int .i64 x.f3, .int .i64 x.f4, .int .i64 x.f5, .int .i64 x.f6, .int .i64 x.f7, .int .i64 x.f8] := by
  obtain ⟨_, _, rfl, rfl, ⟨_, _, rfl, rfl, ⟨_, _, rfl, rfl, ⟨_, _, rfl, rfl, ⟨_, _, rfl, rfl, ⟨_, _, rfl, rfl, ⟨_, _, rfl, rfl, ⟨_, _, rfl, rfl, rfl⟩⟩⟩⟩⟩⟩⟩⟩ := h
  exact rfl
theorem kPol_mk (w : World) (x : Pol)  : kPol.K w x [.int .i64 x.f0, .int .i64 x.f1, .int .i64 x.f2, .int .i64 x.f3, .int .i64 x.f4, .int .i64 x.f5, .int .i64 x.f6, .int .i64 x.f7, .int .i64 x.f8] := ⟨[.int .i64 x.f0], [.int .i64 x.f1, .int .i64 x.f2, .int .i64 x.f3, .int .i64 x.f4, .int .i64 x.f5, .int .i64 x.f6, .int .i64 x.f7, .int .i64 x.f8], rfl, rfl, ⟨[.int .i64 x.f1], [.int .i64 x.f2, .int .i64 x.f3, .int .i64 x.f4, .int .i64 x.f5, .int .i64 x.f6, .int .i64 x.f7, .int .i64 x.f8], rfl, rfl, ⟨[.int .i64 x.f2], [.int .i64 x.f3, .int .i64 x.f4, .int .i64 x.f5, .int .i64 x.f6, .int .i64 x.f7, .int .i64 x.f8], rfl, rfl, ⟨[.int .i64 x.f3], [.int .i64 x.f4, .int .i64 x.f5, .int .i64 x.f6, .int .i64 x.f7, .int .i64 x.f8], rfl, rfl, ⟨[.int .i64 x.f4], [.int .i64 x.f5, .int .i64 x.f6, .int .i64 x.f7, .int .i64 x.f8], rfl, rfl, ⟨[.int .i64 x.f5], [.int .i64 x.f6, .int .i64 x.f7, .int .i64 x.f8], rfl, rfl, ⟨[.int .i64 x.f6], [.int .i64 x.f7, .int .i64 x.f8], rfl, rfl, ⟨[.int .i64 x.f7], [.int .i64 x.f8], rfl, rfl, rfl⟩⟩⟩⟩⟩⟩⟩⟩
theorem kPol_mkM (w : World) (base : Nat) (ok : Nat → Prop) (x : Pol)  : kPol.M w base ok x [.int .i64 x.f0, .int .i64 x.f1, .int .i64 x.f2, .int .i64 x.f3, .int .i64 x.f4, .int .i64 x.f5, .int .i64 x.f6, .int .i64 x.f7, .int .i64 x.f8] := ⟨[.int .i64 x.f0], [.int .i64 x.f1, .int .i64 x.f2, .int .i64 x.f3, .int .i64 x.f4, .int .i64 x.f5, .int .i64 x.f6, .int .i64 x.f7, .int .i64 x.f8], rfl, rfl, ⟨[.int .i64 x.f1], [.int .i64 x.f2, .int .i64 x.f3, .int .i64 x.f4, .int .i64 x.f5, .int .i64 x.f6, .int .i64 x.f7, .int .i64 x.f8], rfl, rfl, ⟨[.int .i64 x.f2], [.int .i64 x.f3, .int .i64 x.f4, .int .i64 x.f5, .int .i64 x.f6, .int .i64 x.f7, .int .i64 x.f8], rfl, rfl, ⟨[.int .i64 x.f3], [.int .i64 x.f4, .int .i64 x.f5, .int .i64 x.f6, .int .i64 x.f7, .int .i64 x.f8], rfl, rfl, ⟨[.int .i64 x.f4], [.int .i64 x.f5, .int .i64 x.f6, .int .i64 x.f7, .int .i64 x.f8], rfl, rfl, ⟨[.int .i64 x.f5], [.int .i64 x.f6, .int .i64 x.f7, .int .i64 x.f8], rfl, rfl, ⟨[.int .i64 x.f6], [.int .i64 x.f7, .int .i64 x.f8], rfl, rfl, ⟨[.int .i64 x.f7], [.int .i64 x.f8], rfl, rfl, rfl⟩⟩⟩⟩⟩⟩⟩⟩
def rd_Pol (xs : List Pol) (i : Int) : Pol := xs.getD i.toNat zPol
theorem at_Pol {w : World} {A : Option Addr} {n : Nat} {xs : List Pol} (h : Kd.C kPol w A n xs) (i : Int) (h0 : 0 ≤ i) (h1 : i < n) : ∃ ad , A = some ad ∧ w.cell? (ad.add (i.toNat * 9)) = some (.int .i64 (rd_Pol xs i).f0) ∧ w.cell? ⟨(ad.add (i.toNat * 9)).block, (ad.add (i.toNat * 9)).off + 1, none⟩ = some (.int .i64 (rd_Pol xs i).f1) ∧ w.cell? ⟨(ad.add (i.toNat * 9)).block, (ad.add (i.toNat * 9)).off + 2, none⟩ = some (.int .i64 (rd_Pol xs i).f2) ∧ w.cell? ⟨(ad.add (i.toNat * 9)).block, (ad.add (i.toNat * 9)).off + 3, none⟩ = some (.int .i64 (rd_Pol xs i).f3) ∧ w.cell? ⟨(ad.add (i.toNat * 9)).block, (ad.add (i.toNat * 9)).off + 4, none⟩ = some (.int .i64 (rd_Pol xs i).f4) ∧ w.cell? ⟨(ad.add (i.toNat * 9)).block, (ad.add (i.toNat * 9)).off + 5, none⟩ = some (.int .i64 (rd_Pol xs i).f5) ∧ w.cell? ⟨(ad.add (i.toNat * 9)).block, (ad.add (i.toNat * 9)).off + 6, none⟩ = some (.int .i64 (rd_Pol xs i).f6) ∧ w.cell? ⟨(ad.add (i.toNat * 9)).block, (ad.add (i.toNat * 9)).off + 7, none⟩ = some (.int .i64 (rd_Pol xs i).f7) ∧ w.cell? ⟨(ad.add (i.toNat * 9)).block, (ad.add (i.toNat * 9)).off + 8, none⟩ = some (.int .i64 (rd_Pol xs i).f8) := by
  obtain ⟨ad, c, e, _, hK, hc0⟩ := Kd.C_get h zPol i h0 h1
  have hc : ∀ j u, c[j]? = some u → w.cell? (ad.add (i.toNat * 9 + j)) = some u := hc0
  obtain rfl := kPol_open hK
  exact ⟨ad, e, hc 0 _ rfl, by rw [← add_field _ _ 1 (by omega)]; exact hc 1 _ rfl, by rw [← add_field _ _ 2 (by omega)]; exact hc 2 _ rfl, by rw [← add_field _ _ 3 (by omega)]; exact hc 3 _ rfl, by rw [← add_field _ _ 4 (by omega)]; exact hc 4 _ rfl, by rw [← add_field _ _ 5 (by omega)]; exact hc 5 _ rfl, by rw [← add_field _ _ 6 (by omega)]; exact hc 6 _ rfl, by rw [← add_field _ _ 7 (by omega)]; exact hc 7 _ rfl, by rw [← add_field _ _ 8 (by omega)]; exact hc 8 _ rfl⟩

/-! #### api.Step = ossuary/api.Step -/
structure Stp where
  f0 : Int
  f1 : Int
  f2 : (List Fct)
  f3 : Qry
  f4 : Pol
  f5 : (List Bool)
def zStp : Stp := ⟨(0 : Int), (0 : Int), ([] : List Fct), zQry, zPol, ([] : List Bool)⟩
def kStp : Kd Stp := Kd.iso (Kd.pair (Kd.int .i64) (Kd.pair (Kd.int .i64) (Kd.pair (Kd.slice 54 kFct) (Kd.pair kQry (Kd.pair kPol (Kd.slice 4 Kd.bool)))))) (fun x : Stp => (x.f0, x.f1, x.f2, x.f3, x.f4, x.f5))
theorem kStp_open {w : World} {x : Stp} {cs : List Value} (h : kStp.K w x cs) : ∃ A2 c2 A26 c26, cs = [.int .i64 x.f0, .int .i64 x.f1, .slice A2 x.f2.length c2, .int .i64 x.f3.f0, .int .i64 x.f3.f1, .bool x.f3.f2.f0, .bool x.f3.f2.f1, .bool x.f3.f2.f2, .bool x.f3.f2.f3, .bool x.f3.f3.f0, .bool x.f3.f3.f1, .bool x.f3.f3.f2, .bool x.f3.f3.f3, .string x.f3.f4.f0, .string x.f3.f4.f1, .string x.f3.f4.f2, .string x.f3.f4.f3, .int .i64 x.f4.f0, .int .i64 x.f4.f1, .int .i64 x.f4.f2, .int .i64 x.f4.f3, .int .i64 x.f4.f4, .int .i64 x.f4.f5, .int .i64 x.f4.f6, .int .i64 x.f4.f7, .int .i64 x.f4.f8, .slice A26 x.f5.length c26] ∧ x.f2.length ≤ c2 ∧ kFct.C w A2 x.f2.length x.f2 ∧ x.f5.length ≤ c26 ∧ Kd.bool.C w A26 x.f5.length x.f5 := by
  obtain ⟨_, _, rfl, rfl, ⟨_, _, rfl, rfl, ⟨_, _, rfl, ⟨A2, c2, rfl, l2, g2⟩, ⟨_, _, rfl, s3, ⟨_, _, rfl, s17, ⟨A26, c26, rfl, l26, g26⟩⟩⟩⟩⟩⟩ := h
  obtain rfl := kQry_open s3
  obtain rfl := kPol_open s17
  exact ⟨A2, c2, A26, c26, rfl, l2, g2, l26, g26⟩
theorem kStp_openM {w : World} {base : Nat} {ok : Nat → Prop} {x : Stp} {cs : List Value} (h : kStp.M w base ok x cs) : ∃ v2 v26, cs = [.int .i64 x.f0, .int .i64 x.f1, v2, .int .i64 x.f3.f0, .int .i64 x.f3.f1, .bool x.f3.f2.f0, .bool x.f3.f2.f1, .bool x.f3.f2.f2, .bool x.f3.f2.f3, .bool x.f3.f3.f0, .bool x.f3.f3.f1, .bool x.f3.f3.f2, .bool x.f3.f3.f3, .string x.f3.f4.f0, .string x.f3.f4.f1, .string x.f3.f4.f2, .string x.f3.f4.f3, .int .i64 x.f4.f0, .int .i64 x.f4.f1, .int .i64 x.f4.f2, .int .i64 x.f4.f3, .int .i64 x.f4.f4, .int .i64 x.f4.f5, .int .i64 x.f4.f6, .int .i64 x.f4.f7, .int .i64 x.f4.f8, v26] ∧ kFct.R 54 w base ok v2 x.f2 ∧ Kd.bool.R 4 w base ok v26 x.f5 := by
  obtain ⟨_, _, rfl, rfl, ⟨_, _, rfl, rfl, ⟨_, _, rfl, ⟨v2, rfl, g2⟩, ⟨_, _, rfl, s3, ⟨_, _, rfl, s17, ⟨v26, rfl, g26⟩⟩⟩⟩⟩⟩ := h
  obtain rfl := kQry_openM s3
  obtain rfl := kPol_openM s17
  exact ⟨v2, v26, rfl, g2, g26⟩
theorem kStp_mk (w : World) (x : Stp) {A2 : Option Addr} {c2 : Nat} (l2 : x.f2.length ≤ c2) (g2 : kFct.C w A2 x.f2.length x.f2) {A26 : Option Addr} {c26 : Nat} (l26 : x.f5.length ≤ c26) (g26 : Kd.bool.C w A26 x.f5.length x.f5) : kStp.K w x [.int .i64 x.f0, .int .i64 x.f1, .slice A2 x.f2.length c2, .int .i64 x.f3.f0, .int .i64 x.f3.f1, .bool x.f3.f2.f0, .bool x.f3.f2.f1, .bool x.f3.f2.f2, .bool x.f3.f2.f3, .bool x.f3.f3.f0, .bool x.f3.f3.f1, .bool x.f3.f3.f2, .bool x.f3.f3.f3, .string x.f3.f4.f0, .string x.f3.f4.f1, .string x.f3.f4.f2, .string x.f3.f4.f3, .int .i64 x.f4.f0, .int .i64 x.f4.f1, .int .i64 x.f4.f2, .int .i64 x.f4.f3, .int .i64 x.f4.f4, .int .i64 x.f4.f5, .int .i64 x.f4.f6, .int .i64 x.f4.f7, .int .i64 x.f4.f8, .slice A26 x.f5.length c26] := ⟨[.int .i64 x.f0], [.int .i64 x.f1, .slice A2 x.f2.length c2, .int .i64 x.f3.f0, .int .i64 x.f3.f1, .bool x.f3.f2.f0, .bool x.f3.f2.f1, .bool x.f3.f2.f2, .bool x.f3.f2.f3, .bool x.f3.f3.f0, .bool x.f3.f3.f1, .bool x.f3.f3.f2, .bool x.f3.f3.f3, .string x.f3.f4.f0, .string x.f3.f4.f1, .string x.f3.f4.f2, .string x.f3.f4.f3, .int .i64 x.f4.f0, .int .i64 x.f4.f1, .int .i64 x.f4.f2, .int .i64 x.f4.f3, .int .i64 x.f4.f4, .int .i64 x.f4.f5, .int .i64 x.f4.f6, .int .i64 x.f4.f7, .int .i64 x.f4.f8, .slice A26 x.f5.length c26], rfl, rfl, ⟨[.int .i64 x.f1], [.slice A2 x.f2.length c2, .int .i64 x.f3.f0, .int .i64 x.f3.f1, .bool x.f3.f2.f0, .bool x.f3.f2.f1, .bool x.f3.f2.f2, .bool x.f3.f2.f3, .bool x.f3.f3.f0, .bool x.f3.f3.f1, .bool x.f3.f3.f2, .bool x.f3.f3.f3, .string x.f3.f4.f0, .string x.f3.f4.f1, .string x.f3.f4.f2, .string x.f3.f4.f3, .int .i64 x.f4.f0, .int .i64 x.f4.f1, .int .i64 x.f4.f2, .int .i64 x.f4.f3, .int .i64 x.f4.f4, .int .i64 x.f4.f5, .int .i64 x.f4.f6, .int .i64 x.f4.f7, .int .i64 x.f4.f8, .slice A26 x.f5.length c26], rfl, rfl, ⟨[.slice A2 x.f2.length c2], [.int .i64 x.f3.f0, .int .i64 x.f3.f1, .bool x.f3.f2.f0, .bool x.f3.f2.f1, .bool x.f3.f2.f2, .bool x.f3.f2.f3, .bool x.f3.f3.f0, .bool x.f3.f3.f1, .bool x.f3.f3.f2, .bool x.f3.f3.f3, .string x.f3.f4.f0, .string x.f3.f4.f1, .string x.f3.f4.f2, .string x.f3.f4.f3, .int .i64 x.f4.f0, .int .i64 x.f4.f1, .int .i64 x.f4.f2, .int .i64 x.f4.f3, .int .i64 x.f4.f4, .int .i64 x.f4.f5, .int .i64 x.f4.f6, .int .i64 x.f4.f7, .int .i64 x.f4.f8, .slice A26 x.f5.length c26], rfl, ⟨A2, c2, rfl, l2, g2⟩, ⟨[.int .i64 x.f3.f0, .int .i64 x.f3.f1, .bool x.f3.f2.f0, .bool x.f3.f2.f1, .bool x.f3.f2.f2, .bool x.f3.f2.f3, .bool x.f3.f3.f0, .bool x.f3.f3.f1, .bool x.f3.f3.f2, .bool x.f3.f3.f3, .string x.f3.f4.f0, .string x.f3.f4.f1, .string x.f3.f4.f2, .string x.f3.f4.f3], [.int .i64 x.f4.f0, .int .i64 x.f4.f1, .int .i64 x.f4.f2, .int .i64 x.f4.f3, .int .i64 x.f4.f4, .int .i64 x.f4.f5, .int .i64 x.f4.f6, .int .i64 x.f4.f7, .int .i64 x.f4.f8, .slice A26 x.f5.length c26], rfl, (kQry_mk w x.f3 ), ⟨[.int .i64 x.f4.f0, .int .i64 x.f4.f1, .int .i64 x.f4.f2, .int .i64 x.f4.f3, .int .i64 x.f4.f4, .int .i64 x.f4.f5, .int .i64 x.f4.f6, .int .i64 x.f4.f7, .int .i64 x.f4.f8], [.slice A26 x.f5.length c26], rfl, (kPol_mk w x.f4 ), ⟨A26, c26, rfl, l26, g26⟩⟩⟩⟩⟩⟩
theorem kStp_mkM (w : World) (base : Nat) (ok : Nat → Prop) (x : Stp) {v2 : Value} (g2 : kFct.R 54 w base ok v2 x.f2) {v26 : Value} (g26 : Kd.bool.R 4 w base ok v26 x.f5) : kStp.M w base ok x [.int .i64 x.f0, .int .i64 x.f1, v2, .int .i64 x.f3.f0, .int .i64 x.f3.f1, .bool x.f3.f2.f0, .bool x.f3.f2.f1, .bool x.f3.f2.f2, .bool x.f3.f2.f3, .bool x.f3.f3.f0, .bool x.f3.f3.f1, .bool x.f3.f3.f2, .bool x.f3.f3.f3, .string x.f3.f4.f0, .string x.f3.f4.f1, .string x.f3.f4.f2, .string x.f3.f4.f3, .int .i64 x.f4.f0, .int .i64 x.f4.f1, .int .i64 x.f4.f2, .int .i64 x.f4.f3, .int .i64 x.f4.f4, .int .i64 x.f4.f5, .int .i64 x.f4.f6, .int .i64 x.f4.f7, .int .i64 x.f4.f8, v26] := ⟨[.int .i64 x.f0], [.int .i64 x.f1, v2, .int .i64 x.f3.f0, .int .i64 x.f3.f1, .bool x.f3.f2.f0, .bool x.f3.f2.f1, .bool x.f3.f2.f2, .bool x.f3.f2.f3, .bool x.f3.f3.f0, .bool x.f3.f3.f1, .bool x.f3.f3.f2, .bool x.f3.f3.f3, .string x.f3.f4.f0, .string x.f3.f4.f1, .string x.f3.f4.f2, .string x.f3.f4.f3, .int .i64 x.f4.f0, .int .i64 x.f4.f1, .int .i64 x.f4.f2, .int .i64 x.f4.f3, .int .i64 x.f4.f4, .int .i64 x.f4.f5, .int .i64 x.f4.f6, .int .i64 x.f4.f7, .int .i64 x.f4.f8, v26], rfl, rfl, ⟨[.int .i64 x.f1], [v2, .int .i64 x.f3.f0, .int .i64 x.f3.f1, .bool x.f3.f2.f0, .bool x.f3.f2.f1, .bool x.f3.f2.f2, .bool x.f3.f2.f3, .bool x.f3.f3.f0, .bool x.f3.f3.f1, .bool x.f3.f3.f2, .bool x.f3.f3.f3, .string x.f3.f4.f0, .string x.f3.f4.f1, .string x.f3.f4.f2, .string x.f3.f4.f3, .int .i64 x.f4.f0, .int .i64 x.f4.f1, .int .i64 x.f4.f2, .int .i64 x.f4.f3, .int .i64 x.f4.f4, .int .i64 x.f4.f5, .int .i64 x.f4.f6, .int .i64 x.f4.f7, .int .i64 x.f4.f8, v26], rfl, rfl, ⟨[v2], [.int .i64 x.f3.f0, .int .i64 x.f3.f1, .bool x.f3.f2.f0, .bool x.f3.f2.f1, .bool x.f3.f2.f2, .bool x.f3.f2.f3, .bool x.f3.f3.f0, .bool x.f3.f3.f1, .bool x.f3.f3.f2, .bool x.f3.f3.f3, .string x.f3.f4.f0, .string x.f3.f4.f1, .string x.f3.f4.f2, .string x.f3.f4.f3, .int .i64 x.f4.f0, .int .i64 x.f4.f1, .int .i64 x.f4.f2, .int .i64 x.f4.f3, .int .i64 x.f4.f4, .int .i64 x.f4.f5, .int .i64 x.f4.f6, .int .i64 x.f4.f7, .int .i64 x.f4.f8, v26], rfl, ⟨v2, rfl, g2⟩, ⟨[.int .i64 x.f3.f0, .int .i64 x.f3.f1, .bool x.f3.f2.f0, .bool x.f3.f2.f1, .bool x.f3.f2.f2, .bool x.f3.f2.f3, .bool x.f3.f3.f0, .bool x.f3.f3.f1, .bool x.f3.f3.f2, .bool x.f3.f3.f3, .string x.f3.f4.f0, .string x.f3.f4.f1, .string x.f3.f4.f2, .string x.f3.f4.f3], [.int .i64 x.f4.f0, .int .i64 x.f4.f1, .int .i64 x.f4.f2, .int .i64 x.f4.f3, .int .i64 x.f4.f4, .int .i64 x.f4.f5, .int .i64 x.f4.f6, .int .i64 x.f4.f7, .int .i64 x.f4.f8, v26], rfl, (kQry_mkM w base ok x.f3 ), ⟨[.int .i64 x.f4.f0, .int .i64 x.f4.f1, .int .i64 x.f4.f2, .int .i64 x.f4.f3, .int .i64 x.f4.f4, .int .i64 x.f4.f5, .int .i64 x.f4.f6, .int .i64 x.f4.f7, .int .i64 x.f4.f8], [v26], rfl, (kPol_mkM w base ok x.f4 ), ⟨v26, rfl, g26⟩⟩⟩⟩⟩⟩
def rd_Stp (xs : List Stp) (i : Int) : Stp := xs.getD i.toNat zStp
theorem at_Stp {w : World} {A : Option Addr} {n : Nat} {xs : List Stp} (h : Kd.C kStp w A n xs) (i : Int) (h0 : 0 ≤ i) (h1 : i < n) : ∃ ad A2 c2 A26 c26, A = some ad ∧ w.cell? (ad.add (i.toNat * 27)) = some (.int .i64 (rd_Stp xs i).f0) ∧ w.cell? ⟨(ad.add (i.toNat * 27)).block, (ad.add (i.toNat * 27)).off + 1, none⟩ = some (.int .i64 (rd_Stp xs i).f1) ∧ w.cell? ⟨(ad.add (i.toNat * 27)).block, (ad.add (i.toNat * 27)).off + 2, none⟩ = some (.slice A2 (rd_Stp xs i).f2.length c2) ∧ w.cell? ⟨(ad.add (i.toNat * 27)).block, (ad.add (i.toNat * 27)).off + 3, none⟩ = some (.int .i64 (rd_Stp xs i).f3.f0) ∧ w.cell? ⟨(ad.add (i.toNat * 27)).block, (ad.add (i.toNat * 27)).off + 4, none⟩ = some (.int .i64 (rd_Stp xs i).f3.f1) ∧ w.cell? ⟨(ad.add (i.toNat * 27)).block, (ad.add (i.toNat * 27)).off + 5, none⟩ = some (.bool (rd_Stp xs i).f3.f2.f0) ∧ w.cell? ⟨(ad.add (i.toNat * 27)).block, (ad.add (i.toNat * 27)).off + 6, none⟩ = some (.bool (rd_Stp xs i).f3.f2.f1) ∧ w.cell? ⟨(ad.add (i.toNat * 27)).block, (ad.add (i.toNat * 27)).off + 7, none⟩ = some (.bool (rd_Stp xs i).f3.f2.f2) ∧ w.cell? ⟨(ad.add (i.toNat * 27)).block, (ad.add (i.toNat * 27)).off + 8, none⟩ = some (.bool (rd_Stp xs i).f3.f2.f3) ∧ w.cell? ⟨(ad.add (i.toNat * 27)).block, (ad.add (i.toNat * 27)).off + 9, none⟩ = some (.bool (rd_Stp xs i).f3.f3.f0) ∧ w.cell? ⟨(ad.add (i.toNat * 27)).block, (ad.add (i.toNat * 27)).off + 10, none⟩ = some (.bool (rd_Stp xs i).f3.f3.f1) ∧ w.cell? ⟨(ad.add (i.toNat * 27)).block, (ad.add (i.toNat * 27)).off + 11, none⟩ = some (.bool (rd_Stp xs i).f3.f3.f2) ∧ w.cell? ⟨(ad.add (i.toNat * 27)).block, (ad.add (i.toNat * 27)).off + 12, none⟩ = some (.bool (rd_Stp xs i).f3.f3.f3) ∧ w.cell? ⟨(ad.add (i.toNat * 27)).block, (ad.add (i.toNat * 27)).off + 13, none⟩ = some (.string (rd_Stp xs i).f3.f4.f0) ∧ w.cell? ⟨(ad.add (i.toNat * 27)).block, (ad.add (i.toNat * 27)).off + 14, none⟩ = some (.string (rd_Stp xs i).f3.f4.f1) ∧ w.cell? ⟨(ad.add (i.toNat * 27)).block, (ad.add (i.toNat * 27)).off + 15, none⟩ = some (.string (rd_Stp xs i).f3.f4.f2) ∧ w.cell? ⟨(ad.add (i.toNat * 27)).block, (ad.add (i.toNat * 27)).off + 16, none⟩ = some (.string (rd_Stp xs i).f3.f4.f3) ∧ w.cell? ⟨(ad.add (i.toNat * 27)).block, (ad.add (i.toNat * 27)).off + 17, none⟩ = some (.int .i64 (rd_Stp xs i).f4.f0) ∧ w.cell? ⟨(ad.add (i.toNat * 27)).block, (ad.add (i.toNat * 27)).off + 18, none⟩ = some (.int .i64 (rd_Stp xs i).f4.f1) ∧ w.cell? ⟨(ad.add (i.toNat * 27)).block, (ad.add (i.toNat * 27)).off + 19, none⟩ = some (.int .i64 (rd_Stp xs i).f4.f2) ∧ w.cell? ⟨(ad.add (i.toNat * 27)).block, (ad.add (i.toNat * 27)).off + 20, none⟩ = some (.int .i64 (rd_Stp xs i).f4.f3) ∧ w.cell? ⟨(ad.add (i.toNat * 27)).block, (ad.add (i.toNat * 27)).off + 21, none⟩ = some (.int .i64 (rd_Stp xs i).f4.f4) ∧ w.cell? ⟨(ad.add (i.toNat * 27)).block, (ad.add (i.toNat * 27)).off + 22, none⟩ = some (.int .i64 (rd_Stp xs i).f4.f5) ∧ w.cell? ⟨(ad.add (i.toNat * 27)).block, (ad.add (i.toNat * 27)).off + 23, none⟩ = some (.int .i64 (rd_Stp xs i).f4.f6) ∧ w.cell? ⟨(ad.add (i.toNat * 27)).block, (ad.add (i.toNat * 27)).off + 24, none⟩ = some (.int .i64 (rd_Stp xs i).f4.f7) ∧ w.cell? ⟨(ad.add (i.toNat * 27)).block, (ad.add (i.toNat * 27)).off + 25, none⟩ = some (.int .i64 (rd_Stp xs i).f4.f8) ∧ w.cell? ⟨(ad.add (i.toNat * 27)).block, (ad.add (i.toNat * 27)).off + 26, none⟩ = some (.slice A26 (rd_Stp xs i).f5.length c26) ∧ (rd_Stp xs i).f2.length ≤ c2 ∧ kFct.C w A2 (rd_Stp xs i).f2.length (rd_Stp xs i).f2 ∧ (rd_Stp xs i).f5.length ≤ c26 ∧ Kd.bool.C w A26 (rd_Stp xs i).f5.length (rd_Stp xs i).f5 := by
  obtain ⟨ad, c, e, _, hK, hc0⟩ := Kd.C_get h zStp i h0 h1
  have hc : ∀ j u, c[j]? = some u → w.cell? (ad.add (i.toNat * 27 + j)) = some u := hc0
  obtain ⟨A2, c2, A26, c26, rfl, l2, g2, l26, g26⟩ := kStp_open hK
  exact ⟨ad, A2, c2, A26, c26, e, hc 0 _ rfl, by rw [← add_field _ _ 1 (by omega)]; exact hc 1 _ rfl, by rw [← add_field _ _ 2 (by omega)]; exact hc 2 _ rfl, by rw [← add_field _ _ 3 (by omega)]; exact hc 3 _ rfl, by rw [← add_field _ _ 4 (by omega)]; exact hc 4 _ rfl, by rw [← add_field _ _ 5 (by omega)]; exact hc 5 _ rfl, by rw [← add_field _ _ 6 (by omega)]; exact hc 6 _ rfl, by rw [← add_field _ _ 7 (by omega)]; exact hc 7 _ rfl, by rw [← add_field _ _ 8 (by omega)]; exact hc 8 _ rfl, by rw [← add_field _ _ 9 (by omega)]; exact hc 9 _ rfl, by rw [← add_field _ _ 10 (by omega)]; exact hc 10 _ rfl, by rw [← add_field _ _ 11 (by omega)]; exact hc 11 _ rfl, by rw [← add_field _ _ 12 (by omega)]; exact hc 12 _ rfl, by rw [← add_field _ _ 13 (by omega)]; exact hc 13 _ rfl, by rw [← add_field _ _ 14 (by omega)]; exact hc 14 _ rfl, by rw [← add_field _ _ 15 (by omega)]; exact hc 15 _ rfl, by rw [← add_field _ _ 16 (by omega)]; exact hc 16 _ rfl, by rw [← add_field _ _ 17 (by omega)]; exact hc 17 _ rfl, by rw [← add_field _ _ 18 (by omega)]; exact hc 18 _ rfl, by rw [← add_field _ _ 19 (by omega)]; exact hc 19 _ rfl, by rw [← add_field _ _ 20 (by omega)]; exact hc 20 _ rfl, by rw [← add_field _ _ 21 (by omega)]; exact hc 21 _ rfl, by rw [← add_field _ _ 22 (by omega)]; exact hc 22 _ rfl, by rw [← add_field _ _ 23 (by omega)]; exact hc 23 _ rfl, by rw [← add_field _ _ 24 (by omega)]; exact hc 24 _ rfl, by rw [← add_field _ _ 25 (by omega)]; exact hc 25 _ rfl, by rw [← add_field _ _ 26 (by omega)]; exact hc 26 _ rfl, l2, g2, l26, g26⟩

end Go.Proofs.YtnkcgoaafpnbjaaDoor
/- The calendar, plain. -/
namespace Ows

def leap (y : Int) : Bool := decide (y % 4 = 0 ∧ (y % 100 ≠ 0 ∨ y % 400 = 0))
/-- How many days a month has. -/
def mlen (y m : Int) : Int := if m = 2 then (if leap y = true then 29 else 28) else if m = 4 ∨ m = 6 ∨ m = 9 ∨ m = 11 then 30 else if 1 ≤ m ∧ m ≤ 12 then 31 else 0
/-- Days of a year that begins in March, and of its months. -/
def dcal (y m d : Int) : Int := y / 400 * 146097 + (365 * (y % 400) + y % 400 / 4 - y % 400 / 100 + (153 * m + 2) / 5 + d - 1) - 719468
def cnum (y m d : Int) : Int := if m < 3 then dcal (y - 1) (m + 9) d else dcal y (m - 3) d
/-- A date's day. -/
def cNum (y m d : Int) : Int × Bool := if 1970 ≤ y ∧ y ≤ 4900 ∧ 1 ≤ d ∧ d ≤ mlen y m then (cnum y m d, true) else (0, false)

/-- How many '-' and 'T' stand ahead of a place. -/
def atOf (k : Nat) : Nat := if k ≤ 4 then 0 else if k ≤ 7 then 1 else if k ≤ 10 then 2 else 3
/-- Is that letter of an hour's text right? -/
def okAt (l : Bs) (j : Nat) : Prop := if j = 4 ∨ j = 7 then l.getD j 0 = 45 else if j = 10 then l.getD j 0 = 84 else 48 ≤ (l.getD j 0).toNat ∧ (l.getD j 0).toNat ≤ 57
instance (l : Bs) (j : Nat) : Decidable (okAt l j) := by unfold okAt; infer_instance
/-- The digits from a on, up to place k, but none from b on. -/
def fld (l : Bs) (a b k : Nat) : Nat := valD ((l.take (min k b)).drop a)
def okAll (l : Bs) : Prop := l.length = 13 ∧ okAt l 0 ∧ okAt l 1 ∧ okAt l 2 ∧ okAt l 3 ∧ okAt l 4 ∧ okAt l 5 ∧ okAt l 6 ∧ okAt l 7 ∧ okAt l 8 ∧ okAt l 9 ∧ okAt l 10 ∧ okAt l 11 ∧ okAt l 12
instance (l : Bs) : Decidable (okAll l) := by unfold okAll; infer_instance
theorem okAll_iff (l : Bs) : okAll l ↔ l.length = 13 ∧ ∀ j, j < 13 → okAt l j := by
  unfold okAll
  constructor
  · rintro ⟨h, h0, h1, h2, h3, h4, h5, h6, h7, h8, h9, h10, h11, h12⟩
    refine ⟨h, fun j hj => ?_⟩
    rcases j with _ | _ | _ | _ | _ | _ | _ | _ | _ | _ | _ | _ | _ | j
    all_goals first | assumption | omega
  · rintro ⟨h, hj⟩
    exact ⟨h, hj 0 (by omega), hj 1 (by omega), hj 2 (by omega), hj 3 (by omega), hj 4 (by omega), hj 5 (by omega), hj 6 (by omega), hj 7 (by omega), hj 8 (by omega), hj 9 (by omega), hj 10 (by omega), hj 11 (by omega), hj 12 (by omega)⟩
/-- The hour of these numbers. -/
def hourOf (y m d h : Int) : Option Int := if (cNum y m d).2 = true ∧ h < 24 ∧ (cNum y m d).1 * 24 + h ≤ 16777216 then some ((cNum y m d).1 * 24 + h) else none
/-- The hour whose text that is. -/
def cParse (l : Bs) : Option Int := if okAll l then hourOf (fld l 0 4 13) (fld l 5 7 13) (fld l 8 10 13) (fld l 11 13 13) else none

theorem fld_stay (l : Bs) (a b k : Nat) (h : b ≤ k) : fld l a b (k + 1) = fld l a b k := by unfold fld; rw [Nat.min_eq_right (by omega), Nat.min_eq_right h]
theorem fld_zero (l : Bs) (a b k : Nat) (h : k ≤ a) : fld l a b k = 0 := by
  unfold fld
  rw [List.drop_of_length_le (by rw [List.length_take]; omega)]
  rfl
theorem fld_step (l : Bs) (a b k : Nat) (h1 : a ≤ k) (h2 : k < b) (hk : k < l.length) : fld l a b (k + 1) = fld l a b k * 10 + ((l.getD k 0).toNat - 48) := by
  unfold fld
  rw [Nat.min_eq_left (by omega), Nat.min_eq_left (by omega), List.take_succ_eq_append_getElem hk, List.drop_append_of_le_length (by rw [List.length_take]; omega), valD_snoc]
  simp [List.getD_eq_getElem?_getD, List.getElem?_eq_getElem hk]

end Ows
/- The facts of an ingest's words, plain. -/
namespace Go.Proofs.YtnkcgoaafpnbjaaDoor
open Go.RowKit Go.Proofs.YtnkcgoaafpnbjaaDoorW.PrintWords
set_option linter.unusedVariables false
set_option linter.unusedSimpArgs false
/-- The four texts with the j-th set. -/
def T4.set (t : T4) (j : Nat) (s : ByteArray) : T4 := if j = 0 then { t with f0 := s } else if j = 1 then { t with f1 := s } else if j = 2 then { t with f2 := s } else { t with f3 := s }
/-- Texts for the dimensions from j on, n of them. -/
def textsP : Nat → Nat → T4 → List ByteArray → Option (T4 × List ByteArray)
  | 0, _, t, ls => some (t, ls)
  | _ + 1, _, _, [] => none
  | n + 1, j, t, x :: ls => match Ows.wBare x.data.toList with
    | none => none
    | some s => textsP n (j + 1) (t.set j ⟨s.toArray⟩) ls
/-- One fact. -/
def factP (d : Nat) : List ByteArray → Option (Fct × List ByteArray)
  | [] => none
  | x :: ls => match Ows.cParse x.data.toList with
    | none => none
    | some h => match textsP d 0 zT4 ls with
      | none => none
      | some (_, []) => none
      | some (t, y :: r) => match Ows.wNum y.data.toList with
        | none => none
        | some v => some (⟨⟨h, t⟩, v⟩, r)
theorem textsP_len : ∀ (n j : Nat) (t : T4) (ls : List ByteArray) (r : T4 × List ByteArray), textsP n j t ls = some r → r.2.length ≤ ls.length
  | 0, _, _, _, _, h => by cases h; exact Nat.le_refl _
  | _ + 1, _, _, [], _, h => by cases h
  | n + 1, j, t, x :: ls, r, h => by
    simp only [textsP] at h
    split at h
    · cases h
    · have := textsP_len n _ _ ls r h
      simp; omega
theorem factP_len (d : Nat) (ls : List ByteArray) (r : Fct × List ByteArray) (h : factP d ls = some r) : r.2.length < ls.length := by
  unfold factP at h
  split at h
  · cases h
  · split at h
    · cases h
    · split at h
      · cases h
      · cases h
      · next t y q e =>
        have := textsP_len _ _ _ _ _ e
        split at h
        · cases h
        · cases h
          simp at this ⊢
          omega
/-- All facts behind those that are there. -/
def factsP (d : Nat) (ls : List ByteArray) (out : List Fct) : Option (List Fct) :=
  if ls = [] then some out else if 50 ≤ out.length then none else match h : factP d ls with
    | none => none
    | some r => factsP d r.2 (out ++ [r.1])
termination_by ls.length
decreasing_by exact factP_len d ls r h
theorem factsP_step (d : Nat) (ls : List ByteArray) (out : List Fct) : factsP d ls out = if ls = [] then some out else if 50 ≤ out.length then none else match factP d ls with
    | none => none
    | some r => factsP d r.2 (out ++ [r.1]) := by
  rw [factsP]
  split
  · rfl
  · split
    · rfl
    · split <;> simp_all
end Go.Proofs.YtnkcgoaafpnbjaaDoor
