/- What Hex and Quote of package text compute, and what the document's do. Condition: a text of at most a million bytes. -/
import Derived.Test.YtabakkdlcjpjfaaDoorTa
import Derived.Test.YtabakkdlcjpjfaaDoorCt4
import Derived.Test.YtabakkdlcjpjfaaDoorShelf
import Derived.Lib.SplitLaws
namespace Go.Proofs.YtabakkdlcjpjfaaDoor
open Go.RowKit Go.IntWalk
set_option linter.unusedSimpArgs false
set_option linter.unusedVariables false

def sgn (n : Nat) : UInt8 := ([48, 49, 50, 51, 52, 53, 54, 55, 56, 57, 97, 98, 99, 100, 101, 102] : List UInt8).getD n 0
def hex1 (c : UInt8) : List UInt8 := [sgn (c.toNat / 16), sgn (c.toNat % 16)]
def hexL (l : List UInt8) : List UInt8 := l.flatMap hex1
theorem hexL_len (l : List UInt8) : (hexL l).length = 2 * l.length := by
  induction l with
  | nil => rfl
  | cons a l ih =>
    show ((hex1 a) ++ hexL l).length = _
    rw [List.length_append, ih]
    simp [hex1]
    omega
theorem hexL_snoc (l : List UInt8) (c : UInt8) : hexL (l ++ [c]) = hexL l ++ hex1 c := by simp [hexL]
theorem low4 (c : UInt8) : IntKind.wrap .u8 (((BitVec.ofInt (IntKind.bits .u8) (c.toNat : Int) &&& BitVec.ofInt (IntKind.bits .u8) 15).toNat : Nat) : Int) = ((c.toNat % 16 : Nat) : Int) := by
  have h : ∀ n : Fin 256, IntKind.wrap .u8 (((BitVec.ofInt (IntKind.bits .u8) (n.val : Int) &&& BitVec.ofInt (IntKind.bits .u8) 15).toNat : Nat) : Int) = ((n.val % 16 : Nat) : Int) := by decide +kernel
  exact h ⟨c.toNat, c.toNat_lt⟩
theorem high4 (c : UInt8) : Int.fdiv (c.toNat : Int) (2 ^ 4) = ((c.toNat / 16 : Nat) : Int) := by
  rw [Int.fdiv_eq_ediv_of_nonneg _ (by decide)]
  have : (2 : Int) ^ 4 = 16 := by decide
  omega
theorem c_tHex (l : List UInt8) (hs : Sm l) : FnC Tryd.prog 39 [sD l] (sD (hexL l)) := by
  unfold Sm at hs
  refine w39 (bs l) ?_
  simp only [bs_size, byteAt_bs, mk_bs]
  rw [i64_in _ (by omega)]
  refine ⟨by omega, by omega, fun x1 hx1 => ?_⟩
  have e0 : x1 = bc [] := by rw [hx1]; rfl
  subst e0
  refine ⟨fun rows i k => 0 ≤ i ∧ i ≤ l.length ∧ rows = bc (hexL (l.take i.toNat)) ∧ k = l.length - i.toNat, ⟨_, by omega, by omega, by simp [hexL], rfl⟩, ?_⟩
  rintro k rows i ⟨h0, h1, rfl, rfl⟩
  have hlen : (hexL (l.take i.toNat)).length = 2 * i.toNat := by rw [hexL_len, List.length_take]; omega
  rw [high4, low4]
  have hb := (l.getD i.toNat 0).toNat_lt
  refine ⟨fun hi => ⟨by omega, by omega, by omega, by omega, fun x4 hx4 => ?_⟩, fun hi => ?_⟩
  · have e4 : x4 = bc (hex1 (l.getD i.toNat 0)) := by
      rw [hx4]
      simp only [bc, hex1, sgn, List.map_cons, List.map_nil, Int.toNat_natCast]
    subst e4
    rw [bc_len, bc_len, hlen]
    refine ⟨by simp only [hex1, List.length_cons, List.length_nil]; omega, fun x5 hx5 => ?_⟩
    rw [bc_app] at hx5
    subst hx5
    rw [i64_in _ (by omega)]
    refine ⟨_, ?_, by omega, by omega, ?_, rfl⟩
    · omega
    · rw [nat_i i h0, take_snoc l _ (by omega), hexL_snoc]
  · rw [show i.toNat = l.length by omega, List.take_length, bs_bc]
    exact ⟨bc_all _, rfl⟩
theorem cut_one (l : List UInt8) (i : Nat) (h : i < l.length) : (l.take (i + 1)).drop i = [l.getD i 0] := by
  rw [take_snoc l i h, List.drop_append_of_le_length (by simp; omega), List.drop_of_length_le (by rw [List.length_take]; omega)]
  rfl
theorem c_r3Hex (l : List UInt8) (hs : Sm l) : FnC Tryd.prog 49 [sD l] (sD (hexL l)) := by
  unfold Sm at hs
  refine w49 (bs l) ?_
  simp only [bs_size, byteAt_bs, mk_bs]
  refine ⟨fun out i k => 0 ≤ i ∧ i ≤ l.length ∧ out = bs (hexL (l.take i.toNat)) ∧ k = l.length - i.toNat, ⟨_, by omega, by omega, by simp [hexL], rfl⟩, ?_⟩
  rintro k out i ⟨h0, h1, rfl, rfl⟩
  have hlen : (hexL (l.take i.toNat)).length = 2 * i.toNat := by rw [hexL_len, List.length_take]; omega
  have hb := (l.getD i.toNat 0).toNat_lt
  have e1 : IntKind.wrap .u8 (Int.tdiv ((l.getD i.toNat 0).toNat : Int) 16) = (((l.getD i.toNat 0).toNat / 16 : Nat) : Int) := by
    rw [Int.tdiv_eq_ediv_of_nonneg (by omega), u8_in _ (by omega)]; omega
  have e2 : Int.tmod ((l.getD i.toNat 0).toNat : Int) 16 = (((l.getD i.toNat 0).toNat % 16 : Nat) : Int) := by
    rw [Int.tmod_eq_emod_of_nonneg (by omega)]; omega
  have e3 : IntKind.wrap .u8 ((((l.getD i.toNat 0).toNat / 16 : Nat) : Int) + 1) = (((l.getD i.toNat 0).toNat / 16 + 1 : Nat) : Int) := by rw [u8_in _ (by omega)]; omega
  have e4 : IntKind.wrap .u8 ((((l.getD i.toNat 0).toNat % 16 : Nat) : Int) + 1) = (((l.getD i.toNat 0).toNat % 16 + 1 : Nat) : Int) := by rw [u8_in _ (by omega)]; omega
  rw [e1, e2, e3, e4]
  simp only [bs_extract, bs_append, bs_size, Int.toNat_natCast]
  have cut : ∀ n : Nat, n < 16 → (([48, 49, 50, 51, 52, 53, 54, 55, 56, 57, 97, 98, 99, 100, 101, 102] : List UInt8).take (n + 1)).drop n = [sgn n] := fun n hn => cut_one _ n hn
  rw [cut _ (by omega), cut _ (by omega)]
  refine ⟨fun hi => ⟨by omega, by omega, by omega, by omega, by omega, ?_, by omega, by omega, by omega, by omega, by omega, ?_, ?_⟩, fun hi => ?_⟩
  · simp; omega
  · simp; omega
  · rw [i64_in _ (by omega)]
    refine ⟨_, ?_, by omega, by omega, ?_, rfl⟩
    · omega
    · rw [nat_i i h0, take_snoc l _ (by omega), hexL_snoc]; simp [hex1]
  · rw [show i.toNat = l.length by omega, List.take_length]

/-- each quote twice -/
def dbl1 (c : UInt8) : List UInt8 := if c = 39 then [39, 39] else [c]
def dblL (l : List UInt8) : List UInt8 := l.flatMap dbl1
theorem dblL_len (l : List UInt8) : (dblL l).length ≤ 2 * l.length := by
  induction l with
  | nil => simp [dblL]
  | cons a l ih =>
    show (dbl1 a ++ dblL l).length ≤ _
    rw [List.length_append]
    have : (dbl1 a).length ≤ 2 := by unfold dbl1; split <;> simp
    simp
    omega
theorem replK_other (b : UInt8) (hb : b ≠ 39) (m : List UInt8) (k : Nat) : Lib.replaceK [39] [39, 39] k (b :: m) = b :: Lib.replaceK [39] [39, 39] k m := by
  cases k with
  | zero => rfl
  | succ k =>
    have hbe : (b == 39) = false := by simpa using hb
    have hge := Lib.indexByte_ge m 39
    rw [Lib.replaceK, Lib.replaceK, Lib.index_one, Lib.index_one, Lib.indexByte, hbe]
    by_cases h : Lib.indexByte m 39 = -1
    · simp [h]
    · have h1 : (Lib.indexByte m 39 == -1) = false := by simpa using h
      have h2 : (Lib.indexByte m 39 + 1 == -1) = false := by
        rw [beq_eq_false_iff_ne]; omega
      have h3 : (Lib.indexByte m 39 + 1).toNat = (Lib.indexByte m 39).toNat + 1 := by omega
      simp [h1, h2, h3, Nat.add_right_comm]
theorem replK (l : List UInt8) : Lib.replaceK [39] [39, 39] (l.count 39) l = dblL l := by
  induction l with
  | nil => rfl
  | cons b m ih =>
    show _ = dbl1 b ++ dblL m
    by_cases hb : b = 39
    · subst hb
      rw [List.count_cons_self, Lib.replaceK_hit _ _ _ _ 0 (by rw [Lib.index_one]; simp [Lib.indexByte])]
      simp [dbl1, ih]
    · rw [List.count_cons_of_ne (by simpa using hb), replK_other b hb, ih]
      simp [dbl1, hb]
theorem repl_dbl (l : List UInt8) : Lib.replaceAll l [39] [39, 39] = dblL l := by
  unfold Lib.replaceAll Lib.replace Lib.replaceNum
  rw [if_neg (by decide), if_pos (.inl (by decide)), Lib.count_one]
  exact replK l
theorem cells3 {w : World} {X : Nat → Prop} {a b c : Value} {vs : List Value} (h : DVRs w X [.c (.v a), .c (.v b), .c (.v c)] vs) : vs = [a, b, c] := by
  match vs, h with
  | x :: r, h =>
    have h' := h
    simp only [DVRs, DVR] at h
    have : r = [b, c] := cells2 (w := w) (X := X) (by
      have h2 : DVRs w X [.c (.v b), .c (.v c)] r := h'.2
      exact h2)
    subst this
    obtain ⟨h1, _⟩ := h
    cases h1
    rfl
  | [], h => simp [DVRs] at h
theorem c_replaceAll (l : List UInt8) (hs : Sm l) : FnC Tryd.prog 60 [sD l, sD [39], sD [39, 39]] (sD (dblL l)) := by
  refine ⟨canEnter_of Tryd.func60 (by kernel_rfl) (by rfl), fun w X vs hg _ hvs => ?_⟩
  rw [cells3 hvs]
  obtain ⟨m, hm⟩ := hg 0 (by simp [gloList])
  unfold Sm at hs
  have hcb : Lib.countB (bs l) (bs [39]) ≤ l.length := by
    have := Lib.countB_le (bs [39]) (by simp [bs_size]) _ (bs l) (Nat.le_refl _)
    rwa [bs_size] at this
  refine (Tryd.strings_ReplaceAll (bs l) (bs [39]) (bs [39, 39]) m w (by rw [bs_size]; omega) hm (by rw [bs_size]; simp) (by rw [bs_size, bs_size]; simp; omega)).mono ?_
  rintro e w' ⟨rfl, hb⟩
  refine ⟨_, rfl, ?_, hb⟩
  rw [bs_data, bs_data, bs_data, repl_dbl, mk_bs]
  simp only [DVR]
  exact .v _ rfl

def quoteL (v : V3) : List UInt8 := if v.1 = 0 then [110, 117, 108, 108] else if v.1 = 1 then numL v.2.1 else if v.1 = 2 then 39 :: (dblL v.2.2 ++ [39]) else if v.1 = 3 then 120 :: 39 :: (hexL v.2.2 ++ [39]) else []
theorem c_tQuote (v : V3) (h : I64 v.2.1) (hs : Sm v.2.2) : FnC Tryd.prog 33 [vD v] (sD (quoteL v)) := by
  refine w33 v.1 v.2.1 (bs v.2.2) ?_
  have l1 := dblL_len v.2.2
  have l2 := hexL_len v.2.2
  have hs' := hs
  unfold Sm at hs'
  simp only [mk_bs, bs_append, bs_size]
  refine ⟨fun h0 => by simp [quoteL, h0], fun h0 => ⟨fun h1 => ⟨_, c_tNum _ h, by simp [quoteL, h1]⟩, fun h1 => ⟨fun h2 => ⟨_, c_replaceAll _ hs, ?_⟩, fun h2 => ⟨fun h3 => ⟨_, c_tHex _ hs, ?_⟩, fun h3 => by simp [quoteL, h0, h1, h2, h3]⟩⟩⟩⟩
  · rw [bs_append, bs_append, bs_size, bs_size]
    refine ⟨by simp; omega, by simp; omega, ?_⟩
    simp [quoteL, h2]
  · rw [bs_append, bs_append, bs_size, bs_size]
    refine ⟨by simp; omega, by simp; omega, ?_⟩
    simp [quoteL, h3]
theorem dblL_snoc (l : List UInt8) (c : UInt8) : dblL (l ++ [c]) = dblL l ++ dbl1 c := by simp [dblL]
theorem c_r3Quote (v : V3) (h : I64 v.2.1) (hs : Sm v.2.2) : FnC Tryd.prog 24 [vD v] (sD (quoteL v)) := by
  refine w24 v.1 v.2.1 (bs v.2.2) ?_
  have l2 := hexL_len v.2.2
  have hs' := hs
  unfold Sm at hs'
  simp only [mk_bs, bs_append, bs_size, byteAt_bs]
  refine ⟨fun h0 => by simp [quoteL, h0], fun h0 => ⟨fun h1 => ⟨_, c_r3Num _ h, by simp [quoteL, h1]⟩, fun h1 => ⟨fun h2 => ?_, fun h2 => ⟨fun h3 => ⟨_, c_r3Hex _ hs, ?_⟩, fun h3 => by simp [quoteL, h0, h1, h2, h3]⟩⟩⟩⟩
  · have hq : quoteL v = 39 :: (dblL v.2.2 ++ [39]) := by simp [quoteL, h2]
    rw [hq]
    generalize v.2.2 = l at *
    refine ⟨fun out i k => 0 ≤ i ∧ i ≤ l.length ∧ out = bs (39 :: dblL (l.take i.toNat)) ∧ k = l.length - i.toNat, ⟨_, by omega, by omega, by simp [dblL], rfl⟩, ?_⟩
    rintro k out i ⟨h0, h1, rfl, rfl⟩
    have hlen := dblL_len (l.take i.toNat)
    rw [List.length_take] at hlen
    simp only [bs_append, bs_size, bs_extract, Int.toNat_natCast]
    refine ⟨fun hi => ⟨by omega, ?_⟩, fun hi => ?_⟩
    · have hi' : i.toNat < l.length := by omega
      rw [i64_in _ (by omega), nat_i i h0, cut_one l _ hi']
      refine ⟨fun hc => ⟨by simp; omega, by omega, by simp; omega, _, ?_, by omega, by omega, ?_, rfl⟩, fun hc => ⟨by omega, by simp; omega, _, ?_, by omega, by omega, ?_, rfl⟩⟩
      · omega
      · have hc : l.getD i.toNat 0 = 39 := u8_ext (b := 39) hc
        rw [take_snoc l _ hi', dblL_snoc, hc]; simp [dbl1]
      · omega
      · have hc : ¬ l.getD i.toNat 0 = 39 := fun e => hc (by rw [e]; rfl)
        rw [take_snoc l _ hi', dblL_snoc, dbl1, if_neg hc]; simp
    · rw [show i.toNat = l.length by omega, List.take_length]
      have := dblL_len l
      exact ⟨by simp; omega, by simp⟩
  · rw [bs_append, bs_append, bs_size, bs_size]
    refine ⟨by simp; omega, by simp; omega, ?_⟩
    simp [quoteL, h3]
end Go.Proofs.YtabakkdlcjpjfaaDoor
