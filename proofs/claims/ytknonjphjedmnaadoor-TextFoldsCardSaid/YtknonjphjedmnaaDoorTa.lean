/- What Fold, Name and Hex of package text compute, and what the document's do. Condition: a text of at most a million bytes. -/
import Derived.Test.YtknonjphjedmnaaDoorFo
namespace Go.Proofs.YtknonjphjedmnaaDoor
open Go.RowKit Go.IntWalk
set_option linter.unusedSimpArgs false
set_option linter.unusedVariables false

def Sm (l : List UInt8) : Prop := l.length ≤ 1000000
theorem Sm.sz {l : List UInt8} (h : Sm l) : Sz l := by unfold Sm at h; unfold Sz; omega
theorem take_snoc (l : List UInt8) (i : Nat) (h : i < l.length) : l.take (i + 1) = l.take i ++ [l.getD i 0] := by
  rw [List.take_add_one]
  congr 1
  simp [List.getD_eq_getElem?_getD, h]
theorem nat_i (i : Int) (h : 0 ≤ i) : (i + 1).toNat = i.toNat + 1 := by omega

theorem c_r3Fold (l : List UInt8) (hs : Sm l) : FnC Tryd.prog 15 [sD l] (sD (foldL l)) := by
  unfold Sm at hs
  refine w15 (bs l) ?_
  simp only [bs_size, byteAt_bs]
  refine ⟨fun out i k => 0 ≤ i ∧ i ≤ l.length ∧ out = bs (foldL (l.take i.toNat)) ∧ k = l.length - i.toNat, ⟨_, by omega, by omega, by simp [foldL, mk_bs], rfl⟩, ?_⟩
  rintro k out i ⟨h0, h1, rfl, rfl⟩
  have hlen : (foldL (l.take i.toNat)).length = i.toNat := by rw [foldL_len, List.length_take]; omega
  refine ⟨fun hi => ⟨by omega, fun hc => ?_, fun hc => ?_⟩, fun hi => ?_⟩
  · intro x3 hx3
    have e : IntKind.wrap .u8 (((l.getD i.toNat 0).toNat : Int) + 32) = ((low (l.getD i.toNat 0)).toNat : Int) := by
      rw [u8_in _ (by omega), low_up _ hc]
    rw [show ([[CV.v (.int .u8 (IntKind.wrap .u8 (((l.getD i.toNat 0).toNat : Int) + 32)))]] : List (List CV)) = bc [low (l.getD i.toNat 0)] by rw [e]; rfl] at hx3
    subst hx3
    rw [bc_str, bs_size, bs_size, bs_append, i64_in _ (by omega)]
    refine ⟨bc_all _, by simp; omega, _, ?_, by omega, by omega, ?_, rfl⟩
    · omega
    · rw [nat_i i h0, take_snoc l _ (by omega)]; simp [foldL]
  · intro x3 hx3
    rw [show ([[CV.v (.int .u8 ((l.getD i.toNat 0).toNat : Int))]] : List (List CV)) = bc [low (l.getD i.toNat 0)] by rw [low_stay _ hc]; rfl] at hx3
    subst hx3
    rw [bc_str, bs_size, bs_size, bs_append, i64_in _ (by omega)]
    refine ⟨bc_all _, by simp; omega, _, ?_, by omega, by omega, ?_, rfl⟩
    · omega
    · rw [nat_i i h0, take_snoc l _ (by omega)]; simp [foldL]
  · rw [show i.toNat = l.length by omega, List.take_length]

def isLet (c : UInt8) : Bool := decide (97 ≤ c.toNat ∧ c.toNat ≤ 122) || decide (65 ≤ c.toNat ∧ c.toNat ≤ 90)
def okS (i : Nat) (c : UInt8) : Bool := isLet c || c == 95 || (decide (0 < i) && isDig c)
def nameL (l : List UInt8) : Bool := decide (1 ≤ l.length) && decide (l.length ≤ 32) && (List.range l.length).all fun i => okS i (l.getD i 0)
theorem c_letter (c : Int) : FnC Tryd.prog 33 [.c (.v (.int .i32 c))] (bD (decide (97 ≤ c ∧ c ≤ 122) || decide (65 ≤ c ∧ c ≤ 90))) := by
  refine w33 c ?_
  by_cases h1 : 97 ≤ c <;> by_cases h2 : c ≤ 122 <;> by_cases h3 : 65 ≤ c <;> by_cases h4 : c ≤ 90 <;> simp [h1, h2, h3, h4]
theorem nameL_of {l : List UInt8} (h : ∀ j, j < l.length → okS j (l.getD j 0) = true) (h1 : 1 ≤ l.length) (h2 : l.length ≤ 32) : nameL l = true := by
  simp only [nameL, h1, h2, decide_true, Bool.true_and, List.all_eq_true, List.mem_range]
  exact h
theorem nameL_not {l : List UInt8} {j : Nat} (hj : j < l.length) (h : okS j (l.getD j 0) = false) : nameL l = false := by
  cases hn : nameL l
  · rfl
  · simp only [nameL, Bool.and_eq_true, List.all_eq_true, List.mem_range] at hn
    have := hn.2 j hj
    rw [h] at this
    cases this
theorem c_tName (l : List UInt8) (hs : Sm l) : FnC Tryd.prog 16 [sD l] (bD (nameL l)) := by
  refine w16 (bs l) ?_
  simp only [mk_bs, bs_inj, bs_size]
  refine ⟨fun h => ?_, fun h => ?_⟩
  · congr 3
    simp only [nameL]
    rcases h with rfl | h
    · rfl
    · have : ¬ l.length ≤ 32 := by omega
      simp [this]
  have hne : l ≠ [] := fun e => h (.inl e)
  have hpos : 0 < l.length := List.length_pos_iff.2 hne
  refine ⟨fun i k => 0 ≤ i ∧ i ≤ l.length ∧ (∀ j, j < i.toNat → okS j (l.getD j 0) = true) ∧ k = l.length - i.toNat, ⟨_, by omega, by omega, fun j hj => by simp at hj, rfl⟩, ?_⟩
  rintro k i ⟨h0, h1, h2, rfl⟩
  refine ⟨fun hi => ?_, fun hi => ?_⟩
  · have hi' : i.toNat < l.length := by omega
    have hok : okS i.toNat (l.getD i.toNat 0) = true ↔ ¬ ((¬ (decide (97 ≤ (((Utf8.decode (bs l) i.toNat).1 : Nat) : Int) ∧ (((Utf8.decode (bs l) i.toNat).1 : Nat) : Int) ≤ 122) || decide (65 ≤ (((Utf8.decode (bs l) i.toNat).1 : Nat) : Int) ∧ (((Utf8.decode (bs l) i.toNat).1 : Nat) : Int) ≤ 90)) = true ∧ ¬ (((Utf8.decode (bs l) i.toNat).1 : Nat) : Int) = 95) ∧ (i = 0 ∨ ¬ decide (48 ≤ (((Utf8.decode (bs l) i.toNat).1 : Nat) : Int) ∧ (((Utf8.decode (bs l) i.toNat).1 : Nat) : Int) ≤ 57) = true)) := by
      have e95 : (l.getD i.toNat 0 == 95) = decide ((l.getD i.toNat 0).toNat = 95) := by
        rw [Bool.eq_iff_iff, beq_iff_eq, decide_eq_true_eq]
        exact ⟨fun h => by rw [h]; rfl, fun h => UInt8.toNat_inj.1 h⟩
      simp only [okS, isLet, isDig, e95, Bool.or_eq_true, Bool.and_eq_true, decide_eq_true_eq]
      by_cases ha : (l.getD i.toNat 0).toNat < 128
      · rw [dec_low l _ hi' ha]
        simp only
        omega
      · have := dec_high l _ hi' (by omega)
        omega
    refine ⟨_, c_letter _, _, fun _ => c_digit _, fun hb => ?_, fun hb => ?_⟩
    · have : okS i.toNat (l.getD i.toNat 0) = false := by
        cases hh : okS i.toNat (l.getD i.toNat 0)
        · rfl
        · exact absurd hb (hok.1 hh)
      rw [nameL_not hi' this]
    · have hk := hok.2 hb
      have hlow : (l.getD i.toNat 0).toNat < 128 := by
        simp only [okS, isLet, isDig, Bool.or_eq_true, Bool.and_eq_true, decide_eq_true_eq, beq_iff_eq] at hk
        rcases hk with (hk | hk) | hk
        · omega
        · rw [hk]; decide
        · omega
      rw [dec_low l _ hi' hlow]
      refine ⟨_, ?_, by omega, by simp; omega, ?_, rfl⟩
      · simp; omega
      · intro j hj
        have e : (i + ((1 : Nat) : Int)).toNat = i.toNat + 1 := by omega
        simp only [e] at hj
        by_cases hji : j = i.toNat
        · rw [hji]; exact hk
        · exact h2 j (by omega)
  · have e : i.toNat = l.length := by omega
    rw [e] at h2
    rw [nameL_of h2 (by omega) (by omega)]
theorem low_ok (i : Nat) (c : UInt8) : (((low c).toNat : Int) = 95 ∨ (97 ≤ ((low c).toNat : Int) ∧ ((low c).toNat : Int) ≤ 122) ∨ ((48 ≤ ((low c).toNat : Int) ∧ ((low c).toNat : Int) ≤ 57) ∧ 0 < i)) ↔ okS i c = true := by
  have e95 : (c == 95) = decide (c.toNat = 95) := by
    rw [Bool.eq_iff_iff, beq_iff_eq, decide_eq_true_eq]
    exact ⟨fun h => by rw [h]; rfl, fun h => UInt8.toNat_inj.1 h⟩
  simp only [okS, isLet, isDig, e95, Bool.or_eq_true, Bool.and_eq_true, decide_eq_true_eq]
  by_cases h : 65 ≤ (c.toNat : Int) ∧ (c.toNat : Int) ≤ 90
  · rw [low_up c h]; omega
  · rw [low_stay c h]; omega
theorem c_r3Name (l : List UInt8) (hs : Sm l) : FnC Tryd.prog 17 [sD l] (bD (nameL l)) := by
  refine w17 (bs l) ?_
  simp only [bs_size]
  refine ⟨fun h => ?_, fun h => ⟨_, c_r3Fold l hs, ?_⟩⟩
  · congr 3
    simp only [nameL]
    rcases h with h | h
    · have : ¬ 1 ≤ l.length := by omega
      simp [this]
    · have : ¬ l.length ≤ 32 := by omega
      simp [this]
  simp only [bs_size, byteAt_bs, foldL_len]
  refine ⟨fun i k => 0 ≤ i ∧ i ≤ l.length ∧ (∀ j, j < i.toNat → okS j (l.getD j 0) = true) ∧ k = l.length - i.toNat, ⟨_, by omega, by omega, fun j hj => by simp at hj, rfl⟩, ?_⟩
  rintro k i ⟨h0, h1, h2, rfl⟩
  refine ⟨fun hi => ?_, fun hi => ?_⟩
  · have hi' : i.toNat < l.length := by omega
    have eg : (foldL l).getD i.toNat 0 = low (l.getD i.toNat 0) := by simp [foldL, List.getD_eq_getElem?_getD, hi']
    have hok := low_ok i.toNat (l.getD i.toNat 0)
    rw [eg]
    refine ⟨by omega, fun _ => by omega, by omega, fun _ => by omega, fun _ => by omega, fun hb => ?_, fun hb => ?_⟩
    · have : okS i.toNat (l.getD i.toNat 0) = false := by
        cases hh : okS i.toNat (l.getD i.toNat 0)
        · rfl
        · have := hok.2 hh; omega
      rw [nameL_not hi' this]
    · have hk := hok.1 (by omega)
      rw [i64_in _ (by omega)]
      refine ⟨_, ?_, by omega, by omega, ?_, rfl⟩
      · omega
      · intro j hj
        rw [nat_i i h0] at hj
        by_cases hji : j = i.toNat
        · rw [hji]; exact hk
        · exact h2 j (by omega)
  · have e : i.toNat = l.length := by omega
    rw [e] at h2
    rw [nameL_of h2 (by omega) (by omega)]
end Go.Proofs.YtknonjphjedmnaaDoor
