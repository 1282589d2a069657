/- What Fold, Name and Hex of package text compute, and what the document's do. Condition: a text of at most a million bytes. -/
import Derived.Test.YtabakkdlcjpjfaaDoorFo
namespace Go.Proofs.YtabakkdlcjpjfaaDoor
open Go.RowKit Go.IntWalk
set_option linter.unusedSimpArgs false
set_option linter.unusedVariables false

def Sm (l : List UInt8) : Prop := l.length ≤ 1000000
theorem Sm.sz {l : List UInt8} (h : Sm l) : Sz l := by unfold Sm at h; unfold Sz; omega
theorem take_snoc (l : List UInt8) (i : Nat) (h : i < l.length) : l.take (i + 1) = l.take i ++ [l.getD i 0] := by
  rw [List.take_add_one]
  congr 1
  simp [List.getD_eq_getElem?_getD, h]
theorem nat_i (i : Int) (h : 0 ≤ i) : (i + 1).toNat = i.toNat + 1 := by omega

theorem c_r3Fold (l : List UInt8) (hs : Sm l) : FnC Tryd.prog 22 [sD l] (sD (foldL l)) := by
  unfold Sm at hs
  refine w22 (bs l) ?_
  simp only [bs_size, byteAt_bs]
  refine ⟨fun out i k => 0 ≤ i ∧ i ≤ l.length ∧ out = bs (foldL (l.take i.toNat)) ∧ k = l.length - i.toNat, ⟨_, by omega, by omega, by simp [foldL, mk_bs], rfl⟩, ?_⟩
  rintro k out i ⟨h0, h1, rfl, rfl⟩
  have hlen : (foldL (l.take i.toNat)).length = i.toNat := by rw [foldL_len, List.length_take]; omega
  refine ⟨fun hi => ⟨by omega, fun hc => ?_, fun hc => ?_⟩, fun hi => ?_⟩
  · intro x3 hx3
    have e : IntKind.wrap .u8 (((l.getD i.toNat 0).toNat : Int) + 32) = ((low (l.getD i.toNat 0)).toNat : Int) := by
      rw [u8_in _ (by omega), low_up _ hc]
    rw [show ([[CV.v (.int .u8 (IntKind.wrap .u8 (((l.getD i.toNat 0).toNat : Int) + 32)))]] : List (List CV)) = bc [low (l.getD i.toNat 0)] by rw [e]; rfl] at hx3
    subst hx3
    rw [bc_str, bs_size, bs_size, bs_append, i64_in _ (by omega)]
    refine ⟨bc_all _, by simp; omega, _, ?_, by omega, by omega, ?_, rfl⟩
    · omega
    · rw [nat_i i h0, take_snoc l _ (by omega)]; simp [foldL]
  · intro x3 hx3
    rw [show ([[CV.v (.int .u8 ((l.getD i.toNat 0).toNat : Int))]] : List (List CV)) = bc [low (l.getD i.toNat 0)] by rw [low_stay _ hc]; rfl] at hx3
    subst hx3
    rw [bc_str, bs_size, bs_size, bs_append, i64_in _ (by omega)]
    refine ⟨bc_all _, by simp; omega, _, ?_, by omega, by omega, ?_, rfl⟩
    · omega
    · rw [nat_i i h0, take_snoc l _ (by omega)]; simp [foldL]
  · rw [show i.toNat = l.length by omega, List.take_length]

def isLet (c : UInt8) : Bool := decide (97 ≤ c.toNat ∧ c.toNat ≤ 122) || decide (65 ≤ c.toNat ∧ c.toNat ≤ 90)
def okS (i : Nat) (c : UInt8) : Bool := isLet c || c == 95 || (decide (0 < i) && isDig c)
def nameL (l : List UInt8) : Bool := decide (1 ≤ l.length) && decide (l.length ≤ 32) && (List.range l.length).all fun i => okS i (l.getD i 0)
theorem nameL_of {l : List UInt8} (h : ∀ j, j < l.length → okS j (l.getD j 0) = true) (h1 : 1 ≤ l.length) (h2 : l.length ≤ 32) : nameL l = true := by
  simp only [nameL, h1, h2, decide_true, Bool.true_and, List.all_eq_true, List.mem_range]
  exact h
theorem nameL_not {l : List UInt8} {j : Nat} (hj : j < l.length) (h : okS j (l.getD j 0) = false) : nameL l = false := by
  cases hn : nameL l
  · rfl
  · simp only [nameL, Bool.and_eq_true, List.all_eq_true, List.mem_range] at hn
    have := hn.2 j hj
    rw [h] at this
    cases this
theorem low_ok (i : Nat) (c : UInt8) : (((low c).toNat : Int) = 95 ∨ (97 ≤ ((low c).toNat : Int) ∧ ((low c).toNat : Int) ≤ 122) ∨ ((48 ≤ ((low c).toNat : Int) ∧ ((low c).toNat : Int) ≤ 57) ∧ 0 < i)) ↔ okS i c = true := by
  have e95 : (c == 95) = decide (c.toNat = 95) := by
    rw [Bool.eq_iff_iff, beq_iff_eq, decide_eq_true_eq]
    exact ⟨fun h => by rw [h]; rfl, fun h => UInt8.toNat_inj.1 h⟩
  simp only [okS, isLet, isDig, e95, Bool.or_eq_true, Bool.and_eq_true, decide_eq_true_eq]
  by_cases h : 65 ≤ (c.toNat : Int) ∧ (c.toNat : Int) ≤ 90
  · rw [low_up c h]; omega
  · rw [low_stay c h]; omega
end Go.Proofs.YtabakkdlcjpjfaaDoor
