/- What the document's Num and Read compute: the digits of a number, and the number of a text. Conditions: a number of 64 bits; a text that a machine can hold. -/
import Derived.Test.YtdgjcdhomfhfpaaCt3
namespace Go.Proofs.Ytdgjcdhomfhfpaa
open Go.RowKit Go.IntWalk
set_option linter.unusedSimpArgs false
set_option linter.unusedVariables false

theorem one_byte (z : Int) (b : UInt8) (h : z = (b.toNat : Int)) : ([[CV.v (.int .u8 z)]] : List (List CV)) = bc [b] := by subst h; rfl
theorem less_val : ∀ (l m : List UInt8) (n : Nat), l.all isDig = true → m.all isDig = true → l.length = m.length → ((Op.bytesLess l m = true ∨ l = m) ↔ valG n l ≤ valG n m)
  | [], [], n, _, _, _ => by simp
  | a :: l, b :: m, n, hl, hm, he => by
    simp only [List.all_cons, Bool.and_eq_true, isDig, decide_eq_true_eq] at hl hm
    obtain ⟨ha, hl⟩ := hl
    obtain ⟨hb, hm⟩ := hm
    have hl' : l.all isDig = true := by simpa [isDig] using hl
    have hm' : m.all isDig = true := by simpa [isDig] using hm
    have he' : l.length = m.length := by simpa using he
    show _ ↔ valG (10 * n + (a.toNat - 48)) l ≤ valG (10 * n + (b.toNat - 48)) m
    have v1 := valG_lt l (10 * n + (a.toNat - 48)) hl'
    have v2 := valG_lt m (10 * n + (b.toNat - 48)) hm'
    rw [he'] at v1
    by_cases hab : a = b
    · subst hab
      rw [← less_val l m _ hl' hm' he']
      simp [Op.bytesLess]
    · by_cases hlt : a < b
      · have h1 : a.toNat < b.toNat := hlt
        have : (10 * n + (a.toNat - 48) + 1) * 10 ^ m.length ≤ (10 * n + (b.toNat - 48)) * 10 ^ m.length := Nat.mul_le_mul_right _ (by omega)
        constructor
        · intro _; omega
        · intro _; left; simp [Op.bytesLess, hlt]
      · have h1 : b.toNat < a.toNat := by
          have h1 : ¬ a.toNat < b.toNat := hlt
          have h2 : a.toNat ≠ b.toNat := fun e => hab (UInt8.toNat_inj.1 e)
          omega
        have : (10 * n + (b.toNat - 48) + 1) * 10 ^ m.length ≤ (10 * n + (a.toNat - 48)) * 10 ^ m.length := Nat.mul_le_mul_right _ (by omega)
        constructor
        · rintro (h | h)
          · have hba : b < a := h1
            simp [Op.bytesLess, hlt] at h
            exact absurd h.1 hab
          · simp only [List.cons.injEq] at h
            exact absurd h.1 hab
        · intro h; omega
  | [], _ :: _, _, _, _, he => by simp at he
  | _ :: _, [], _, _, _, he => by simp at he
theorem most_val : valL [57, 50, 50, 51, 51, 55, 50, 48, 51, 54, 56, 53, 52, 55, 55, 53, 56, 48, 56] = 9223372036854775808 ∧ valL [57, 50, 50, 51, 51, 55, 50, 48, 51, 54, 56, 53, 52, 55, 55, 53, 56, 48, 55] = 9223372036854775807 := by decide +kernel
theorem digitsL_lead {d : List UInt8} (h : digitsL d = true) (hl : 19 < d.length) : 10000000000000000000 ≤ valL d := by
  obtain ⟨h1, h2⟩ := (by simpa only [digitsL, Bool.and_eq_true] using h : d.all isDig = true ∧ (d.length == 1 || (decide (1 < d.length) && !(d.getD 0 0 == 48))) = true)
  cases d with
  | nil => simp at hl
  | cons a d =>
    simp only [List.length_cons] at hl h2
    have h3 : ((d.length + 1 == 1) : Bool) = false := beq_false_of_ne (by omega)
    rw [h3] at h2
    have ha : ¬ a = 48 := by
      have : (List.getD (a :: d) 0 0 == 48) = false := by
        cases hh : (List.getD (a :: d) 0 0 == 48)
        · rfl
        · rw [hh] at h2; simp at h2
      intro e
      subst e
      simp at this
    simp only [List.all_cons, Bool.and_eq_true, isDig, decide_eq_true_eq] at h1
    have ha' : a.toNat ≠ 48 := fun e => ha (UInt8.toNat_inj.1 e)
    have := (valG_lt d (a.toNat - 48) (by simpa [isDig] using h1.2)).2
    have e : valL (a :: d) = valG (a.toNat - 48) d := by
      show valG (10 * 0 + (a.toNat - 48)) d = _
      simp
    rw [e]
    have h19 : 10 ^ 19 ≤ 10 ^ d.length := Nat.pow_le_pow_right (by omega) (by omega)
    have : 1 * 10 ^ d.length ≤ (a.toNat - 48) * 10 ^ d.length := Nat.mul_le_mul_right _ (by omega)
    omega
theorem digitsL_short {d : List UInt8} (h : digitsL d = true) (hl : d.length < 19) : valL d < 1000000000000000000 := by
  have := (valG_lt d 0 (digitsL_all h)).1
  have h2 : 10 ^ d.length ≤ 10 ^ 18 := Nat.pow_le_pow_right (by omega) (by omega)
  unfold valL
  omega

theorem over_iff {d m : List UInt8} {M : Nat} (h : digitsL d = true) (hm : valL m = M) (hma : m.all isDig = true) (hml : m.length = 19) (hM : 1000000000000000000 ≤ M ∧ M < 10000000000000000000) :
    ((19 : Int) < (d.length : Int) ∨ ((d.length : Int) = 19 ∧ ¬ (Op.bytesLess d m = true ∨ d = m))) ↔ M < valL d := by
  rcases Nat.lt_trichotomy d.length 19 with hl | hl | hl
  · have := digitsL_short h hl
    constructor
    · intro h; omega
    · intro h; omega
  · have := less_val d m 0 (digitsL_all h) hma (by omega)
    rw [this]
    unfold valL at *
    constructor
    · rintro (h | h) <;> omega
    · intro h; right; constructor <;> omega
  · have := digitsL_lead h hl
    constructor
    · intro _; omega
    · intro _; left; omega

theorem rstep (d : List UInt8) (hd : d.all isDig = true) (n : Int) (i : Nat) (hi : i < d.length) (hn : n = -(valL (d.take i) : Int)) (hb : (valL d : Int) ≤ 9223372036854775808) :
    IntKind.wrap .i64 (IntKind.wrap .i64 (10 * n) - IntKind.wrap .i64 (IntKind.wrap .u8 (((d.getD i 0).toNat : Int) - 48))) = -(valL (d.take (i + 1)) : Int) := by
  have hg := getD_dig hd hi
  have hv : (valL (d.take (i + 1)) : Int) = 10 * (valL (d.take i) : Int) + (((d.getD i 0).toNat - 48 : Nat) : Int) := by
    rw [List.take_add_one, valL, valG_app]
    have : d[i]?.toList = [d.getD i 0] := by simp [List.getD_eq_getElem?_getD, hi]
    rw [this, valG_one]
    simp [valL]
  have hmono : valL (d.take (i + 1)) ≤ valL d := by
    conv => rhs; rw [← List.take_append_drop (i + 1) d, valL, valG_app]
    have := valG_lt (d.drop (i + 1)) (valG 0 (d.take (i + 1))) (by
      rw [List.all_eq_true] at hd ⊢
      exact fun x hx => hd x (List.mem_of_mem_drop hx))
    have h2 := this.2
    have : valG 0 (d.take (i + 1)) ≤ valG 0 (d.take (i + 1)) * 10 ^ (d.drop (i + 1)).length := Nat.le_mul_of_pos_right _ (Nat.pow_pos (by omega))
    unfold valL
    omega
  have e1 : IntKind.wrap .u8 (((d.getD i 0).toNat : Int) - 48) = (((d.getD i 0).toNat : Int) - 48) := u8_in _ (by omega)
  have e2 : IntKind.wrap .i64 (10 * n) = 10 * n := i64_in _ (by omega)
  have e3 : IntKind.wrap .i64 (((d.getD i 0).toNat : Int) - 48) = (((d.getD i 0).toNat : Int) - 48) := i64_in _ (by omega)
  rw [e1, e2, e3, i64_in _ (by omega)]
  omega

end Go.Proofs.Ytdgjcdhomfhfpaa
