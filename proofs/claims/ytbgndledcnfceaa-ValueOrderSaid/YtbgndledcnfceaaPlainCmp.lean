/- Plain laws: the order of values is a total preorder, turned round it is the opposite. No condition. -/
import Derived.Test.YtbgndledcnfceaaCmp
namespace Go.Proofs.Ytbgndledcnfceaa
open Go.RowKit

theorem cb_refl : ∀ x : List UInt8, Lib.compareBytes x x = 0
  | [] => rfl
  | a :: x => by
    have h : ¬ a < a := fun h => absurd h (UInt8.lt_irrefl a)
    simp only [Lib.compareBytes, h, if_false]
    exact cb_refl x
theorem cb_swap : ∀ x y : List UInt8, Lib.compareBytes y x = -Lib.compareBytes x y
  | [], [] => rfl
  | [], _ :: _ => rfl
  | _ :: _, [] => rfl
  | a :: x, b :: y => by
    have ih := cb_swap x y
    simp only [Lib.compareBytes]
    by_cases h1 : a < b
    · have h2 : ¬ b < a := fun h => absurd (UInt8.lt_trans h1 h) (UInt8.lt_irrefl a)
      simp [h1, h2]
    · by_cases h2 : b < a
      · simp [h1, h2]
      · simp only [h1, h2, if_false]; exact ih
theorem cb_one : ∀ x y : List UInt8, Lib.compareBytes x y = -1 ∨ Lib.compareBytes x y = 0 ∨ Lib.compareBytes x y = 1
  | [], [] => by simp [Lib.compareBytes]
  | [], _ :: _ => by simp [Lib.compareBytes]
  | _ :: _, [] => by simp [Lib.compareBytes]
  | a :: x, b :: y => by
    have ih := cb_one x y
    simp only [Lib.compareBytes]
    by_cases h1 : a < b
    · simp [h1]
    · by_cases h2 : b < a
      · simp [h1, h2]
      · simp only [h1, h2, if_false]; exact ih
theorem u8_eq {a b : UInt8} (h1 : ¬ a < b) (h2 : ¬ b < a) : a = b := UInt8.le_antisymm (UInt8.not_lt.1 h2) (UInt8.not_lt.1 h1)
theorem cb_eq : ∀ x y : List UInt8, Lib.compareBytes x y = 0 → x = y
  | [], [], _ => rfl
  | [], _ :: _, h => by simp [Lib.compareBytes] at h
  | _ :: _, [], h => by simp [Lib.compareBytes] at h
  | a :: x, b :: y, h => by
    simp only [Lib.compareBytes] at h
    by_cases h1 : a < b
    · simp [h1] at h
    · by_cases h2 : b < a
      · simp [h1, h2] at h
      · simp only [h1, h2, if_false] at h
        rw [u8_eq h1 h2, cb_eq x y h]
theorem cb_trans : ∀ x y z : List UInt8, Lib.compareBytes x y ≤ 0 → Lib.compareBytes y z ≤ 0 → Lib.compareBytes x z ≤ 0
  | [], _, [], _, _ => by simp [Lib.compareBytes]
  | [], _, _ :: _, _, _ => by simp [Lib.compareBytes]
  | _ :: _, [], _, h, _ => by simp [Lib.compareBytes] at h
  | _ :: _, _ :: _, [], _, h => by simp [Lib.compareBytes] at h
  | a :: x, b :: y, c :: z, hx, hy => by
    have ih := cb_trans x y z
    simp only [Lib.compareBytes] at hx hy ⊢
    by_cases h1 : a < c
    · simp [h1]
    · by_cases h2 : a < b
      · by_cases h3 : b < c
        · exact absurd (UInt8.lt_trans h2 h3) h1
        · by_cases h4 : c < b
          · simp [h3, h4] at hy
          · have := u8_eq h3 h4
            subst this
            exact absurd h2 h1
      · by_cases h3 : b < a
        · simp [h2, h3] at hx
        · have := u8_eq h2 h3
          subst this
          by_cases h4 : c < a
          · simp [h1, h4] at hy
          · simp only [h1, h4, if_false] at hy ⊢
            simp only [UInt8.lt_irrefl, if_false] at hx
            exact ih hx hy
theorem ci_swap (x y : Int) : Lib.compareInt y x = -Lib.compareInt x y := by
  unfold Lib.compareInt
  split <;> split <;> first | omega | (split <;> first | omega | (split <;> omega)) | (split <;> omega)
theorem ci_trans (x y z : Int) (h1 : Lib.compareInt x y ≤ 0) (h2 : Lib.compareInt y z ≤ 0) : Lib.compareInt x z ≤ 0 := by
  unfold Lib.compareInt at *
  by_cases a : x < z
  · simp [a]
  · by_cases b : x > z
    · exfalso
      by_cases c : x < y
      · by_cases d : y < z
        · omega
        · by_cases e : y > z
          · simp [d, e] at h2
          · omega
      · by_cases d : x > y
        · simp [c, d] at h1
        · by_cases e : y < z
          · omega
          · by_cases f : y > z
            · simp [e, f] at h2
            · omega
    · simp [a, b]
theorem ci_eq (x y : Int) (h : Lib.compareInt x y = 0) : x = y := by
  unfold Lib.compareInt at h
  by_cases a : x < y
  · simp [a] at h
  · by_cases b : x > y
    · simp [a, b] at h
    · omega
theorem ci_refl (x : Int) : Lib.compareInt x x = 0 := by unfold Lib.compareInt; simp
theorem ci_lt (x y : Int) : Lib.compareInt x y < 0 ↔ x < y := by
  unfold Lib.compareInt
  by_cases a : x < y
  · simp [a]
  · by_cases b : x > y
    · simp [a, b]
    · simp [a, b]

/-- a way to compare that is a total preorder -/
structure Fine {α : Type} (f : α → α → Int) : Prop where
  refl : ∀ a, f a a = 0
  swap : ∀ a b, f b a = -f a b
  trans : ∀ a b c, f a b ≤ 0 → f b c ≤ 0 → f a c ≤ 0
theorem fine_int : Fine Lib.compareInt := ⟨ci_refl, ci_swap, ci_trans⟩
theorem fine_bytes : Fine Lib.compareBytes := ⟨cb_refl, cb_swap, cb_trans⟩
theorem Fine.map {α β : Type} {f : α → α → Int} (h : Fine f) (g : β → α) : Fine fun a b => f (g a) (g b) := ⟨fun _ => h.refl _, fun _ _ => h.swap _ _, fun _ _ _ => h.trans _ _ _⟩
theorem fine_zero (α : Type) : Fine fun (_ _ : α) => (0 : Int) := ⟨fun _ => rfl, fun _ _ => rfl, fun _ _ _ _ _ => by omega⟩
/-- first by one, then by another that may hang on the first -/
theorem Fine.lex {α : Type} (k : α → Int) (f : Int → α → α → Int) (hf : ∀ n, Fine (f n)) : Fine fun a b => if k a ≠ k b then Lib.compareInt (k a) (k b) else f (k a) a b := by
  refine ⟨fun a => ?_, fun a b => ?_, fun a b c h1 h2 => ?_⟩
  · simp [(hf _).refl]
  · by_cases e : k a = k b
    · simp only [e, ne_eq, not_true_eq_false, if_false]; exact (hf _).swap a b
    · simp only [ne_eq, e, Ne.symm e, not_false_eq_true, if_true]
      exact ci_swap _ _
  · by_cases e1 : k a = k b
    · by_cases e2 : k b = k c
      · simp only [e1, e2, ne_eq, not_true_eq_false, if_false] at h1 h2 ⊢
        exact (hf _).trans a b c h1 h2
      · simp only [e1, e2, ne_eq, not_false_eq_true, if_true] at h2 ⊢; exact h2
    · by_cases e2 : k b = k c
      · rw [← e2]
        simp only [e1, ne_eq, not_false_eq_true, if_true] at h1 ⊢; exact h1
      · simp only [e1, e2, ne_eq, not_false_eq_true, if_true] at h1 h2
        have l1 : k a < k b := (ci_lt _ _).1 (by
          rcases Int.lt_or_eq_of_le h1 with h | h
          · exact h
          · exact absurd (ci_eq _ _ h) e1)
        have l2 : k b < k c := (ci_lt _ _).1 (by
          rcases Int.lt_or_eq_of_le h2 with h | h
          · exact h
          · exact absurd (ci_eq _ _ h) e2)
        have l3 := (ci_lt (k a) (k c)).2 (by omega)
        simp only [show ¬ k a = k c from by omega, ne_eq, not_false_eq_true, if_true]
        omega
/-- a value -/
abbrev V3 := Int × Int × ByteArray
def cmpV (coll : Int) (a b : V3) : Int := cmpR a.1 a.2.1 a.2.2 b.1 b.2.1 b.2.2 coll
theorem fine_cmp (coll : Int) : Fine (cmpV coll) := by
  have h := Fine.lex (α := V3) (fun a => a.1) (fun k a b => if k = 1 then Lib.compareInt a.2.1 b.2.1 else if k = 2 ∧ coll = 1 then Lib.compareBytes (foldB a.2.2).data.toList (foldB b.2.2).data.toList else if k = 2 ∨ k = 3 then Lib.compareBytes a.2.2.data.toList b.2.2.data.toList else 0) (fun k => by
    by_cases h1 : k = 1
    · simp only [h1, if_true]; exact fine_int.map (fun a : V3 => a.2.1)
    · by_cases h2 : k = 2 ∧ coll = 1
      · simp only [h2, if_true, and_self]; exact fine_bytes.map (fun a : V3 => (foldB a.2.2).data.toList)
      · by_cases h3 : k = 2 ∨ k = 3
        · simp only [h1, h2, h3, if_false, if_true]; exact fine_bytes.map (fun a : V3 => a.2.2.data.toList)
        · simp only [h1, h2, h3, if_false]; exact fine_zero _)
  exact h
theorem ba_of_list (a b : ByteArray) (h : a.data.toList = b.data.toList) : a = b := by
  cases a with
  | mk d => cases d with
    | mk l => cases b with
      | mk d2 => cases d2 with
        | mk l2 => simp at h; subst h; rfl
/-- values that may be, and are neither ahead nor behind under Binary, are the same -/
theorem cmp_same (ka na : Int) (sa : ByteArray) (kb nb : Int) (sb : ByteArray) (h : cmpR ka na sa kb nb sb 0 = 0)
    (ha : (ka = 0 ∧ na = 0 ∧ sa = ⟨#[]⟩) ∨ (ka = 1 ∧ sa = ⟨#[]⟩) ∨ (ka = 2 ∧ na = 0) ∨ (ka = 3 ∧ na = 0))
    (hb : (kb = 0 ∧ nb = 0 ∧ sb = ⟨#[]⟩) ∨ (kb = 1 ∧ sb = ⟨#[]⟩) ∨ (kb = 2 ∧ nb = 0) ∨ (kb = 3 ∧ nb = 0)) : ka = kb ∧ na = nb ∧ sa = sb := by
  unfold cmpR at h
  by_cases e : ka = kb
  · subst e
    rw [if_neg (by simp)] at h
    refine ⟨rfl, ?_⟩
    by_cases h1 : ka = 1
    · subst h1
      rw [if_pos rfl] at h
      have := ci_eq _ _ h
      refine ⟨this, ?_⟩
      have a1 : sa = ⟨#[]⟩ := by rcases ha with h | h | h | h <;> first | exact h.2.2 | exact h.2 | (exfalso; omega)
      have b1 : sb = ⟨#[]⟩ := by rcases hb with h | h | h | h <;> first | exact h.2.2 | exact h.2 | (exfalso; omega)
      rw [a1, b1]
    · rw [if_neg h1, if_neg (by simp)] at h
      by_cases h2 : ka = 2 ∨ ka = 3
      · rw [if_pos h2] at h
        refine ⟨by omega, ba_of_list _ _ (cb_eq _ _ h)⟩
      · have a1 : na = 0 ∧ sa = ⟨#[]⟩ := by rcases ha with h | h | h | h <;> first | exact h.2 | (exfalso; omega)
        have b1 : nb = 0 ∧ sb = ⟨#[]⟩ := by rcases hb with h | h | h | h <;> first | exact h.2 | (exfalso; omega)
        rw [a1.1, a1.2, b1.1, b1.2]; exact ⟨rfl, rfl⟩
  · rw [if_pos e] at h
    exact absurd (ci_eq _ _ h) e
end Go.Proofs.Ytbgndledcnfceaa
