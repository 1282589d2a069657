/- Patterns: which texts a pattern stands for, from its front and from its end; the walk that goes back to the last star. Plain. No condition. -/
import Derived.Test.YtabakkdlcjpjfaaDoorPl
namespace Go.Proofs.YtabakkdlcjpjfaaDoor
set_option linter.unusedSimpArgs false
set_option linter.unusedVariables false

/-- the pattern p stands for the text s -/
def Lik : List UInt8 → List UInt8 → Prop
  | [], s => s = []
  | d :: p, s => (d = 37 ∧ ∃ n, n ≤ s.length ∧ Lik p (s.drop n)) ∨ (d ≠ 37 ∧ ∃ c t, s = c :: t ∧ (d = 95 ∨ d = c) ∧ Lik p t)

theorem Mt_snoc (d : UInt8) : ∀ (p s : List UInt8), Lik (p ++ [d]) s ↔ (d = 37 ∧ ∃ n, n ≤ s.length ∧ Lik p (s.take n)) ∨ (d ≠ 37 ∧ ∃ c t, s = t ++ [c] ∧ (d = 95 ∨ d = c) ∧ Lik p t)
  | [], s => by
    simp only [List.nil_append, Lik]
    constructor
    · rintro (⟨h, n, hn, he⟩ | ⟨h, c, t, rfl, hc, rfl⟩)
      · exact .inl ⟨h, 0, by omega, by simp⟩
      · exact .inr ⟨h, c, [], rfl, hc, rfl⟩
    · rintro (⟨h, n, hn, he⟩ | ⟨h, c, t, rfl, hc, rfl⟩)
      · exact .inl ⟨h, s.length, by omega, by simp⟩
      · exact .inr ⟨h, c, [], rfl, hc, rfl⟩
  | e :: p, s => by
    have ih := Mt_snoc d p
    simp only [List.cons_append, Lik]
    by_cases he : e = 37
    · simp only [he, true_and, ne_eq, not_true, false_and, or_false]
      constructor
      · rintro ⟨n, hn, h⟩
        rcases (ih _).1 h with ⟨hd, m, hm, h⟩ | ⟨hd, c, t, ht, hc, h⟩
        · refine .inl ⟨hd, n + m, by rw [List.length_drop] at hm; omega, n, by rw [List.length_take]; omega, ?_⟩
          rw [List.drop_take]
          rwa [show n + m - n = m by omega]
        · refine .inr ⟨hd, c, s.take n ++ t, ?_, hc, n, by simp; omega, ?_⟩
          · rw [List.append_assoc, ← ht, List.take_append_drop]
          · rw [List.drop_append_of_le_length (by rw [List.length_take]; omega), List.drop_of_length_le (by rw [List.length_take]; omega)]
            exact h
      · rintro (⟨hd, m, hm, n, hn, h⟩ | ⟨hd, c, t, rfl, hc, n, hn, h⟩)
        · rw [List.length_take] at hn
          refine ⟨n, by omega, (ih _).2 (.inl ⟨hd, m - n, by rw [List.length_drop]; omega, ?_⟩)⟩
          rwa [List.drop_take] at h
        · refine ⟨n, by simp; omega, (ih _).2 (.inr ⟨hd, c, t.drop n, ?_, hc, h⟩)⟩
          rw [List.drop_append_of_le_length hn]
    · simp only [he, false_and, ne_eq, not_false_eq_true, true_and, false_or]
      constructor
      · rintro ⟨c, t, rfl, hc, h⟩
        rcases (ih _).1 h with ⟨hd, m, hm, h⟩ | ⟨hd, c', t', rfl, hc', h⟩
        · exact .inl ⟨hd, m + 1, by simp; omega, c, t.take m, rfl, hc, h⟩
        · exact .inr ⟨hd, c', c :: t', rfl, hc', c, t', rfl, hc, h⟩
      · rintro (⟨hd, m, hm, c, t, ht, hc, h⟩ | ⟨hd, c', t', rfl, hc', c, t, ht, hc, h⟩)
        · cases s with
          | nil => simp at ht
          | cons a s =>
            cases m with
            | zero => simp at ht
            | succ m =>
              simp only [List.take_succ_cons, List.cons.injEq] at ht
              obtain ⟨rfl, rfl⟩ := ht
              exact ⟨a, s, rfl, hc, (ih _).2 (.inl ⟨hd, m, by simp at hm; omega, h⟩)⟩
        · subst ht
          exact ⟨c, t ++ [c'], rfl, hc, (ih _).2 (.inr ⟨hd, c', t, rfl, hc', h⟩)⟩

section
variable (s p : List UInt8)
/-- what is left of the pattern stands for what is left of the text -/
def LikM (i k : Nat) : Prop := Lik (p.drop k) (s.drop i)
theorem drop_c (l : List UInt8) (i : Nat) (h : i < l.length) : l.drop i = l.getD i 0 :: l.drop (i + 1) := by
  rw [List.drop_eq_getElem_cons h]
  congr 1
  simp [List.getD_eq_getElem?_getD, h]
theorem M_end (i : Nat) (hi : i ≤ s.length) : LikM s p i p.length ↔ i = s.length := by
  unfold LikM
  rw [List.drop_length]
  simp only [Lik]
  constructor
  · intro h
    have := congrArg List.length h
    simp at this
    omega
  · intro h; rw [h, List.drop_length]
theorem M_star (i k : Nat) (hi : i ≤ s.length) (hk : k < p.length) (h : p.getD k 0 = 37) : LikM s p i k ↔ ∃ j, i ≤ j ∧ j ≤ s.length ∧ LikM s p j (k + 1) := by
  unfold LikM
  rw [drop_c p k hk, h]
  simp only [Lik, true_and, ne_eq, not_true, false_and, or_false, List.length_drop, List.drop_drop]
  constructor
  · rintro ⟨n, hn, h⟩
    exact ⟨i + n, by omega, by omega, h⟩
  · rintro ⟨j, h1, h2, h⟩
    exact ⟨j - i, by omega, by rwa [show i + (j - i) = j by omega]⟩
theorem M_one (i k : Nat) (hi : i < s.length) (hk : k < p.length) (h : p.getD k 0 ≠ 37) : LikM s p i k ↔ (p.getD k 0 = 95 ∨ p.getD k 0 = s.getD i 0) ∧ LikM s p (i + 1) (k + 1) := by
  unfold LikM
  rw [drop_c p k hk, drop_c s i hi]
  simp only [Lik, h, false_and, ne_eq, not_false_eq_true, true_and, false_or, List.cons.injEq]
  constructor
  · rintro ⟨c, t, ⟨rfl, rfl⟩, hc, h⟩
    exact ⟨hc, h⟩
  · rintro ⟨hc, h⟩
    exact ⟨_, _, ⟨rfl, rfl⟩, hc, h⟩
theorem M_out (k : Nat) (hk : k < p.length) (h : p.getD k 0 ≠ 37) : ¬ LikM s p s.length k := by
  unfold LikM
  rw [drop_c p k hk, List.drop_length]
  simp only [Lik, h, false_and, ne_eq, not_false_eq_true, true_and, false_or]
  rintro ⟨c, t, ht, _⟩
  cases ht
/-- along a piece without stars -/
theorem M_slide : ∀ (n a j : Nat), a + n ≤ p.length → j ≤ s.length → (∀ t, a ≤ t → t < a + n → p.getD t 0 ≠ 37) → LikM s p j a → j + n ≤ s.length ∧ LikM s p (j + n) (a + n)
  | 0, a, j, _, hj, _, h => ⟨by omega, h⟩
  | n + 1, a, j, ha, hj, hno, h => by
    have h0 := hno a (by omega) (by omega)
    by_cases he : j = s.length
    · subst he
      exact absurd h (M_out s p a (by omega) h0)
    · have h1 := ((M_one s p j a (by omega) (by omega) h0).1 h).2
      obtain ⟨h2, h3⟩ := M_slide n (a + 1) (j + 1) (by omega) (by omega) (fun t h1 h2 => hno t (by omega) (by omega)) h1
      exact ⟨by omega, by rwa [show j + (n + 1) = j + 1 + n by omega, show a + (n + 1) = a + 1 + n by omega]⟩

/-- where the walk stands; star is one more than the place of the last star, 0: there was none -/
structure LkAt (i k back star : Nat) : Prop where
  hi : i ≤ s.length
  hk : k ≤ p.length
  hb : back ≤ i
  no : star = 0 → (LikM s p 0 0 ↔ LikM s p i k)
  yes : star ≠ 0 → star ≤ k ∧ p.getD (star - 1) 0 = 37 ∧ i - back = k - star ∧ (∀ t, star ≤ t → t < k → p.getD t 0 ≠ 37) ∧ (LikM s p 0 0 ↔ LikM s p i k ∨ ∃ j, back < j ∧ j ≤ s.length ∧ LikM s p j star)
theorem LkAt.start : LkAt s p 0 0 0 0 := ⟨by omega, by omega, by omega, fun _ => Iff.rfl, fun h => absurd rfl h⟩
variable {s p} {i k back star : Nat}
theorem LkAt.now (h : LkAt s p i k back star) (hk : k < p.length) (hs : p.getD k 0 = 37) : LikM s p 0 0 ↔ LikM s p i k := by
  by_cases h0 : star = 0
  · exact h.no h0
  · obtain ⟨h1, h2, h3, h4, h5⟩ := h.yes h0
    rw [h5]
    constructor
    · rintro (hm | ⟨j, hj1, hj2, hm⟩)
      · exact hm
      · have hb := h.hb
        obtain ⟨h6, h7⟩ := M_slide s p (k - star) star j (by omega) hj2 (fun t ht1 ht2 => h4 t ht1 (by omega)) hm
        rw [show star + (k - star) = k by omega] at h7
        rw [M_star s p _ k h6 hk hs] at h7
        obtain ⟨j', hj1', hj2', hm'⟩ := h7
        exact (M_star s p i k h.hi hk hs).2 ⟨j', by omega, hj2', hm'⟩
    · exact .inl
theorem LkAt.newStar (h : LkAt s p i k back star) (hk : k < p.length) (hs : p.getD k 0 = 37) : LkAt s p i (k + 1) i (k + 1) := by
  have hn := h.now hk hs
  refine ⟨h.hi, by omega, by omega, fun e => by omega, fun _ => ⟨by omega, by simpa using hs, by omega, fun t h1 h2 => by omega, ?_⟩⟩
  rw [hn, M_star s p i k h.hi hk hs]
  constructor
  · rintro ⟨j, h1, h2, h3⟩
    by_cases e : j = i
    · subst e; exact .inl h3
    · exact .inr ⟨j, by omega, h2, h3⟩
  · rintro (h3 | ⟨j, h1, h2, h3⟩)
    · exact ⟨i, by omega, h.hi, h3⟩
    · exact ⟨j, by omega, h2, h3⟩
theorem LkAt.step (h : LkAt s p i k back star) (hi : i < s.length) (hk : k < p.length) (hs : p.getD k 0 ≠ 37) (hc : p.getD k 0 = 95 ∨ p.getD k 0 = s.getD i 0) : LkAt s p (i + 1) (k + 1) back star := by
  have hm : LikM s p i k ↔ LikM s p (i + 1) (k + 1) := by
    rw [M_one s p i k hi hk hs]
    exact ⟨fun h => h.2, fun h => ⟨hc, h⟩⟩
  have hb := h.hb
  refine ⟨by omega, by omega, by omega, fun e => by rw [h.no e, hm], fun e => ?_⟩
  obtain ⟨h1, h2, h3, h4, h5⟩ := h.yes e
  refine ⟨by omega, h2, by omega, fun t ht1 ht2 => ?_, by rw [h5, hm]⟩
  by_cases et : t = k
  · rw [et]; exact hs
  · exact h4 t ht1 (by omega)
theorem LkAt.miss (h : LkAt s p i k back star) (hi : i < s.length) (hn : k = p.length ∨ (k < p.length ∧ p.getD k 0 ≠ 37 ∧ ¬ (p.getD k 0 = 95 ∨ p.getD k 0 = s.getD i 0))) : ¬ LikM s p i k := by
  rcases hn with e | ⟨h1, h2, h3⟩
  · rw [e, M_end s p i (by omega)]
    omega
  · rw [M_one s p i k hi h1 h2]
    exact fun hm => h3 hm.1
theorem LkAt.back' (h : LkAt s p i k back star) (hi : i < s.length) (h0 : star ≠ 0) (hm : ¬ LikM s p i k) : LkAt s p (back + 1) star (back + 1) star := by
  obtain ⟨h1, h2, h3, h4, h5⟩ := h.yes h0
  have hb := h.hb
  have hk := h.hk
  refine ⟨by omega, by omega, by omega, fun e => absurd e h0, fun _ => ⟨by omega, h2, by omega, fun t ht1 ht2 => by omega, ?_⟩⟩
  rw [h5]
  constructor
  · rintro (hc | ⟨j, hj1, hj2, hc⟩)
    · exact absurd hc hm
    · by_cases e : j = back + 1
      · subst e; exact .inl hc
      · exact .inr ⟨j, by omega, hj2, hc⟩
  · rintro (hc | ⟨j, hj1, hj2, hc⟩)
    · exact .inr ⟨back + 1, by omega, by omega, hc⟩
    · exact .inr ⟨j, by omega, hj2, hc⟩
theorem LkAt.fin (h : LkAt s p i k back star) (hi : i = s.length) : LikM s p 0 0 ↔ LikM s p s.length k := by
  subst hi
  by_cases h0 : star = 0
  · exact h.no h0
  · obtain ⟨h1, h2, h3, h4, h5⟩ := h.yes h0
    have hb := h.hb
    have hk := h.hk
    rw [h5]
    constructor
    · rintro (hm | ⟨j, hj1, hj2, hm⟩)
      · exact hm
      · obtain ⟨h6, _⟩ := M_slide s p (k - star) star j (by omega) hj2 (fun t ht1 ht2 => h4 t ht1 (by omega)) hm
        omega
    · exact .inl
theorem M_tail (hk : k < p.length) (hs : p.getD k 0 = 37) : LikM s p s.length k ↔ LikM s p s.length (k + 1) := by
  rw [M_star s p s.length k (Nat.le_refl _) hk hs]
  constructor
  · rintro ⟨j, h1, h2, h3⟩
    rwa [show j = s.length by omega] at h3
  · intro h; exact ⟨s.length, Nat.le_refl _, Nat.le_refl _, h⟩
end

/-- beginnings: N i k: the first k of the pattern stand for the first i of the text -/
def Nn (s p : List UInt8) (i k : Nat) : Prop := Lik (p.take k) (s.take i)
theorem Nn_zero (s p : List UInt8) (i : Nat) (hi : i ≤ s.length) : Nn s p i 0 ↔ i = 0 := by
  unfold Nn
  simp only [List.take_zero, Lik]
  constructor
  · intro h
    have := congrArg List.length h
    simp at this
    rcases this with h | h
    · exact h
    · subst h; simp at hi; exact hi
  · intro h; rw [h]; simp
theorem take_s (l : List UInt8) (i : Nat) (h : i < l.length) : l.take (i + 1) = l.take i ++ [l.getD i 0] := by
  rw [List.take_add_one]
  congr 1
  simp [List.getD_eq_getElem?_getD, h]
theorem Nn_star (s p : List UInt8) (i k : Nat) (hi : i ≤ s.length) (hk : k < p.length) (h : p.getD k 0 = 37) : Nn s p i (k + 1) ↔ Nn s p i k ∨ (0 < i ∧ Nn s p (i - 1) (k + 1)) := by
  have key : ∀ i, i ≤ s.length → (Nn s p i (k + 1) ↔ ∃ n, n ≤ i ∧ Nn s p n k) := fun i hi => by
    unfold Nn
    rw [take_s p k hk, Mt_snoc, h]
    simp only [true_and, ne_eq, not_true, false_and, or_false, List.length_take]
    constructor
    · rintro ⟨n, hn, hm⟩
      refine ⟨n, by omega, ?_⟩
      rwa [List.take_take, show min n i = n by omega] at hm
    · rintro ⟨n, hn, hm⟩
      refine ⟨n, by omega, ?_⟩
      rwa [List.take_take, show min n i = n by omega]
  rw [key i hi]
  constructor
  · rintro ⟨n, hn, hm⟩
    by_cases e : n = i
    · subst e; exact .inl hm
    · exact .inr ⟨by omega, (key (i - 1) (by omega)).2 ⟨n, by omega, hm⟩⟩
  · rintro (hm | ⟨h0, hm⟩)
    · exact ⟨i, Nat.le_refl _, hm⟩
    · obtain ⟨n, hn, hm⟩ := (key (i - 1) (by omega)).1 hm
      exact ⟨n, by omega, hm⟩
theorem Nn_one (s p : List UInt8) (i k : Nat) (hi : i ≤ s.length) (hk : k < p.length) (h : p.getD k 0 ≠ 37) : Nn s p i (k + 1) ↔ 0 < i ∧ Nn s p (i - 1) k ∧ (p.getD k 0 = 95 ∨ p.getD k 0 = s.getD (i - 1) 0) := by
  unfold Nn
  rw [take_s p k hk, Mt_snoc]
  simp only [h, false_and, ne_eq, not_false_eq_true, true_and, false_or]
  constructor
  · rintro ⟨c, t, ht, hc, hm⟩
    cases i with
    | zero =>
      have := congrArg List.length ht
      simp at this
    | succ i =>
      rw [take_s s i (by omega)] at ht
      have h1 := List.append_inj' ht rfl
      obtain ⟨rfl, h2⟩ := h1
      simp only [List.cons.injEq, and_true] at h2
      subst h2
      exact ⟨by omega, hm, hc⟩
  · rintro ⟨h0, hm, hc⟩
    obtain ⟨j, rfl⟩ : ∃ j, i = j + 1 := ⟨i - 1, by omega⟩
    exact ⟨_, _, take_s s j (by omega), hc, hm⟩
theorem Nn_all (s p : List UInt8) : Nn s p s.length p.length ↔ LikM s p 0 0 := by
  unfold Nn LikM
  rw [List.take_length, List.take_length]
  rfl
end Go.Proofs.YtabakkdlcjpjfaaDoor
