/- What Words and Lines of package text compute, and what the document's do. Condition: a text of at most a million bytes. -/
import Derived.Test.YtknonjphjedmnaaDoorTc
namespace Go.Proofs.YtknonjphjedmnaaDoor
open Go.RowKit Go.IntWalk
set_option linter.unusedSimpArgs false
set_option linter.unusedVariables false

/-- rows of texts -/
def sc (L : List (List UInt8)) : List (List CV) := L.map fun l => [.v (.string (bs l))]
theorem sc_len (L : List (List UInt8)) : (sc L).length = L.length := by simp [sc]
theorem sc_app (L M : List (List UInt8)) : sc L ++ sc M = sc (L ++ M) := by simp [sc]
theorem sc_one (l : List UInt8) : ([[CV.v (.string (bs l))]] : List (List CV)) = sc [l] := rfl
theorem sc_nil : ([] : List (List CV)) = sc [] := rfl
theorem sc_take (L : List (List UInt8)) (n : Nat) : (sc L).take n = sc (L.take n) := by simp [sc]
theorem sc_sz (L : List (List UInt8)) : ∀ el ∈ sc L, el.length = 1 := by
  intro el h
  simp only [sc, List.mem_map] at h
  obtain ⟨l, _, rfl⟩ := h
  rfl
theorem sc_getD (L : List (List UInt8)) (i : Nat) (h : i < L.length) : (sc L).getD i [] = [.v (.string (bs (L.getD i [])))] := by
  simp [sc, List.getD_eq_getElem?_getD, h]
theorem sc_at (L : List (List UInt8)) (i : Int) (h0 : 0 ≤ i) (h : i < L.length) : (cellAt (sc L) i 0).str = bs (L.getD i.toNat []) := by
  unfold cellAt
  rw [sc_getD L i.toNat (by omega)]
  rfl
theorem sc_kind (L : List (List UInt8)) (i : Int) (h0 : 0 ≤ i) (h : i < L.length) : [10] = ((((sc L).getD i.toNat []).drop 0).take 1).map kindC := by
  rw [sc_getD L i.toNat (by omega)]
  rfl
theorem sc_inj (L M : List (List UInt8)) : sc L = sc M ↔ L = M := by
  constructor
  · intro h
    induction L generalizing M with
    | nil => cases M with
      | nil => rfl
      | cons b M => simp [sc] at h
    | cons a L ih => cases M with
      | nil => simp [sc] at h
      | cons b M =>
        simp only [sc, List.map_cons, List.cons.injEq, CV.v.injEq, Value.string.injEq, and_true, bs_inj] at h
        rw [h.1, ih M h.2]
  · intro h; rw [h]

/-- the pieces between bytes for which p holds -/
def glue (w : List UInt8) : List (List UInt8) → List (List UInt8)
  | [] => [w]
  | h :: t => (w ++ h) :: t
def splitR (p : UInt8 → Bool) : List UInt8 → List (List UInt8)
  | [] => [[]]
  | c :: r => if p c then [] :: splitR p r else glue [c] (splitR p r)
theorem splitR_ne (p : UInt8 → Bool) (l : List UInt8) : splitR p l ≠ [] := by
  cases l with
  | nil => simp [splitR]
  | cons c r =>
    unfold splitR
    split
    · simp
    · cases splitR p r <;> simp [glue]
theorem glue_glue (v w : List UInt8) (L : List (List UInt8)) (h : L ≠ []) : glue v (glue w L) = glue (v ++ w) L := by
  cases L with
  | nil => exact absurd rfl h
  | cons a L => simp [glue]
theorem glue_nil (L : List (List UInt8)) (h : L ≠ []) : glue [] L = L := by
  cases L with
  | nil => exact absurd rfl h
  | cons a L => rfl
def SplAt (p : UInt8 → Bool) (l : List UInt8) (i : Nat) (acc : List (List UInt8)) (w : List UInt8) : Prop := splitR p l = acc ++ glue w (splitR p (l.drop i))
theorem SplAt.start (p : UInt8 → Bool) (l : List UInt8) : SplAt p l 0 [] [] := by simp [SplAt, glue_nil _ (splitR_ne p l)]
theorem SplAt.other {p : UInt8 → Bool} {l : List UInt8} {i : Nat} {acc : List (List UInt8)} {w : List UInt8} (h : SplAt p l i acc w) (hi : i < l.length) (hc : p (l.getD i 0) = false) : SplAt p l (i + 1) acc (w ++ [l.getD i 0]) := by
  unfold SplAt at h ⊢
  rw [h, drop_at l i hi, splitR, hc]
  simp only [Bool.false_eq_true, if_false]
  rw [glue_glue _ _ _ (splitR_ne p _)]
theorem SplAt.sep {p : UInt8 → Bool} {l : List UInt8} {i : Nat} {acc : List (List UInt8)} {w : List UInt8} (h : SplAt p l i acc w) (hi : i < l.length) (hc : p (l.getD i 0) = true) : SplAt p l (i + 1) (acc ++ [w]) [] := by
  unfold SplAt at h ⊢
  rw [h, drop_at l i hi, splitR, hc]
  simp only [if_true]
  rw [glue_nil _ (splitR_ne p _)]
  simp [glue]
theorem SplAt.done {p : UInt8 → Bool} {l : List UInt8} {i : Nat} {acc : List (List UInt8)} {w : List UInt8} (h : SplAt p l i acc w) (hi : l.length ≤ i) : splitR p l = acc ++ [w] := by
  unfold SplAt at h
  rw [h, List.drop_of_length_le hi]
  simp [splitR, glue]
theorem SplAt.many {p : UInt8 → Bool} {l : List UInt8} {acc : List (List UInt8)} (f : Nat) : ∀ (n i : Nat), SplAt p l i acc ((l.take i).drop f) → f ≤ i → i + n ≤ l.length → (∀ j, i ≤ j → j < i + n → p (l.getD j 0) = false) → SplAt p l (i + n) acc ((l.take (i + n)).drop f)
  | 0, i, h, _, _, _ => h
  | n + 1, i, h, hf, hl, hp => by
    have h1 := h.other (by omega) (hp i (by omega) (by omega))
    have e : (l.take i).drop f ++ [l.getD i 0] = (l.take (i + 1)).drop f := by
      rw [take_snoc l i (by omega), List.drop_append_of_le_length (by rw [List.length_take]; omega)]
    rw [e] at h1
    have := SplAt.many f n (i + 1) h1 (by omega) (by omega) (fun j h1 h2 => hp j (by omega) (by omega))
    rwa [show i + (n + 1) = i + 1 + n by omega]

theorem get_bs (l : List UInt8) (j : Nat) (h : j < l.length) : (bs l).get! j = l.getD j 0 := by
  show (bs l).data[j]! = _
  simp [bs, List.getD_eq_getElem?_getD, h, getElem!_pos]
/-- behind the first byte of a sign there are none below 128 -/
theorem dec_cont (l : List UInt8) (i : Nat) (hi : i < l.length) (j : Nat) (h1 : i < j) (h2 : j < i + (Utf8.decode (bs l) i).2) : j < l.length ∧ 128 ≤ (l.getD j 0).toNat := by
  have cont : ∀ k, (decide (i + k < (bs l).size) && (((bs l).get! (i + k)).toNat / 64 == 2)) = true → i + k < l.length ∧ 128 ≤ (l.getD (i + k) 0).toNat := fun k hk => by
    simp only [Bool.and_eq_true, decide_eq_true_eq, beq_iff_eq, bs_size] at hk
    rw [get_bs l _ hk.1] at hk
    exact ⟨hk.1, by omega⟩
  obtain ⟨d, rfl⟩ : ∃ d, j = i + d := ⟨j - i, by omega⟩
  have hd0 : 1 ≤ d := by omega
  have h2 : d < (Utf8.decode (bs l) i).2 := by omega
  revert h2
  simp only [Utf8.decode]
  split
  · intro h; simp at h; omega
  · split
    · rename_i hc
      simp only [Bool.and_eq_true] at hc
      intro h
      have : d = 1 := by
        revert h
        split
        · intro h; simp at h; omega
        · intro h; simp at h; omega
      subst this
      exact cont 1 (by simpa using hc.2)
    · split
      · rename_i hc
        simp only [Bool.and_eq_true] at hc
        intro h
        have : d = 1 ∨ d = 2 := by
          revert h
          split
          · intro h; simp at h; omega
          · intro h; simp at h; omega
        rcases this with rfl | rfl
        · exact cont 1 (by simpa using hc.1.2)
        · exact cont 2 (by simpa using hc.2)
      · split
        · rename_i hc
          simp only [Bool.and_eq_true] at hc
          intro h
          have : d = 1 ∨ d = 2 ∨ d = 3 := by
            revert h
            split
            · intro h; simp at h; omega
            · intro h; simp at h; omega
          rcases this with rfl | rfl | rfl
          · exact cont 1 (by simpa using hc.1.1.2)
          · exact cont 2 (by simpa using hc.1.2)
          · exact cont 3 (by simpa using hc.2)
        · intro h; simp at h; omega
theorem dec_width (l : List UInt8) (i : Nat) (hi : i < l.length) : 1 ≤ (Utf8.decode (bs l) i).2 ∧ i + (Utf8.decode (bs l) i).2 ≤ l.length := by
  have h1 : 1 ≤ (Utf8.decode (bs l) i).2 := by
    by_cases ha : (l.getD i 0).toNat < 128
    · rw [dec_low l i hi ha]
      exact Nat.le_refl 1
    · exact (dec_high l i hi (by omega)).2
  refine ⟨h1, ?_⟩
  by_cases he : (Utf8.decode (bs l) i).2 = 1
  · omega
  · have := dec_cont l i hi (i + (Utf8.decode (bs l) i).2 - 1) (by omega) (by omega)
    omega

def is10 (c : UInt8) : Bool := c.toNat == 10
def isBl (c : UInt8) : Bool := c.toNat == 32 || c.toNat == 9 || c.toNat == 13
theorem isL_eq (c : UInt8) : is10 c = (((c.toNat : Nat) : Int) == 10) := by
  unfold is10
  rw [Bool.eq_iff_iff, beq_iff_eq, beq_iff_eq]
  omega
theorem isW_eq (c : UInt8) : isBl c = ((((c.toNat : Nat) : Int) == 32) || (((c.toNat : Nat) : Int) == 9) || (((c.toNat : Nat) : Int) == 13)) := by
  unfold isBl
  rw [Bool.eq_iff_iff]
  simp only [Bool.or_eq_true, beq_iff_eq]
  omega
theorem isL_high (c : UInt8) (h : 128 ≤ c.toNat) : is10 c = false := by
  unfold is10
  rw [beq_eq_false_iff_ne]
  omega
theorem isW_high (c : UInt8) (h : 128 ≤ c.toNat) : isBl c = false := by
  unfold isBl
  rw [Bool.eq_false_iff]
  simp only [Bool.or_eq_true, beq_iff_eq, ne_eq]
  omega
theorem c_sepL (c : Int) : FnC Tryd.prog 43 [.c (.v (.int .i32 c))] (bD (c == 10)) := by
  refine w43 c ?_
  rfl
theorem c_sepW (c : Int) : FnC Tryd.prog 44 [.c (.v (.int .i32 c))] (bD (c == 32 || c == 9 || c == 13)) := by
  refine w44 c ?_
  cases h1 : (c == 32) <;> cases h2 : (c == 9) <;> simp

theorem c_splitL (l : List UInt8) (hs : Sm l) : FnC Tryd.prog 42 [sD l, .c (.v (.func (.func 43) #[] #[]))] (.c (.vs (sc (splitR is10 l)))) := by
  unfold Sm at hs
  refine w42_43 (bs l) ?_
  simp only [bs_size, bs_extract, Int.toNat_natCast, List.take_length]
  refine ⟨fun pos rows from_ k => 0 ≤ from_ ∧ from_ ≤ pos ∧ pos ≤ l.length ∧ (∃ acc, rows = sc acc ∧ acc.length ≤ pos.toNat ∧ SplAt is10 l pos.toNat acc ((l.take pos.toNat).drop from_.toNat)) ∧ k = l.length - pos.toNat,
    ⟨_, by omega, by omega, by omega, ⟨[], sc_nil, by simp, by simpa using SplAt.start is10 l⟩, rfl⟩, ?_⟩
  rintro k pos rows from_ ⟨h0, h1, h2, ⟨acc, rfl, hacc, hS⟩, rfl⟩
  refine ⟨fun hi => ⟨_, c_sepL _, fun hb => ?_, fun hb => ?_⟩, fun hi => ?_⟩
  · have hi' : pos.toNat < l.length := by omega
    have ha : (l.getD pos.toNat 0).toNat < 128 := by
      by_cases ha : (l.getD pos.toNat 0).toNat < 128
      · exact ha
      · have := (dec_high l _ hi' (by omega)).1
        simp at hb
        omega
    rw [dec_low l _ hi' ha] at hb ⊢
    have hp : is10 (l.getD pos.toNat 0) = true := by rw [isL_eq]; exact hb
    refine ⟨by omega, fun x5 hx5 => ?_⟩
    rw [sc_one] at hx5
    subst hx5
    rw [sc_len, sc_len]
    refine ⟨by simp; omega, fun x6 hx6 => ?_⟩
    rw [sc_app] at hx6
    subst hx6
    rw [i64_in _ (by omega)]
    have e : (pos + ((1 : Nat) : Int)).toNat = pos.toNat + 1 := by omega
    refine ⟨l.length - (pos + ((1 : Nat) : Int)).toNat, by omega, by omega, by simp, by simp; omega, ⟨_, rfl, by simp; omega, ?_⟩, rfl⟩
    have e9 : (l.take (pos.toNat + 1)).drop (pos.toNat + 1) = [] := List.drop_of_length_le (by rw [List.length_take]; omega)
    rw [e, show (pos + 1).toNat = pos.toNat + 1 by omega, e9]
    exact hS.sep hi' hp
  · have hi' : pos.toNat < l.length := by omega
    have hw := dec_width l _ hi'
    have hcont := dec_cont l _ hi'
    have hall : ∀ j, pos.toNat ≤ j → j < pos.toNat + (Utf8.decode (bs l) pos.toNat).2 → is10 (l.getD j 0) = false := fun j hj1 hj2 => by
      by_cases hj : j = pos.toNat
      · subst hj
        by_cases ha : (l.getD pos.toNat 0).toNat < 128
        · rw [dec_low l _ hi' ha] at hb
          rw [isL_eq]
          exact Bool.eq_false_iff.2 hb
        · exact isL_high _ (by omega)
      · exact isL_high _ (hcont j (by omega) hj2).2
    have e : (pos + (((Utf8.decode (bs l) pos.toNat).2 : Nat) : Int)).toNat = pos.toNat + (Utf8.decode (bs l) pos.toNat).2 := by omega
    refine ⟨l.length - (pos + (((Utf8.decode (bs l) pos.toNat).2 : Nat) : Int)).toNat, by omega, by omega, by omega, by omega, ⟨_, rfl, by omega, ?_⟩, rfl⟩
    rw [e]
    exact SplAt.many _ _ _ hS (by omega) (by omega) hall
  · refine ⟨by omega, fun x4 hx4 => ?_⟩
    rw [sc_one] at hx4
    subst hx4
    rw [sc_len, sc_len]
    refine ⟨by simp; omega, fun x5 hx5 => ?_⟩
    rw [sc_app] at hx5
    subst hx5
    have e : pos.toNat = l.length := by omega
    rw [e, List.take_length] at hS
    rw [hS.done (Nat.le_refl _)]

theorem c_splitW (l : List UInt8) (hs : Sm l) : FnC Tryd.prog 42 [sD l, .c (.v (.func (.func 44) #[] #[]))] (.c (.vs (sc (splitR isBl l)))) := by
  unfold Sm at hs
  refine w42_44 (bs l) ?_
  simp only [bs_size, bs_extract, Int.toNat_natCast, List.take_length]
  refine ⟨fun pos rows from_ k => 0 ≤ from_ ∧ from_ ≤ pos ∧ pos ≤ l.length ∧ (∃ acc, rows = sc acc ∧ acc.length ≤ pos.toNat ∧ SplAt isBl l pos.toNat acc ((l.take pos.toNat).drop from_.toNat)) ∧ k = l.length - pos.toNat,
    ⟨_, by omega, by omega, by omega, ⟨[], sc_nil, by simp, by simpa using SplAt.start isBl l⟩, rfl⟩, ?_⟩
  rintro k pos rows from_ ⟨h0, h1, h2, ⟨acc, rfl, hacc, hS⟩, rfl⟩
  refine ⟨fun hi => ⟨_, c_sepW _, fun hb => ?_, fun hb => ?_⟩, fun hi => ?_⟩
  · have hi' : pos.toNat < l.length := by omega
    have ha : (l.getD pos.toNat 0).toNat < 128 := by
      by_cases ha : (l.getD pos.toNat 0).toNat < 128
      · exact ha
      · have := (dec_high l _ hi' (by omega)).1
        simp at hb
        omega
    rw [dec_low l _ hi' ha] at hb ⊢
    have hp : isBl (l.getD pos.toNat 0) = true := by rw [isW_eq]; exact hb
    refine ⟨by omega, fun x5 hx5 => ?_⟩
    rw [sc_one] at hx5
    subst hx5
    rw [sc_len, sc_len]
    refine ⟨by simp; omega, fun x6 hx6 => ?_⟩
    rw [sc_app] at hx6
    subst hx6
    rw [i64_in _ (by omega)]
    have e : (pos + ((1 : Nat) : Int)).toNat = pos.toNat + 1 := by omega
    refine ⟨l.length - (pos + ((1 : Nat) : Int)).toNat, by omega, by omega, by simp, by simp; omega, ⟨_, rfl, by simp; omega, ?_⟩, rfl⟩
    have e9 : (l.take (pos.toNat + 1)).drop (pos.toNat + 1) = [] := List.drop_of_length_le (by rw [List.length_take]; omega)
    rw [e, show (pos + 1).toNat = pos.toNat + 1 by omega, e9]
    exact hS.sep hi' hp
  · have hi' : pos.toNat < l.length := by omega
    have hw := dec_width l _ hi'
    have hcont := dec_cont l _ hi'
    have hall : ∀ j, pos.toNat ≤ j → j < pos.toNat + (Utf8.decode (bs l) pos.toNat).2 → isBl (l.getD j 0) = false := fun j hj1 hj2 => by
      by_cases hj : j = pos.toNat
      · subst hj
        by_cases ha : (l.getD pos.toNat 0).toNat < 128
        · rw [dec_low l _ hi' ha] at hb
          rw [isW_eq]
          exact Bool.eq_false_iff.2 hb
        · exact isW_high _ (by omega)
      · exact isW_high _ (hcont j (by omega) hj2).2
    have e : (pos + (((Utf8.decode (bs l) pos.toNat).2 : Nat) : Int)).toNat = pos.toNat + (Utf8.decode (bs l) pos.toNat).2 := by omega
    refine ⟨l.length - (pos + (((Utf8.decode (bs l) pos.toNat).2 : Nat) : Int)).toNat, by omega, by omega, by omega, by omega, ⟨_, rfl, by omega, ?_⟩, rfl⟩
    rw [e]
    exact SplAt.many _ _ _ hS (by omega) (by omega) hall
  · refine ⟨by omega, fun x4 hx4 => ?_⟩
    rw [sc_one] at hx4
    subst hx4
    rw [sc_len, sc_len]
    refine ⟨by simp; omega, fun x5 hx5 => ?_⟩
    rw [sc_app] at hx5
    subst hx5
    have e : pos.toNat = l.length := by omega
    rw [e, List.take_length] at hS
    rw [hS.done (Nat.le_refl _)]

def linesL (l : List UInt8) : List (List UInt8) := if (splitR is10 l).getLast? = some [] then (splitR is10 l).dropLast else splitR is10 l
def wordsL (l : List UInt8) : List (List UInt8) := (splitR isBl l).filter fun w => !w.isEmpty
theorem splitR_len (p : UInt8 → Bool) (l : List UInt8) : (splitR p l).length ≤ l.length + 1 := by
  induction l with
  | nil => simp [splitR]
  | cons c r ih =>
    unfold splitR
    split
    · simp; omega
    · cases h : splitR p r with
      | nil => simp [glue]
      | cons a L => rw [h] at ih; simp [glue] at ih ⊢; omega
theorem c_tLines (l : List UInt8) (hs : Sm l) : FnC Tryd.prog 25 [sD l] (.c (.vs (sc (linesL l)))) := by
  have hs' := hs
  unfold Sm at hs'
  refine w25 (bs l) ?_
  refine ⟨_, c_splitL l hs, ?_⟩
  have hlen := splitR_len is10 l
  have hne := List.length_pos_iff.2 (splitR_ne is10 l)
  rw [sc_len]
  have e1 : IntKind.wrap .i64 (((splitR is10 l).length : Int) - 1) = ((splitR is10 l).length : Int) - 1 := i64_in _ (by omega)
  rw [e1, sc_at _ _ (by omega) (by omega)]
  have e2 : (((splitR is10 l).length : Int) - 1).toNat = (splitR is10 l).length - 1 := by omega
  have e3 : (splitR is10 l).getLast? = some ((splitR is10 l).getD ((splitR is10 l).length - 1) []) := by
    rw [List.getLast?_eq_getElem?, List.getD_eq_getElem?_getD, List.getElem?_eq_getElem (by omega)]
    rfl
  simp only [mk_bs, bs_inj, e2]
  refine ⟨by omega, sc_sz _, by have := sc_kind (splitR is10 l) (((splitR is10 l).length : Int) - 1) (by omega) (by omega); rwa [e2] at this, fun h => ?_, fun h => ?_⟩
  · refine ⟨by omega, by omega, sc_sz _, ?_⟩
    rw [sc_take, linesL, e3, if_pos (by rw [h]), List.dropLast_eq_take]
  · rw [linesL, e3, if_neg (fun e => h (Option.some.inj e))]
theorem c_tWords (l : List UInt8) (hs : Sm l) : FnC Tryd.prog 28 [sD l] (.c (.vs (sc (wordsL l)))) := by
  have hs' := hs
  unfold Sm at hs'
  refine w28 (bs l) ?_
  refine ⟨_, c_splitW l hs, ?_⟩
  have hlen := splitR_len isBl l
  unfold wordsL
  generalize splitR isBl l = L at *
  rw [sc_len]
  refine ⟨fun rows i k => 0 ≤ i ∧ i ≤ L.length ∧ rows = sc ((L.take i.toNat).filter fun w => !w.isEmpty) ∧ k = L.length - i.toNat, ⟨_, by omega, by omega, rfl, rfl⟩, ?_⟩
  rintro k rows i ⟨h0, h1, rfl, rfl⟩
  have hfl : ((L.take i.toNat).filter fun w => !w.isEmpty).length ≤ i.toNat := Nat.le_trans (List.length_filter_le _ _) (by rw [List.length_take]; omega)
  refine ⟨fun hi => ⟨by omega, sc_sz _, sc_kind L i h0 hi, ?_⟩, fun hi => ?_⟩
  · have hsn : L.take (i.toNat + 1) = L.take i.toNat ++ [L.getD i.toNat []] := by
      rw [List.take_add_one]
      congr 1
      simp [List.getD_eq_getElem?_getD, show i.toNat < L.length by omega]
    rw [sc_at L i h0 hi]
    simp only [mk_bs, bs_inj]
    refine ⟨fun hb x4 hx4 => ?_, fun hb => ?_⟩
    · rw [sc_one] at hx4
      subst hx4
      rw [sc_len, sc_len]
      refine ⟨by simp only [List.length_singleton]; omega, fun x5 hx5 => ?_⟩
      rw [sc_app] at hx5
      subst hx5
      rw [i64_in _ (by omega)]
      refine ⟨_, ?_, by omega, by omega, ?_, rfl⟩
      · omega
      · have hb' : (L.getD i.toNat []).isEmpty = false := by rw [List.isEmpty_eq_false_iff]; exact hb
        rw [nat_i i h0, hsn, List.filter_append, List.filter_cons, hb']
        rfl
    · rw [i64_in _ (by omega)]
      refine ⟨_, ?_, by omega, by omega, ?_, rfl⟩
      · omega
      · have hb' : L.getD i.toNat [] = [] := Classical.not_not.1 hb
        rw [nat_i i h0, hsn, List.filter_append, hb']
        simp
  · rw [show i.toNat = L.length by omega, List.take_length]
theorem n10 (c : UInt8) : ((c.toNat : Int) = 10) ↔ is10 c = true := by
  rw [isL_eq, beq_iff_eq]
theorem c_r3Lines (l : List UInt8) (hs : Sm l) : FnC Tryd.prog 27 [sD l] (.c (.vs (sc (linesL l)))) := by
  unfold Sm at hs
  refine w27 (bs l) ?_
  simp only [bs_size, bs_extract, byteAt_bs, n10, Int.toNat_natCast, List.take_length]
  refine ⟨fun rows from_ pos k => 0 ≤ from_ ∧ from_ ≤ pos ∧ pos ≤ l.length ∧ (∃ acc, rows = sc acc ∧ acc.length ≤ pos.toNat ∧ SplAt is10 l pos.toNat acc ((l.take pos.toNat).drop from_.toNat)) ∧ k = l.length - pos.toNat,
    ⟨_, by omega, by omega, by omega, ⟨[], sc_nil, by simp, by simpa using SplAt.start is10 l⟩, rfl⟩, ?_⟩
  rintro k rows from_ pos ⟨h0, h1, h2, ⟨acc, rfl, hacc, hS⟩, rfl⟩
  refine ⟨fun hi => ⟨by omega, fun hb => ?_, fun hb => ?_⟩, fun hi => ?_⟩
  · have hi' : pos.toNat < l.length := by omega
    refine ⟨by omega, fun x4 hx4 => ?_⟩
    rw [sc_one] at hx4
    subst hx4
    rw [sc_len, sc_len]
    refine ⟨by simp; omega, fun x5 hx5 => ?_⟩
    rw [sc_app] at hx5
    subst hx5
    rw [i64_in _ (by omega)]
    have e : (pos + 1).toNat = pos.toNat + 1 := by omega
    refine ⟨_, ?_, by omega, by omega, by omega, ⟨_, rfl, by simp; omega, ?_⟩, rfl⟩
    · omega
    have e9 : (l.take (pos.toNat + 1)).drop (pos.toNat + 1) = [] := List.drop_of_length_le (by rw [List.length_take]; omega)
    rw [e, e9]
    exact hS.sep hi' hb
  · have hi' : pos.toNat < l.length := by omega
    rw [i64_in _ (by omega)]
    have e : (pos + 1).toNat = pos.toNat + 1 := by omega
    refine ⟨_, ?_, by omega, by omega, by omega, ⟨_, rfl, by omega, ?_⟩, rfl⟩
    · omega
    rw [e]
    exact SplAt.many _ 1 _ hS (by omega) (by omega) (fun j h1 h2 => by
      rw [show j = pos.toNat by omega]; exact Bool.eq_false_iff.2 hb)
  · have e : pos.toNat = l.length := by omega
    rw [e, List.take_length] at hS
    have hd := hS.done (Nat.le_refl _)
    have hdl : (l.drop from_.toNat).length = l.length - from_.toNat := List.length_drop ..
    have hlast : (splitR is10 l).getLast? = some (l.drop from_.toNat) := by rw [hd]; simp
    refine ⟨fun hf => ⟨by omega, fun x4 hx4 => ?_⟩, fun hf => ?_⟩
    · rw [sc_one] at hx4
      subst hx4
      rw [sc_len, sc_len]
      refine ⟨by simp; omega, fun x5 hx5 => ?_⟩
      rw [sc_app] at hx5
      subst hx5
      rw [linesL, hlast, if_neg (fun e => by
        have := Option.some.inj e
        rw [this] at hdl
        simp at hdl
        omega), hd]
    · have : l.drop from_.toNat = [] := List.eq_nil_of_length_eq_zero (by omega)
      rw [linesL, hlast, if_pos (by rw [this]), hd, List.dropLast_concat]
def WrdAt (l : List UInt8) (i : Nat) (out : List (List UInt8)) (w : List UInt8) : Prop := wordsL l = out ++ (glue w (splitR isBl (l.drop i))).filter fun w => !w.isEmpty
theorem c_r3Words (l : List UInt8) (hs : Sm l) : FnC Tryd.prog 29 [sD l] (.c (.vs (sc (wordsL l)))) := by
  unfold Sm at hs
  refine w29 (bs l) ?_
  simp only [bs_size, bs_extract, byteAt_bs, mk_bs]
  have start : WrdAt l 0 [] [] := by
    unfold WrdAt wordsL
    rw [glue_nil _ (splitR_ne isBl _)]
    rfl
  refine ⟨fun s pos rows k => 0 ≤ pos ∧ pos ≤ l.length ∧ (∃ w acc, s = bs w ∧ rows = sc acc ∧ w.length ≤ pos.toNat ∧ acc.length ≤ pos.toNat ∧ WrdAt l pos.toNat acc w) ∧ k = l.length - pos.toNat,
    ⟨_, by omega, by omega, ⟨[], [], rfl, sc_nil, by simp, by simp, start⟩, rfl⟩, ?_⟩
  rintro k s pos rows ⟨h0, h1, ⟨w, acc, rfl, rfl, hwl, hacc, hW⟩, rfl⟩
  simp only [bs_inj, bs_append, bs_size]
  refine ⟨fun hi => ⟨by omega, fun _ => by omega, fun _ => by omega, fun hb => ?_, fun hb => ?_⟩, fun hi => ?_⟩
  · have hi' : pos.toNat < l.length := by omega
    have hp : isBl (l.getD pos.toNat 0) = false := by
      rw [isW_eq, Bool.eq_false_iff]
      simp only [ne_eq, Bool.or_eq_true, beq_iff_eq]
      omega
    rw [i64_in _ (by omega), nat_i pos h0, cut_one l _ hi']
    refine ⟨by omega, by simp; omega, _, ?_, by omega, by omega, ⟨_, _, rfl, rfl, by simp; omega, by omega, ?_⟩, rfl⟩
    · omega
    · unfold WrdAt at hW ⊢
      rw [hW, drop_at l _ hi', splitR, hp]
      simp only [Bool.false_eq_true, if_false]
      rw [glue_glue _ _ _ (splitR_ne isBl _)]
  · have hi' : pos.toNat < l.length := by omega
    have hp : isBl (l.getD pos.toNat 0) = true := by
      rw [isW_eq]
      simp only [Bool.or_eq_true, beq_iff_eq]
      omega
    have hnext : wordsL l = (acc ++ (if w.isEmpty then [] else [w])) ++ (glue [] (splitR isBl (l.drop (pos.toNat + 1)))).filter fun w => !w.isEmpty := by
      unfold WrdAt at hW
      rw [hW, drop_at l _ hi', splitR, hp]
      simp only [if_true]
      rw [glue_nil _ (splitR_ne isBl _)]
      simp only [glue, List.append_nil, List.filter_cons]
      cases w.isEmpty <;> simp
    rw [i64_in _ (by omega)]
    refine ⟨fun hne x4 hx4 => ?_, fun he => ?_⟩
    · have hwe : w.isEmpty = false := by rw [List.isEmpty_eq_false_iff]; exact hne
      rw [sc_one] at hx4
      subst hx4
      rw [sc_len, sc_len]
      refine ⟨by simp; omega, fun x5 hx5 => ?_⟩
      rw [sc_app] at hx5
      subst hx5
      refine ⟨_, ?_, by omega, by omega, ⟨[], _, rfl, rfl, by simp, by simp; omega, ?_⟩, rfl⟩
      · omega
      · rw [nat_i pos h0]
        rw [hwe] at hnext
        exact hnext
    · have hwe : w.isEmpty = true := by rw [List.isEmpty_iff]; exact Classical.not_not.1 he
      refine ⟨_, ?_, by omega, by omega, ⟨[], _, rfl, rfl, by simp, by omega, ?_⟩, rfl⟩
      · omega
      · rw [nat_i pos h0]
        rw [hwe] at hnext
        simpa [WrdAt] using hnext
  · have e : pos.toNat = l.length := by omega
    unfold WrdAt at hW
    rw [e, List.drop_length] at hW
    simp only [splitR, glue, List.append_nil, List.filter_cons] at hW
    refine ⟨fun hne x4 hx4 => ?_, fun he => ?_⟩
    · have hwe : w.isEmpty = false := by rw [List.isEmpty_eq_false_iff]; exact hne
      rw [sc_one] at hx4
      subst hx4
      rw [sc_len, sc_len]
      refine ⟨by simp; omega, fun x5 hx5 => ?_⟩
      rw [sc_app] at hx5
      subst hx5
      rw [hwe] at hW
      rw [hW]
      simp
    · have hwe : w.isEmpty = true := by rw [List.isEmpty_iff]; exact Classical.not_not.1 he
      rw [hwe] at hW
      rw [hW]
      simp
theorem c_r3Same (L M : List (List UInt8)) (hL : L.length ≤ 2000000) : FnC Tryd.prog 26 [.c (.vs (sc L)), .c (.vs (sc M))] (bD (decide (L = M))) := by
  refine w26 (sc L) (sc M) ?_
  rw [sc_len, sc_len]
  refine ⟨fun h => ?_, fun h => ?_⟩
  · have : ¬ L = M := fun e => h (by rw [e])
    simp [this]
  have hlen : L.length = M.length := by omega
  refine ⟨fun i k => 0 ≤ i ∧ i ≤ L.length ∧ (∀ j, j < i.toNat → L.getD j [] = M.getD j []) ∧ k = L.length - i.toNat, ⟨_, by omega, by omega, fun j hj => by simp at hj, rfl⟩, ?_⟩
  rintro k i ⟨h0, h1, h2, rfl⟩
  refine ⟨fun hi => ⟨by omega, sc_sz _, sc_kind L i h0 hi, by omega, sc_sz _, sc_kind M i h0 (by omega), ?_⟩, fun hi => ?_⟩
  · rw [sc_at L i h0 hi, sc_at M i h0 (by omega), bs_inj]
    refine ⟨fun hb => ?_, fun hb => ?_⟩
    · have : ¬ L = M := fun e => hb (by rw [e])
      simp [this]
    · rw [i64_in _ (by omega)]
      refine ⟨_, ?_, by omega, by omega, fun j hj => ?_, rfl⟩
      · omega
      · rw [nat_i i h0] at hj
        by_cases e : j = i.toNat
        · rw [e]; exact Classical.not_not.1 hb
        · exact h2 j (by omega)
  · have : L = M := by
      apply List.ext_getElem hlen
      intro j hj1 hj2
      have := h2 j (by omega)
      simpa [List.getD_eq_getElem?_getD, hj1, hj2] using this
    simp [this]
end Go.Proofs.YtknonjphjedmnaaDoor
