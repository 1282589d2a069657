/- Heaps in lists: what putting in and taking out leave in order. No condition. Runs of rows in a heap: what push and pop leave. No condition. What push and pop of the sorter's heap compute. Conditions: at most 2^20 runs, none empty, of rows and keys that a machine can hold. Which of two runs is ahead, as the sorter's heap asks. Conditions: rows and keys that a machine can hold. The sorter's heap of runs, in memory: put in, take out. Conditions: at most 2^20 runs. -/
import Derived.Test.YtdgjcdhomfhfpaaPl
import Derived.Test.YtdgjcdhomfhfpaaOz
import Derived.Test.YtdgjcdhomfhfpaaAbP
import Derived.Test.YtdgjcdhomfhfpaaBase
import Derived.Test.YtdgjcdhomfhfpaaZz
namespace Go.Proofs.Ytdgjcdhomfhfpaa
set_option linter.unusedSimpArgs false
set_option linter.unusedVariables false

theorem getD_set {α : Type} (l : List α) (i : Nat) (x d : α) (j : Nat) (hi : i < l.length) : (l.set i x).getD j d = if j = i then x else l.getD j d := by
  rw [List.getD_eq_getElem?_getD, List.getD_eq_getElem?_getD, List.getElem?_set]
  by_cases h : i = j
  · subst h; simp [hi]
  · have : ¬ j = i := fun e => h e.symm
    simp [h, this]
/-- elements exchanged -/
def swapL {α : Type} (l : List α) (i j : Nat) (d : α) : List α := (l.set i (l.getD j d)).set j (l.getD i d)
theorem swapL_len {α : Type} (l : List α) (i j : Nat) (d : α) : (swapL l i j d).length = l.length := by simp [swapL]
theorem swapL_get {α : Type} (l : List α) (i j : Nat) (d : α) (hi : i < l.length) (hj : j < l.length) (k : Nat) : (swapL l i j d).getD k d = if k = j then l.getD i d else if k = i then l.getD j d else l.getD k d := by
  unfold swapL
  rw [getD_set _ _ _ _ _ (by simpa using hj), getD_set _ _ _ _ _ hi]
theorem swapL_perm {α : Type} (l : List α) (i j : Nat) (d : α) (hi : i < l.length) (hj : j < l.length) : (swapL l i j d).Perm l := by
  have := @List.set_set_perm _ l _ _ hi hj
  unfold swapL
  rw [List.getD_eq_getElem?_getD, List.getD_eq_getElem?_getD, List.getElem?_eq_getElem hi, List.getElem?_eq_getElem hj]
  exact this

/-- an order: who is not behind whom -/
structure LeO {α : Type} (le : α → α → Prop) : Prop where
  trans : ∀ a b c, le a b → le b c → le a c
  total : ∀ a b, le a b ∨ le b a
theorem LeO.refl {α : Type} {le : α → α → Prop} (h : LeO le) (a : α) : le a a := by
  rcases h.total a a with h | h <;> exact h
section
variable {α : Type} (le : α → α → Prop) (d : α)
def Heap (l : List α) : Prop := ∀ j, 0 < j → j < l.length → le (l.getD ((j - 1) / 2) d) (l.getD j d)
/-- a heap but for i, which may have to go up -/
def UpH (l : List α) (i : Nat) : Prop := i < l.length ∧ (∀ j, 0 < j → j < l.length → j ≠ i → le (l.getD ((j - 1) / 2) d) (l.getD j d)) ∧
  (∀ j, 0 < j → j < l.length → (j - 1) / 2 = i → 0 < i → le (l.getD ((i - 1) / 2) d) (l.getD j d))
/-- a heap but for i, which may have to go down -/
def DownH (l : List α) (i : Nat) : Prop := (∀ j, 0 < j → j < l.length → (j - 1) / 2 ≠ i → le (l.getD ((j - 1) / 2) d) (l.getD j d)) ∧
  (∀ j, 0 < j → j < l.length → (j - 1) / 2 = i → 0 < i → le (l.getD ((i - 1) / 2) d) (l.getD j d))
variable {le d}
theorem Heap.root (ho : LeO le) {l : List α} (h : Heap le d l) : ∀ j, j < l.length → le (l.getD 0 d) (l.getD j d) := by
  intro j
  induction j using Nat.strongRecOn with
  | ind j ih =>
    intro hj
    by_cases h0 : j = 0
    · subst h0; exact ho.refl _
    · exact ho.trans _ _ _ (ih ((j - 1) / 2) (by omega) (by omega)) (h j (by omega) hj)
theorem UpH.start {l : List α} (h : Heap le d l) (x : α) : UpH le d (l ++ [x]) l.length := by
  have g : ∀ j, j < l.length → (l ++ [x]).getD j d = l.getD j d := fun j hj => by
    rw [List.getD_eq_getElem?_getD, List.getD_eq_getElem?_getD, List.getElem?_append_left hj]
  refine ⟨by simp, fun j h0 hj hne => ?_, fun j h0 hj hp hi => ?_⟩
  · simp only [List.length_append, List.length_cons, List.length_nil] at hj
    rw [g j (by omega), g _ (by omega)]
    exact h j h0 (by omega)
  · simp only [List.length_append, List.length_cons, List.length_nil] at hj
    omega
theorem UpH.step (ho : LeO le) {l : List α} {i : Nat} (h : UpH le d l i) (h0 : 0 < i) (hlt : le (l.getD i d) (l.getD ((i - 1) / 2) d)) : UpH le d (swapL l i ((i - 1) / 2) d) ((i - 1) / 2) := by
  obtain ⟨hi, h1, h2⟩ := h
  obtain ⟨u, hu⟩ : ∃ u, u = (i - 1) / 2 := ⟨_, rfl⟩
  rw [← hu] at hlt ⊢
  have hul : u < l.length := by omega
  have G := swapL_get l i u d hi hul
  refine ⟨by rw [swapL_len]; exact hul, fun j hj0 hj hne => ?_, fun j hj0 hj hp hu0 => ?_⟩
  · rw [swapL_len] at hj
    rw [G, G]
    by_cases c1 : j = i
    · subst c1
      rw [if_pos hu.symm, if_neg (by omega), if_pos rfl]
      exact hlt
    · rw [if_neg hne, if_neg c1]
      by_cases c2 : (j - 1) / 2 = u
      · rw [if_pos c2]
        have := h1 j hj0 hj c1
        rw [c2] at this
        exact ho.trans _ _ _ hlt this
      · rw [if_neg c2]
        by_cases c3 : (j - 1) / 2 = i
        · rw [if_pos c3]
          have := h2 j hj0 hj c3 h0
          rw [← hu] at this
          exact this
        · rw [if_neg c3]
          exact h1 j hj0 hj c1
  · rw [swapL_len] at hj
    rw [G, G, if_neg (by omega), if_neg (by omega), if_neg (by omega)]
    have hg := h1 u hu0 hul (by omega)
    by_cases c1 : j = i
    · subst c1
      rw [if_pos rfl]
      exact hg
    · rw [if_neg c1]
      have := h1 j hj0 hj c1
      rw [hp] at this
      exact ho.trans _ _ _ hg this
theorem UpH.done {l : List α} {i : Nat} (h : UpH le d l i) (hd : i = 0 ∨ le (l.getD ((i - 1) / 2) d) (l.getD i d)) : Heap le d l := by
  intro j h0 hj
  by_cases c : j = i
  · subst c
    rcases hd with hd | hd
    · omega
    · exact hd
  · exact h.2.1 j h0 hj c
theorem DownH.start {l : List α} (h : Heap le d l) (x : α) (n : Nat) (hn : n + 1 = l.length) : DownH le d ((l.set 0 x).take n) 0 := by
  have g : ∀ j, 0 < j → j < n → ((l.set 0 x).take n).getD j d = l.getD j d := fun j h0 hj => by
    rw [List.getD_eq_getElem?_getD, List.getD_eq_getElem?_getD, List.getElem?_take, if_pos hj, List.getElem?_set, if_neg (by omega)]
  have hl : ((l.set 0 x).take n).length = n := by rw [List.length_take, List.length_set]; omega
  refine ⟨fun j h0 hj hp => ?_, fun j h0 hj hp hi => by omega⟩
  rw [hl] at hj
  rw [g j h0 hj, g _ (by omega) (by omega)]
  exact h j h0 (by omega)
theorem DownH.step (ho : LeO le) {l : List α} {i m : Nat} (h : DownH le d l i) (hi : i < l.length) (hm : m < l.length) (hmi : 0 < m ∧ (m - 1) / 2 = i) (hle : le (l.getD m d) (l.getD i d))
    (hch : ∀ j, 0 < j → j < l.length → (j - 1) / 2 = i → le (l.getD m d) (l.getD j d)) : DownH le d (swapL l i m d) m := by
  obtain ⟨h1, h2⟩ := h
  have G := swapL_get l i m d hi hm
  obtain ⟨hm0, hmi⟩ := hmi
  refine ⟨fun j hj0 hj hp => ?_, fun j hj0 hj hp hm0' => ?_⟩
  · rw [swapL_len] at hj
    rw [G, G, if_neg hp]
    by_cases c1 : (j - 1) / 2 = i
    · rw [if_pos c1]
      by_cases c2 : j = m
      · rw [if_pos c2]; exact hle
      · rw [if_neg c2, if_neg (by omega)]
        exact hch j hj0 hj c1
    · rw [if_neg c1, if_neg (by intro e; subst e; exact c1 hmi)]
      by_cases c2 : j = i
      · subst c2
        rw [if_pos rfl]
        exact h2 m hm0 hm hmi hj0
      · rw [if_neg c2]
        exact h1 j hj0 hj c1
  · rw [swapL_len] at hj
    rw [G, G, hmi, if_neg (by omega), if_pos rfl, if_neg (by omega), if_neg (by omega)]
    have := h1 j hj0 hj (by omega)
    rw [hp] at this
    exact this
theorem DownH.done {l : List α} {i : Nat} (h : DownH le d l i) (hc : ∀ j, 0 < j → j < l.length → (j - 1) / 2 = i → le (l.getD i d) (l.getD j d)) : Heap le d l := by
  intro j h0 hj
  by_cases c : (j - 1) / 2 = i
  · have := hc j h0 hj c
    rw [c]
    exact this
  · exact h.1 j h0 hj c
theorem take_swap (l : List α) (i j n : Nat) (hi : i < n) (hj : j < n) (hn : n ≤ l.length) : (swapL l i j d).take n = swapL (l.take n) i j d := by
  have g : ∀ k, k < n → (l.take n).getD k d = l.getD k d := fun k hk => by
    rw [List.getD_eq_getElem?_getD, List.getD_eq_getElem?_getD, List.getElem?_take, if_pos hk]
  unfold swapL
  rw [List.take_set, List.take_set, g i hi, g j hj]
theorem pop_perm {l : List α} {n : Nat} (hn : n + 1 = l.length) : (l.getD 0 d :: (l.set 0 (l.getD n d)).take n).Perm l := by
  cases l with
  | nil => simp at hn
  | cons a r =>
    simp only [List.length_cons, Nat.add_right_cancel_iff] at hn
    have e0 : (a :: r).getD 0 d = a := rfl
    rw [e0]
    cases n with
    | zero =>
      have : r = [] := List.length_eq_zero_iff.1 hn.symm
      subst this
      simp
    | succ n =>
      have e1 : (a :: r).getD (n + 1) d = r.getD n d := rfl
      rw [e1, List.set_cons_zero, List.take_succ_cons]
      refine .cons a ?_
      have hr : r = r.take n ++ [r.getD n d] := by
        apply List.ext_getElem?
        intro k
        rw [List.getElem?_append, List.length_take, Nat.min_eq_left (by omega)]
        by_cases c1 : k < n
        · rw [if_pos c1, List.getElem?_take, if_pos c1]
        · rw [if_neg c1]
          by_cases c2 : k = n
          · subst c2
            simp [List.getD_eq_getElem?_getD, List.getElem?_eq_getElem (show k < r.length by omega)]
          · rw [List.getElem?_eq_none (by omega), List.getElem?_eq_none (by simp; omega)]
      conv => rhs; rw [hr]
      exact (List.perm_append_singleton _ _).symm
end
end Go.Proofs.Ytdgjcdhomfhfpaa
namespace Go.Proofs.Ytdgjcdhomfhfpaa
set_option linter.unusedSimpArgs false
set_option linter.unusedVariables false

/-- a run: its number, its rows -/
abbrev Rn := Nat × List (List V3)
abbrev dR : Rn := (0, [])
def hdR (a : Rn) : List V3 := a.2.getD 0 []
theorem fineO_no : FineO fun (a b : Rn) => cmpI a.1 b.1 :=
  ⟨fun a => by unfold cmpI; (repeat' split) <;> omega, fun a b => oi_swap _ _, fun a b c h1 h2 => oi_trans _ _ _ h1 h2, fun a b => by unfold cmpI; (repeat' split) <;> omega⟩
def cS (K : List K3) : Rn → Rn → Int := fun a b => if cmpR (hdR a) (hdR b) K = 0 then cmpI a.1 b.1 else cmpR (hdR a) (hdR b) K
theorem fineO_cS (K : List K3) : FineO (cS K) := ((fineO_cmpR K).map hdR).next fineO_no
def ltS (K : List K3) (a b : Rn) : Bool := decide (cS K a b < 0)
theorem ltS_iff (K : List K3) (a b : Rn) : ltS K a b = true ↔ cmpR (hdR a) (hdR b) K < 0 ∨ (cmpR (hdR a) (hdR b) K = 0 ∧ a.1 < b.1) := by
  unfold ltS cS
  rw [decide_eq_true_eq]
  split
  · rename_i h
    unfold cmpI
    constructor
    · intro h2
      refine .inr ⟨h, ?_⟩
      (repeat' split at h2) <;> omega
    · rintro (h2 | ⟨_, h2⟩)
      · omega
      · (repeat' split) <;> omega
  · omega
abbrev leS (K : List K3) (a b : Rn) : Prop := cS K a b ≤ 0
theorem leO_S (K : List K3) : LeO (leS K) := ⟨(fineO_cS K).trans, fun a b => by
  have := (fineO_cS K).swap a b
  show cS K a b ≤ 0 ∨ cS K b a ≤ 0
  omega⟩
theorem ltS_le {K : List K3} {a b : Rn} (h : ltS K a b = true) : leS K a b := by
  unfold ltS at h
  rw [decide_eq_true_eq] at h
  show cS K a b ≤ 0
  omega
theorem ltS_not {K : List K3} {a b : Rn} (h : ltS K a b = false) : leS K b a := by
  unfold ltS at h
  have := (fineO_cS K).swap a b
  have h := of_decide_eq_false h
  show cS K b a ≤ 0
  omega

/-- putting in: up -/
def upF (K : List K3) : Nat → List Rn → Nat → List Rn
  | 0, l, _ => l
  | k + 1, l, i => if i = 0 then l else if ltS K (l.getD i dR) (l.getD ((i - 1) / 2) dR) = true then upF K k (swapL l i ((i - 1) / 2) dR) ((i - 1) / 2) else l
theorem upF_heap (K : List K3) : ∀ (k : Nat) (l : List Rn) (i : Nat), i ≤ k → UpH (leS K) dR l i → Heap (leS K) dR (upF K k l i) ∧ (upF K k l i).Perm l
  | 0, l, i, hk, h => ⟨h.done (.inl (by omega)), .refl _⟩
  | k + 1, l, i, hk, h => by
    unfold upF
    split
    · rename_i h0
      exact ⟨h.done (.inl h0), .refl _⟩
    · rename_i h0
      split
      · rename_i hlt
        have hi := h.1
        have := upF_heap K k _ _ (by omega) (h.step (leO_S K) (by omega) (ltS_le hlt))
        exact ⟨this.1, this.2.trans (swapL_perm l i _ dR hi (by omega))⟩
      · rename_i hlt
        exact ⟨h.done (.inr (ltS_not (by simpa using hlt))), .refl _⟩
def pushL (K : List K3) (l : List Rn) (x : Rn) : List Rn := upF K l.length (l ++ [x]) l.length
theorem pushL_heap {K : List K3} {l : List Rn} (h : Heap (leS K) dR l) (x : Rn) : Heap (leS K) dR (pushL K l x) ∧ (pushL K l x).Perm (l ++ [x]) :=
  upF_heap K _ _ _ (Nat.le_refl _) (UpH.start h x)

/-- the least of three -/
def least1 (K : List K3) (n : Nat) (l : List Rn) (m k : Nat) : Nat := if k < n ∧ ltS K (l.getD k dR) (l.getD m dR) = true then k else m
def leastF (K : List K3) (n : Nat) (l : List Rn) (i : Nat) : Nat := least1 K n l (least1 K n l i (2 * i + 1)) (2 * i + 2)
theorem leastF_spec (K : List K3) (l : List Rn) (i : Nat) (hi : i < l.length) : leastF K l.length l i < l.length ∧ (leastF K l.length l i = i ∨ (0 < leastF K l.length l i ∧ (leastF K l.length l i - 1) / 2 = i)) ∧ leS K (l.getD (leastF K l.length l i) dR) (l.getD i dR) ∧
    ∀ j, 0 < j → j < l.length → (j - 1) / 2 = i → leS K (l.getD (leastF K l.length l i) dR) (l.getD j dR) := by
  have ho := leO_S K
  obtain ⟨m1, hm1⟩ : ∃ m1, m1 = least1 K l.length l i (2 * i + 1) := ⟨_, rfl⟩
  have a1 : m1 < l.length ∧ (m1 = i ∨ m1 = 2 * i + 1) ∧ leS K (l.getD m1 dR) (l.getD i dR) ∧ (2 * i + 1 < l.length → leS K (l.getD m1 dR) (l.getD (2 * i + 1) dR)) := by
    rw [hm1]
    unfold least1
    split
    · rename_i h
      exact ⟨h.1, .inr rfl, ltS_le h.2, fun _ => ho.refl _⟩
    · rename_i h
      refine ⟨hi, .inl rfl, ho.refl _, fun h2 => ltS_not ?_⟩
      cases hb : ltS K (l.getD (2 * i + 1) dR) (l.getD i dR)
      · rfl
      · exact absurd ⟨h2, hb⟩ h
  obtain ⟨b1, b2, b3, b4⟩ := a1
  have e : leastF K l.length l i = least1 K l.length l m1 (2 * i + 2) := by rw [hm1]; rfl
  rw [e]
  unfold least1
  split
  · rename_i h
    have hle := ltS_le h.2
    refine ⟨h.1, .inr ⟨by omega, by omega⟩, ho.trans _ _ _ hle b3, fun j h0 hj hp => ?_⟩
    have : j = 2 * i + 1 ∨ j = 2 * i + 2 := by omega
    rcases this with rfl | rfl
    · exact ho.trans _ _ _ hle (b4 hj)
    · exact ho.refl _
  · rename_i h
    refine ⟨b1, by omega, b3, fun j h0 hj hp => ?_⟩
    have : j = 2 * i + 1 ∨ j = 2 * i + 2 := by omega
    rcases this with rfl | rfl
    · exact b4 hj
    · refine ltS_not ?_
      cases hb : ltS K (l.getD (2 * i + 2) dR) (l.getD m1 dR)
      · rfl
      · exact absurd ⟨hj, hb⟩ h
/-- taking out: down -/
def downF (K : List K3) (n : Nat) : Nat → List Rn → Nat → List Rn
  | 0, l, _ => l
  | k + 1, l, i => if leastF K n l i = i then l else downF K n k (swapL l i (leastF K n l i) dR) (leastF K n l i)
theorem downF_heap (K : List K3) : ∀ (k : Nat) (l : List Rn) (i : Nat), l.length ≤ k + i → DownH (leS K) dR l i → Heap (leS K) dR (downF K l.length k l i) ∧ (downF K l.length k l i).Perm l
  | 0, l, i, hk, h => ⟨h.done fun j h0 hj hp => by omega, .refl _⟩
  | k + 1, l, i, hk, h => by
    unfold downF
    by_cases hi : i < l.length
    · obtain ⟨c1, c2, c3, c4⟩ := leastF_spec K l i hi
      split
      · rename_i he
        rw [he] at c4
        exact ⟨h.done c4, .refl _⟩
      · rename_i he
        obtain ⟨m, hm⟩ : ∃ m, m = leastF K l.length l i := ⟨_, rfl⟩
        rw [← hm] at c1 c2 c3 c4 he ⊢
        have c2 := c2.resolve_left he
        have := downF_heap K k (swapL l i m dR) m (by rw [swapL_len]; omega) (h.step (leO_S K) hi c1 c2 c3 c4)
        rw [swapL_len] at this
        exact ⟨this.1, this.2.trans (swapL_perm l i m dR hi c1)⟩
    · have he : leastF K l.length l i = i := by
        unfold leastF least1
        rw [if_neg (by omega), if_neg (by omega)]
      rw [if_pos he]
      exact ⟨h.done fun j h0 hj hp => by omega, .refl _⟩
/-- on a list whose end is left alone -/
theorem leastF_take (K : List K3) (n : Nat) (l : List Rn) (i : Nat) (hi : i < n) : leastF K n (l.take n) i = leastF K n l i := by
  have g : ∀ k, k < n → (l.take n).getD k dR = l.getD k dR := fun k hk => by
    rw [List.getD_eq_getElem?_getD, List.getD_eq_getElem?_getD, List.getElem?_take, if_pos hk]
  have one : ∀ m k, m < n → least1 K n (l.take n) m k = least1 K n l m k ∧ least1 K n l m k < n := fun m k hm => by
    unfold least1
    by_cases hk : k < n
    · rw [g m hm, g k hk]
      refine ⟨rfl, ?_⟩
      split <;> omega
    · rw [if_neg (by omega), if_neg (by omega)]
      exact ⟨rfl, hm⟩
  unfold leastF
  rw [(one i _ hi).1, (one _ _ (one i _ hi).2).1]
theorem downF_take (K : List K3) (n : Nat) : ∀ (k : Nat) (l : List Rn) (i : Nat), n ≤ l.length → i < n → (downF K n k l i).take n = downF K n k (l.take n) i
  | 0, l, i, _, _ => rfl
  | k + 1, l, i, hn, hi => by
    unfold downF
    rw [leastF_take K n l i hi]
    split
    · rfl
    · have hl : (l.take n).length = n := by rw [List.length_take]; omega
      have hm : leastF K n l i < n := by
        have := leastF_spec K (l.take n) i (by omega)
        rw [hl, leastF_take K n l i hi] at this
        exact this.1
      rw [downF_take K n k _ _ (by rw [swapL_len]; exact hn) hm, take_swap l i _ n hi hm hn]
def popL (K : List K3) (l : List Rn) : List Rn := (downF K (l.length - 1) (l.length - 1) (l.set 0 (l.getD (l.length - 1) dR)) 0).take (l.length - 1)
theorem popL_heap {K : List K3} {l : List Rn} (h : Heap (leS K) dR l) (h0 : 0 < l.length) : Heap (leS K) dR (popL K l) ∧ (l.getD 0 dR :: popL K l).Perm l ∧ ∀ R ∈ popL K l, leS K (l.getD 0 dR) R := by
  obtain ⟨n, hn⟩ : ∃ n, n + 1 = l.length := ⟨l.length - 1, by omega⟩
  have hn' : l.length - 1 = n := by omega
  have hp := pop_perm (d := dR) hn
  have hl : ((l.set 0 (l.getD n dR)).take n).length = n := by rw [List.length_take, List.length_set]; omega
  have key : Heap (leS K) dR (popL K l) ∧ (popL K l).Perm ((l.set 0 (l.getD n dR)).take n) := by
    unfold popL
    rw [hn']
    by_cases hz : n = 0
    · subst hz
      simp only [List.take_zero]
      exact ⟨fun j h0 hj => by simp at hj, .refl _⟩
    · rw [downF_take K n n _ 0 (by rw [List.length_set]; omega) (by omega)]
      have := downF_heap K n ((l.set 0 (l.getD n dR)).take n) 0 (by omega) (DownH.start h _ n hn)
      rw [hl] at this
      exact this
  refine ⟨key.1, (List.Perm.cons _ key.2).trans hp, fun R hR => ?_⟩
  have hm : R ∈ l := hp.subset (List.mem_cons_of_mem _ (key.2.subset hR))
  obtain ⟨j, hj, rfl⟩ := List.getElem_of_mem hm
  have := h.root (leO_S K) j hj
  rw [List.getD_eq_getElem?_getD, List.getD_eq_getElem?_getD, List.getElem?_eq_getElem hj] at this
  rw [List.getD_eq_getElem?_getD]
  exact this
end Go.Proofs.Ytdgjcdhomfhfpaa
namespace Go.Proofs.Ytdgjcdhomfhfpaa
open Go.RowKit Go.IntWalk
set_option linter.unusedSimpArgs false
set_option linter.unusedVariables false

def rnC (R : Rn) : List CV := [.v (.int .i64 (R.1 : Nat)), .vs (rcL R.2)]
def rnL (l : List Rn) : List (List CV) := l.map rnC
theorem rnL_len (l : List Rn) : (rnL l).length = l.length := by simp [rnL]
theorem rnL_sz (l : List Rn) : ∀ el ∈ rnL l, el.length = 2 := by
  intro el h
  simp only [rnL, List.mem_map] at h
  obtain ⟨v, _, rfl⟩ := h
  rfl
theorem rnL_get (l : List Rn) (i : Nat) (h : i < l.length) : (rnL l).getD i [] = rnC (l.getD i dR) := by simp [rnL, h]
theorem rnL_k (l : List Rn) (i : Int) (h0 : 0 ≤ i) (h : i < l.length) : [4, 11] = ((((rnL l).getD i.toNat []).drop 0).take 2).map kindC := by rw [rnL_get l _ (by omega)]; rfl
theorem rnL_0 (l : List Rn) (i : Int) (h0 : 0 ≤ i) (h : i < l.length) : (cellAt (rnL l) i 0).int = ((l.getD i.toNat dR).1 : Nat) := by simp only [cellAt]; rw [rnL_get l _ (by omega)]; rfl
theorem rnL_1 (l : List Rn) (i : Int) (h0 : 0 ≤ i) (h : i < l.length) : (cellAt (rnL l) i 1).els = rcL (l.getD i.toNat dR).2 := by simp only [cellAt]; rw [rnL_get l _ (by omega)]; rfl
theorem rnL_set (l : List Rn) (i : Nat) (x : Rn) (h : i < l.length) : (rnL l).set i (overL ((rnL l).getD i []) 0 [.v (.int .i64 (x.1 : Nat)), .vs (rcL x.2)]) = rnL (l.set i x) := by
  rw [rnL_get l i h]
  unfold rnL
  rw [List.map_set]
  rfl
theorem rnL_app (a b : List Rn) : rnL a ++ rnL b = rnL (a ++ b) := by simp [rnL]
theorem rnL_take (a : List Rn) (n : Nat) : (rnL a).take n = rnL (a.take n) := by simp [rnL]
def OkR (R : Rn) : Prop := 0 < R.2.length ∧ RowsOk R.2
def LessOk (K : List K3) (cap : CV) : Prop := ∀ a b : Rn, OkR a → OkR b → FnC Try.prog 49 [.agg (rnC a), .agg (rnC b), .c cap] (bD (ltS K a b))
theorem getD_ok {l : List Rn} (h : ∀ R ∈ l, OkR R) {i : Nat} (hi : i < l.length) : OkR (l.getD i dR) := by
  rw [List.getD_eq_getElem?_getD, List.getElem?_eq_getElem hi]
  exact h _ (List.getElem_mem hi)
theorem swap_ok {l : List Rn} (h : ∀ R ∈ l, OkR R) {i j : Nat} (hi : i < l.length) (hj : j < l.length) : ∀ R ∈ swapL l i j dR, OkR R := fun R hR => h R ((swapL_perm l i j dR hi hj).subset hR)
theorem half_up (I : Nat) (h0 : 0 < I) (h : I ≤ 9223372036854775807) : IntKind.wrap .i64 (Int.tdiv (IntKind.wrap .i64 ((I : Int) - 1)) 2) = (((I - 1) / 2 : Nat) : Int) := by
  have e : (I : Int) - 1 = ((I - 1 : Nat) : Int) := by omega
  rw [i64_in ((I : Int) - 1) (by omega), e]
  have e2 : Int.tdiv ((I - 1 : Nat) : Int) 2 = (((I - 1) / 2 : Nat) : Int) := by
    rw [show (2 : Int) = ((2 : Nat) : Int) from rfl, Int.ofNat_tdiv]
  rw [e2, i64_in _ (by omega)]
abbrev heapM : Mo := ⟨0, 78, 80, 2⟩
abbrev lessD (cap : CV) : DV := .fn 49 [.c cap]
theorem c_push (K : List K3) (cap : CV) (hL : LessOk K cap) (l : List Rn) (R : Rn) (hl : ∀ R ∈ l, OkR R) (hR : OkR R) (hn : l.length ≤ 1048576) :
    FnO Try.prog heapM 40 [.c (.vs (rnL l)), lessD cap] [.agg (rnC R)] (.tup []) [.c (.vs (rnL (pushL K l R))), lessD cap] := by
  refine w40_obj (rnL l) [[cap]] R.1 (rcL R.2) rfl ?_
  intro x4 e4
  have e4 : x4 = rnL [R] := e4
  subst e4
  rw [rnL_len, rnL_len]
  refine ⟨by simp only [List.length_cons, List.length_nil]; omega, fun x5 e5 => ?_⟩
  rw [rnL_app] at e5
  subst e5
  have hlen : (l ++ [R]).length = l.length + 1 := by simp
  rw [rnL_len, hlen]
  refine ⟨fun x i n k => ∃ (l' : List Rn) (I F : Nat), x = rnL l' ∧ i = I ∧ n = ((l.length + 1 : Nat) : Int) ∧ I < l'.length ∧ l'.length = l.length + 1 ∧ I ≤ F ∧ (∀ R ∈ l', OkR R) ∧ upF K F l' I = pushL K l R ∧ k = I + 1,
    ⟨_, l ++ [R], l.length, l.length, rfl, by rw [i64_in _ (by omega)]; omega, rfl, by omega, hlen, Nat.le_refl _, fun S hS => ?_, rfl, rfl⟩, ?_⟩
  · rcases List.mem_append.1 hS with hS | hS
    · exact hl S hS
    · rw [List.mem_singleton.1 hS]; exact hR
  rintro k x i n ⟨l', I, F, rfl, rfl, rfl, hI, hN, hF, hok, hup, rfl⟩
  rw [rnL_len, hN]
  refine ⟨fun h0 => ?_, fun h0 => ?_⟩
  · have h0' : 0 < I := by omega
    have eU := half_up I h0' (by omega)
    rw [eU]
    obtain ⟨u, hu⟩ : ∃ u, u = (I - 1) / 2 := ⟨_, rfl⟩
    rw [← hu]
    have hul : u < l'.length := by omega
    obtain ⟨F', rfl⟩ : ∃ F', F = F' + 1 := ⟨F - 1, by omega⟩
    have kI := rnL_k l' I (by omega) (by omega)
    have kU := rnL_k l' u (by omega) (by omega)
    rw [rnL_0 l' I (by omega) (by omega), rnL_1 l' I (by omega) (by omega), rnL_0 l' u (by omega) (by omega), rnL_1 l' u (by omega) (by omega)]
    simp only [Int.toNat_natCast] at kI kU ⊢
    refine ⟨by omega, by omega, kI, by omega, kU, _, hL _ _ (getD_ok hok hI) (getD_ok hok hul), fun hlt => ?_, fun hlt => ?_⟩
    · refine ⟨by omega, ?_⟩
      unfold upF at hup
      rw [if_neg (by omega), ← hu, if_neg hlt] at hup
      rw [rnL_take, List.take_of_length_le (by omega), hup]
      rfl
    · have hlt := Classical.not_not.1 hlt
      refine ⟨by omega, kU, by omega, kI, by omega, by omega, fun x10 e10 => ?_⟩
      rw [rnL_set l' I _ hI] at e10
      subst e10
      rw [rnL_len, List.length_set]
      refine ⟨by omega, by omega, fun x11 e11 => ?_⟩
      rw [rnL_set _ u _ (by rw [List.length_set]; exact hul)] at e11
      subst e11
      unfold upF at hup
      rw [if_neg (by omega), ← hu, if_pos hlt] at hup
      exact ⟨u + 1, by omega, swapL l' I u dR, u, F', rfl, rfl, by first | rfl | trivial, by rw [swapL_len]; exact hul, by rw [swapL_len]; exact hN, by omega, swap_ok hok hI hul, hup, rfl⟩
  · have hz : I = 0 := by omega
    subst hz
    have e : upF K F l' 0 = l' := by
      cases F with
      | zero => rfl
      | succ F => unfold upF; rw [if_pos rfl]
    rw [e] at hup
    refine ⟨by omega, ?_⟩
    rw [Int.toNat_natCast, rnL_take, List.take_of_length_le (by omega), hup]
    rfl
theorem getD_take {l : List Rn} {n k : Nat} (hk : k < n) : (l.take n).getD k dR = l.getD k dR := by
  rw [List.getD_eq_getElem?_getD, List.getD_eq_getElem?_getD, List.getElem?_take, if_pos hk]
theorem c_pop (K : List K3) (cap : CV) (hL : LessOk K cap) (l : List Rn) (hl : ∀ R ∈ l, OkR R) (h0 : 0 < l.length) (hn : l.length ≤ 1048576) :
    FnO Try.prog heapM 39 [.c (.vs (rnL l)), lessD cap] [] (.agg (rnC (l.getD 0 dR))) [.c (.vs (rnL (popL K l))), lessD cap] := by
  refine w39_obj (rnL l) [[cap]] rfl ?_
  obtain ⟨n, hn1⟩ : ∃ n, l.length = n + 1 := ⟨l.length - 1, by omega⟩
  have hn2 : l.length - 1 = n := by omega
  have eW : IntKind.wrap .i64 (((l.length : Nat) : Int) - 1) = (n : Int) := by rw [i64_in _ (by omega)]; omega
  rw [rnL_len, eW]
  have k0 := rnL_k l 0 (by omega) (by omega)
  have kn := rnL_k l n (by omega) (by omega)
  rw [rnL_0 l n (by omega) (by omega), rnL_1 l n (by omega) (by omega), rnL_0 l 0 (by omega) (by omega), rnL_1 l 0 (by omega) (by omega)]
  simp only [Int.toNat_natCast, Int.toNat_zero] at k0 kn ⊢
  refine ⟨by omega, k0, by omega, kn, by omega, by omega, fun x2 e2 => ?_⟩
  rw [rnL_set l 0 _ h0] at e2
  subst e2
  obtain ⟨l0, hl0⟩ : ∃ l0, l0 = l.set 0 (l.getD n dR) := ⟨_, rfl⟩
  rw [← hl0]
  have hl0l : l0.length = n + 1 := by rw [hl0, List.length_set, hn1]
  have hok0 : ∀ R ∈ l0, OkR R := fun R hR => by
    rw [hl0] at hR
    rcases List.mem_or_eq_of_mem_set hR with hR | rfl
    · exact hl R hR
    · exact getD_ok hl (by omega)
  have hpop : popL K l = (downF K n n l0 0).take n := by unfold popL; rw [hn2, hl0]
  refine ⟨by omega, fun x i k => ∃ (l' : List Rn) (I F : Nat), x = rnL l' ∧ i = I ∧ (I < n ∨ I = 0) ∧ l'.length = n + 1 ∧ n ≤ F + I ∧ (∀ R ∈ l', OkR R) ∧ downF K n F l' I = downF K n n l0 0 ∧ k = n - I,
    ⟨_, l0, 0, n, rfl, rfl, .inr rfl, hl0l, by omega, hok0, rfl, rfl⟩, ?_⟩
  rintro k x i ⟨l', I, F, rfl, rfl, hI, hN, hF, hok, hdn, rfl⟩
  intro x5 e5
  have e2I : IntKind.wrap .i64 (IntKind.wrap .i64 (2 * (I : Int)) + 1) = ((2 * I + 1 : Nat) : Int) := by
    rw [i64_in (2 * (I : Int)) (by omega), i64_in _ (by omega)]; omega
  have e2J : IntKind.wrap .i64 (IntKind.wrap .i64 (2 * (I : Int)) + 2) = ((2 * I + 2 : Nat) : Int) := by
    rw [i64_in (2 * (I : Int)) (by omega), i64_in _ (by omega)]; omega
  rw [e2I, e2J] at e5
  subst e5
  obtain ⟨m1, hm1⟩ : ∃ m1, m1 = least1 K n l' I (2 * I + 1) := ⟨_, rfl⟩
  obtain ⟨m2, hm2⟩ : ∃ m2, m2 = leastF K n l' I := ⟨_, rfl⟩
  have hm12 : m2 = least1 K n l' m1 (2 * I + 2) := by rw [hm2, hm1]; rfl
  have one : ∀ m k, least1 K n l' m k = m ∨ (least1 K n l' m k = k ∧ k < n) := fun m k => by
    unfold least1
    split
    · rename_i h; exact .inr ⟨rfl, h.1⟩
    · exact .inl rfl
  have r1 : m1 = I ∨ (m1 = 2 * I + 1 ∧ 2 * I + 1 < n) := by rw [hm1]; exact one _ _
  have r2 : m2 = m1 ∨ (m2 = 2 * I + 2 ∧ 2 * I + 2 < n) := by rw [hm12]; exact one _ _
  -- where a child is told from the least one so far
  have child : ∀ (m c : Nat), (m < n ∨ c = 2 * I + 1 ∨ n ≤ c) → (c < n → m < n) → ∀ (nx : Nat), nx = least1 K n l' m c →
      (((c : Int) < (n : Int) → 0 ≤ (c : Int) ∧ (c : Int) < (n : Int)) ∧ (((c : Int) < (n : Int) → [4, 11] = ((((rnL l').getD ((c : Int)).toNat []).drop 0).take 2).map kindC) ∧ (((c : Int) < (n : Int) → 0 ≤ (m : Int) ∧ (m : Int) < (n : Int)) ∧ ((c : Int) < (n : Int) → [4, 11] = ((((rnL l').getD ((m : Int)).toNat []).drop 0).take 2).map kindC)))) ∧
      ∃ b : Bool, ((c : Int) < (n : Int) → FnC Try.prog 49 [(.agg [(.v (.int .i64 ((cellAt (rnL l') (c : Int) 0).int))), (.vs ((cellAt (rnL l') (c : Int) 1).els))]), (.agg [(.v (.int .i64 ((cellAt (rnL l') (m : Int) 0).int))), (.vs ((cellAt (rnL l') (m : Int) 1).els))]), (.c cap)] (.c (.v (.bool b)))) ∧
        ((((c : Int) < (n : Int)) ∧ b = true) → nx = c) ∧ (¬ (((c : Int) < (n : Int)) ∧ b = true) → nx = m) := by
    intro m c _ hcm nx hnx
    by_cases hc : c < n
    · have hmn := hcm hc
      have kc := rnL_k l' c (by omega) (by omega)
      have km := rnL_k l' m (by omega) (by omega)
      refine ⟨⟨fun _ => by omega, fun _ => kc, fun _ => by omega, fun _ => km⟩, ltS K (l'.getD c dR) (l'.getD m dR), fun _ => ?_, fun h => ?_, fun h => ?_⟩
      · rw [rnL_0 l' c (by omega) (by omega), rnL_1 l' c (by omega) (by omega), rnL_0 l' m (by omega) (by omega), rnL_1 l' m (by omega) (by omega)]
        simp only [Int.toNat_natCast]
        exact hL _ _ (getD_ok hok (by omega)) (getD_ok hok (by omega))
      · rw [hnx]; unfold least1; rw [if_pos ⟨hc, h.2⟩]
      · rw [hnx]; unfold least1; rw [if_neg fun h2 => h ⟨by omega, h2.2⟩]
    · refine ⟨⟨fun h => by omega, fun h => by omega, fun h => by omega, fun h => by omega⟩, false, fun h => by omega, fun h => by omega, fun h => ?_⟩
      rw [hnx]; unfold least1; rw [if_neg fun h2 => hc h2.1]
  refine ⟨fun m j k => ∃ J : Nat, j = J ∧ ((J = 0 ∧ m = I) ∨ (J = 1 ∧ m = m1) ∨ (J = 2 ∧ m = m2)) ∧ k = 2 - J, ⟨_, 0, rfl, .inl ⟨rfl, rfl⟩, rfl⟩, ?_⟩
  rintro k m j ⟨J, rfl, hJ, rfl⟩
  have hx5 : ([[CV.v (.int .i64 ((2 * I + 1 : Nat) : Int))], [.v (.int .i64 ((2 * I + 2 : Nat) : Int))]] : List (List CV)).length = 2 := rfl
  rw [hx5]
  refine ⟨fun hj => ?_, fun hj => ?_⟩
  · refine ⟨by omega, ?_⟩
    rcases hJ with ⟨rfl, rfl⟩ | ⟨rfl, rfl⟩ | ⟨rfl, rfl⟩
    · have ec : (cellAt [[CV.v (.int .i64 ((2 * I + 1 : Nat) : Int))], [.v (.int .i64 ((2 * I + 2 : Nat) : Int))]] ((0 : Nat) : Int) 0).int = ((2 * I + 1 : Nat) : Int) := rfl
      rw [ec]
      obtain ⟨⟨g1, g2, g3, g4⟩, b, g5, g6, g7⟩ := child I (2 * I + 1) (.inr (.inl rfl)) (fun h => by omega) m1 hm1
      refine ⟨rfl, g1, g2, g3, g4, b, g5, fun h => ⟨1, by omega, 1, by rw [i64_in _ (by omega)]; omega, .inr (.inl ⟨rfl, by rw [g6 h]⟩), rfl⟩, fun h => ⟨1, by omega, 1, by rw [i64_in _ (by omega)]; omega, .inr (.inl ⟨rfl, by rw [g7 h]⟩), rfl⟩⟩
    · have ec : (cellAt [[CV.v (.int .i64 ((2 * I + 1 : Nat) : Int))], [.v (.int .i64 ((2 * I + 2 : Nat) : Int))]] ((1 : Nat) : Int) 0).int = ((2 * I + 2 : Nat) : Int) := rfl
      rw [ec]
      obtain ⟨⟨g1, g2, g3, g4⟩, b, g5, g6, g7⟩ := child m1 (2 * I + 2) (by omega) (fun h => by omega) m2 hm12
      refine ⟨rfl, g1, g2, g3, g4, b, g5, fun h => ⟨0, by omega, 2, by rw [i64_in _ (by omega)]; omega, .inr (.inr ⟨rfl, by rw [g6 h]⟩), rfl⟩, fun h => ⟨0, by omega, 2, by rw [i64_in _ (by omega)]; omega, .inr (.inr ⟨rfl, by rw [g7 h]⟩), rfl⟩⟩
    · omega
  · have hJ2 : m = m2 := by
      rcases hJ with ⟨rfl, _⟩ | ⟨rfl, _⟩ | ⟨_, h⟩
      · omega
      · omega
      · exact h
    subst hJ2
    refine ⟨fun he => ?_, fun he => ?_⟩
    · have he : m2 = I := by omega
      have hfin : downF K n F l' I = l' := by
        cases F with
        | zero => rfl
        | succ F => unfold downF; rw [← hm2, if_pos he]
      rw [hfin] at hdn
      rw [rnL_len, hN]
      refine ⟨by omega, ?_⟩
      rw [rnL_take, hpop, ← hdn]
      rfl
    · have he : m2 ≠ I := fun h => he (by omega)
      have hm2n : m2 < n ∧ I < n := by omega
      obtain ⟨F', rfl⟩ : ∃ F', F = F' + 1 := ⟨F - 1, by omega⟩
      have kM := rnL_k l' m2 (by omega) (by omega)
      have kI := rnL_k l' I (by omega) (by omega)
      rw [rnL_0 l' m2 (by omega) (by omega), rnL_1 l' m2 (by omega) (by omega), rnL_0 l' I (by omega) (by omega), rnL_1 l' I (by omega) (by omega), rnL_len, hN]
      simp only [Int.toNat_natCast] at kM kI ⊢
      refine ⟨by omega, kM, by omega, kI, by omega, by omega, fun x8 e8 => ?_⟩
      rw [rnL_set l' I _ (by omega)] at e8
      subst e8
      rw [rnL_len, List.length_set, hN]
      refine ⟨by omega, by omega, fun x9 e9 => ?_⟩
      rw [rnL_set _ m2 _ (by rw [List.length_set]; omega)] at e9
      subst e9
      rw [show downF K n (F' + 1) l' I = if leastF K n l' I = I then l' else downF K n F' (swapL l' I (leastF K n l' I) dR) (leastF K n l' I) from rfl, ← hm2, if_neg he] at hdn
      exact ⟨n - m2, by omega, swapL l' I m2 dR, m2, F', rfl, rfl, .inl hm2n.1, by rw [swapL_len]; exact hN, by omega, swap_ok hok (by omega) (by omega), hdn, rfl⟩
end Go.Proofs.Ytdgjcdhomfhfpaa
namespace Go.Proofs.Ytdgjcdhomfhfpaa
open Go.RowKit Go.IntWalk Go.ChangeShapes Go.WideShapes Go.ChangeAt
set_option linter.unusedSimpArgs false
set_option linter.unusedVariables false

/-- a variable that holds a sorter by these keys -/
def SBox (K : List K3) (w : World) (r : Value) : Prop :=
  ∃ b1 b2 kv, r = .pointer (some ⟨b1, 0, none⟩) ∧ w.cell? ⟨b1, 0, none⟩ = some (.pointer (some ⟨b2, 0, none⟩)) ∧ w.cell? ⟨b2, 1, none⟩ = some kv ∧ CVR w (fun _ => False) (.vs (kc K)) kv
theorem cv_on {w w' : World} {cv : CV} {r : Value} (h : CVR w (fun _ => False) cv r) (hb : Below w.heap.size w w') : CVR w' (fun _ => False) cv r :=
  h.step ⟨fun b _ hlt => hb.block b hlt, fun _ h => h.elim, hb.size⟩
theorem row_at {w : World} {LL : List (List V3)} {r : Value} (h : CVR w (fun _ => False) (.vs (rcL LL)) r) {I : Nat} (hI : I < LL.length) :
    ∃ b o c x, r = .slice (some ⟨b, o, none⟩) LL.length c ∧ w.cell? ⟨b, o + I, none⟩ = some x ∧ CVR w (fun _ => False) (.vs (vc (LL.getD I []))) x ∧ LL.length ≤ c := by
  rcases CVR_inv h with ⟨hnil, a, rfl⟩ | ⟨b, o, sz, c, g, rfl, hsz, hc, hcell, hval⟩
  · have := rcL_len LL
    rw [hnil] at this
    simp at this
    omega
  · have he : (rcL LL)[I]? = some [.vs (vc (LL.getD I []))] := by simp [rcL, hI]
    have h1 : sz = 1 := (hsz _ (List.mem_of_getElem? he)).symm
    subst h1
    obtain ⟨_, hc1⟩ := hcell I _ he 0 _ rfl
    have hv := hval I _ he 0 _ rfl
    rw [Nat.add_zero, Nat.mul_one] at hc1
    rw [rcL_len] at hc ⊢
    exact ⟨b, o, c, _, rfl, hc1, hv, hc⟩
theorem ret_iD {f : FuncId} {args : List DV} {z : Int} (can : CanEnter Try.prog f) (h : FnC Try.prog f args (iD z)) (vs : List Value) (w : World) (hv : DVRs w (fun _ => False) args vs) : Calls Try.prog f vs.toArray w (Ret (.int .i64 z) w) := by
  refine (h.calls can w (fun _ => False) vs glo_none (fun _ h => h.elim) hv).mono ?_
  rintro e w' ⟨v, rfl, hr, hb⟩
  simp only [DVR] at hr
  cases hr
  exact ⟨rfl, hb⟩
theorem canCompare : CanEnter Try.prog 20 := canEnter_of Try.func20 (by kernel_rfl) (by kernel_rfl)
theorem canLess : CanEnter Try.prog 49 := canEnter_of Try.func49 (by kernel_rfl) (by kernel_rfl)
theorem compare_calls (K : List K3) (a b : List V3) (ha : SzR a) (hb : SzR b) (hK : K.length ≤ Lim) {w : World} {x y k : Value} (hx : CVR w (fun _ => False) (.vs (vc a)) x) (hy : CVR w (fun _ => False) (.vs (vc b)) y) (hk : CVR w (fun _ => False) (.vs (kc K)) k) :
    Calls Try.prog 20 #[x, y, k] w (Ret (.int .i64 (cmpR a b K)) w) := by
  have := ret_iD canCompare (c_oCompare a b K ha hb hK) [x, y, k] w (by simp only [DVRs, and_true]; exact ⟨DVR_vs hx, DVR_vs hy, DVR_vs hk⟩)
  simpa using this
theorem plus_below {w W : World} (h : Below w.heap.size w W) (x : Later W) : Below w.heap.size w (W.plus x) := h.trans (x.below.mono h.size)
set_option maxHeartbeats 8000000 in
set_option maxRecDepth 100000 in
theorem less_walk (K : List K3) (hK : K.length ≤ Lim) (a b : Rn) (ha : OkR a) (hb : OkR b) (w : World) (ra rb cap : Value) (ca : CVR w (fun _ => False) (.vs (rcL a.2)) ra) (cb : CVR w (fun _ => False) (.vs (rcL b.2)) rb) (hc : SBox K w cap) :
    Calls Try.prog 49 #[.agg #[.int .i64 (a.1 : Nat), ra], .agg #[.int .i64 (b.1 : Nat), rb], cap] w (Ret (.bool (ltS K a b)) w) := by
  obtain ⟨b1, b2, kv, rfl, hc1, hc2, hkv⟩ := hc
  obtain ⟨ba, oa, ma, xa, rfl, hxa, cxa, hma⟩ := row_at ca ha.1
  obtain ⟨bb, ob, mb, xb, rfl, hxb, cxb, hmb⟩ := row_at cb hb.1
  have hna := ha.1
  have hnb := hb.1
  have hra := (ha.2.at 0).sz
  have hrb := (hb.2.at 0).sz
  have hrng := (fineO_cmpR K).rng (hdR a) (hdR b)
  have l1 : b1 < w.heap.size := World.block_lt_of_cell? _ _ hc1
  have l2 : b2 < w.heap.size := World.block_lt_of_cell? _ _ hc2
  have l3 : ba < w.heap.size := World.block_lt_of_cell? _ _ hxa
  have l4 : bb < w.heap.size := World.block_lt_of_cell? _ _ hxb
  have hlt := ltS_iff K a b
  rw [Nat.add_zero] at hxa hxb
  obtain ⟨la, hla⟩ : ∃ n, n = a.2.length := ⟨_, rfl⟩
  obtain ⟨lb, hlb⟩ : ∃ n, n = b.2.length := ⟨_, rfl⟩
  rw [← hla] at hna hma ⊢
  rw [← hlb] at hnb hmb ⊢
  have fb1 : b1 < w.heap.size + 1 ∧ b1 < w.heap.size + 1 + 1 ∧ b1 ≠ w.heap.size ∧ b1 ≠ w.heap.size + 1 ∧ ¬ w.heap.size = b1 ∧ ¬ w.heap.size + 1 = b1 := by omega
  obtain ⟨gb11, gb12, gb13, gb14, gb15, gb16⟩ := fb1
  have fb2 : b2 < w.heap.size + 1 ∧ b2 < w.heap.size + 1 + 1 ∧ b2 ≠ w.heap.size ∧ b2 ≠ w.heap.size + 1 ∧ ¬ w.heap.size = b2 ∧ ¬ w.heap.size + 1 = b2 := by omega
  obtain ⟨gb21, gb22, gb23, gb24, gb25, gb26⟩ := fb2
  have fba : ba < w.heap.size + 1 ∧ ba < w.heap.size + 1 + 1 ∧ ba ≠ w.heap.size ∧ ba ≠ w.heap.size + 1 ∧ ¬ w.heap.size = ba ∧ ¬ w.heap.size + 1 = ba := by omega
  obtain ⟨gba1, gba2, gba3, gba4, gba5, gba6⟩ := fba
  have fbb : bb < w.heap.size + 1 ∧ bb < w.heap.size + 1 + 1 ∧ bb ≠ w.heap.size ∧ bb ≠ w.heap.size + 1 ∧ ¬ w.heap.size = bb ∧ ¬ w.heap.size + 1 = bb := by omega
  obtain ⟨gbb1, gbb2, gbb3, gbb4, gbb5, gbb6⟩ := fbb
  have C := fun (W : World) (hB : Below w.heap.size w W) => compare_calls K _ _ hra hrb hK (cv_on cxa hB) (cv_on cxb hB) (cv_on hkv hB)
  have fin : ∀ (c : Int) (r : Bool), cmpR (hdR a) (hdR b) K = c → ltS K a b = r → (c < 0 ∧ r = true ∨ 0 < c ∧ r = false ∨ c = 0 ∧ r = decide (a.1 < b.1)) → Calls Try.prog 49 #[.agg #[.int .i64 (a.1 : Nat), .slice (some ⟨ba, oa, none⟩) la ma], .agg #[.int .i64 (b.1 : Nat), .slice (some ⟨bb, ob, none⟩) lb mb], .pointer (some ⟨b1, 0, none⟩)] w (Ret (.bool r) w) := by
    intro c r hcd hr hcs
    have C : ∀ (W : World) (hB : Below w.heap.size w W), Calls Try.prog 20 #[xa, xb, kv] W (Ret (.int .i64 c) W) := fun W hB => by
      rw [← hcd]
      exact C W hB
    clear hcd hr hlt hrng
    obtain ⟨na, hna'⟩ : ∃ n, n = a.1 := ⟨_, rfl⟩
    obtain ⟨nb, hnb'⟩ : ∃ n, n = b.1 := ⟨_, rfl⟩
    rw [← hna', ← hnb'] at hcs ⊢
    clear hna' hnb'
    have hla0 : 0 < (la : Int) := by omega
    have hlb0 : 0 < (lb : Int) := by omega
    rcases hcs with ⟨h1, rfl⟩ | ⟨h1, rfl⟩ | ⟨rfl, h1⟩
    · go_enter Try.func49, Try.ntmps49
      go_wp2_with fail
      ((with_reducible refine region_draws ?_); refine region_plus (by kernel_rfl) (by kernel_rfl) ?_; (repeat (go_big_quiet_step ((first | (go_at_call 20; exact plus_of (C _ (plus_below (((Below.refl _ w).alloc (Nat.le_refl _) _).alloc (by simp) _) _))))))); refine wpQuiet_nil ?_; intro w1 hb1; obtain ⟨hc1, hf1⟩ := bcell hb1; have hz1 := hb1.size; (try simp at hz1); obtain ⟨hl1, hm1⟩ := bsz hb1; (try have hl1_0 : w.heap.size < w1.heap.size := by omega); (try have hm1_0 : w.heap.size ≤ w1.heap.size := by omega); (try have hl1_1 : w.heap.size + 1 < w1.heap.size := by omega); (try have hm1_1 : w.heap.size + 1 ≤ w1.heap.size := by omega); (try have hl1_2 : w.heap.size + 1 + 1 < w1.heap.size := by omega); (try have hm1_2 : w.heap.size + 1 + 1 ≤ w1.heap.size := by omega); (try have hl1_3 : w.heap.size + 1 + 1 + 1 < w1.heap.size := by omega); (try have hm1_3 : w.heap.size + 1 + 1 + 1 ≤ w1.heap.size := by omega))
      go_wp2_with fail
      go_ret
      exact ⟨rfl, (((Below.refl _ w).alloc (Nat.le_refl _) _).alloc (by simp) _).trans (hb1.mono (by simp; omega))⟩
    · have h2 : ¬ c < 0 := by omega
      have h3 : ¬ c = 0 := by omega
      go_enter Try.func49, Try.ntmps49
      go_wp2_with fail
      ((with_reducible refine region_draws ?_); refine region_plus (by kernel_rfl) (by kernel_rfl) ?_; (repeat (go_big_quiet_step ((first | (go_at_call 20; exact plus_of (C _ (plus_below (((Below.refl _ w).alloc (Nat.le_refl _) _).alloc (by simp) _) _))))))); refine wpQuiet_nil ?_; intro w1 hb1; obtain ⟨hc1, hf1⟩ := bcell hb1; have hz1 := hb1.size; (try simp at hz1); obtain ⟨hl1, hm1⟩ := bsz hb1; (try have hl1_0 : w.heap.size < w1.heap.size := by omega); (try have hm1_0 : w.heap.size ≤ w1.heap.size := by omega); (try have hl1_1 : w.heap.size + 1 < w1.heap.size := by omega); (try have hm1_1 : w.heap.size + 1 ≤ w1.heap.size := by omega); (try have hl1_2 : w.heap.size + 1 + 1 < w1.heap.size := by omega); (try have hm1_2 : w.heap.size + 1 + 1 ≤ w1.heap.size := by omega); (try have hl1_3 : w.heap.size + 1 + 1 + 1 < w1.heap.size := by omega); (try have hm1_3 : w.heap.size + 1 + 1 + 1 ≤ w1.heap.size := by omega))
      go_wp2_with fail
      go_ret
      refine ⟨by simp [h2, h3], (((Below.refl _ w).alloc (Nat.le_refl _) _).alloc (by simp) _).trans (hb1.mono (by simp; omega))⟩
    · go_enter Try.func49, Try.ntmps49
      go_wp2_with fail
      ((with_reducible refine region_draws ?_); refine region_plus (by kernel_rfl) (by kernel_rfl) ?_; (repeat (go_big_quiet_step ((first | (go_at_call 20; exact plus_of (C _ (plus_below (((Below.refl _ w).alloc (Nat.le_refl _) _).alloc (by simp) _) _))))))); refine wpQuiet_nil ?_; intro w1 hb1; obtain ⟨hc1, hf1⟩ := bcell hb1; have hz1 := hb1.size; (try simp at hz1); obtain ⟨hl1, hm1⟩ := bsz hb1; (try have hl1_0 : w.heap.size < w1.heap.size := by omega); (try have hm1_0 : w.heap.size ≤ w1.heap.size := by omega); (try have hl1_1 : w.heap.size + 1 < w1.heap.size := by omega); (try have hm1_1 : w.heap.size + 1 ≤ w1.heap.size := by omega); (try have hl1_2 : w.heap.size + 1 + 1 < w1.heap.size := by omega); (try have hm1_2 : w.heap.size + 1 + 1 ≤ w1.heap.size := by omega); (try have hl1_3 : w.heap.size + 1 + 1 + 1 < w1.heap.size := by omega); (try have hm1_3 : w.heap.size + 1 + 1 + 1 ≤ w1.heap.size := by omega))
      go_wp2_with fail
      go_ret
      exact ⟨by rw [h1]; simp, (((Below.refl _ w).alloc (Nat.le_refl _) _).alloc (by simp) _).trans (hb1.mono (by simp; omega))⟩
  refine fin _ _ rfl rfl ?_
  by_cases c1 : cmpR (hdR a) (hdR b) K < 0
  · exact .inl ⟨c1, hlt.2 (.inl c1)⟩
  · by_cases c2 : cmpR (hdR a) (hdR b) K = 0
    · refine .inr (.inr ⟨c2, ?_⟩)
      cases hb : ltS K a b
      · rw [hb] at hlt
        symm
        exact decide_eq_false fun h => by have := hlt.2 (.inr ⟨c2, h⟩); cases this
      · rcases hlt.1 hb with h | h
        · omega
        · symm; exact decide_eq_true h.2
    · refine .inr (.inl ⟨by omega, ?_⟩)
      cases hb : ltS K a b
      · rfl
      · rcases hlt.1 hb with h | h <;> omega
theorem lessOk (K : List K3) (hK : K.length ≤ Lim) : LessOk K (.sem (SBox K)) := fun a b ha hb => by
  refine FnC.of canLess fun w X vs hg hx hd => ?_
  match vs, hd with
  | [x, y, z], hd =>
    simp only [DVRs, and_true] at hd
    obtain ⟨h1, h2, h3⟩ := hd
    have h3 := DVR_sem h3
    have open_ : ∀ (R : Rn) (v : Value), DVR w X (.agg (rnC R)) v → ∃ r, v = .agg #[.int .i64 (R.1 : Nat), r] ∧ CVR w (fun _ => False) (.vs (rcL R.2)) r := fun R v h => by
      simp only [DVR, rnC] at h
      obtain ⟨ar, rfl, hc⟩ := h
      obtain ⟨l⟩ := ar
      match l, hc with
      | [p, q], hc =>
        simp only [CVRs, and_true] at hc
        obtain ⟨hp, hq⟩ := hc
        cases hp
        exact ⟨q, rfl, hq.mono fun _ h => h.elim⟩
      | [], h => simp [CVRs] at h
      | [_], h => simp [CVRs] at h
      | _ :: _ :: _ :: _, h => simp [CVRs] at h
    obtain ⟨ra, rfl, ca⟩ := open_ a x h1
    obtain ⟨rb, rfl, cb⟩ := open_ b y h2
    refine (less_walk K hK a b ha hb w ra rb z ca cb h3).mono ?_
    rintro e w' ⟨rfl, hB⟩
    refine ⟨_, rfl, ?_, hB⟩
    simp only [DVR]
    exact .v _ rfl
  | [], h => simp [DVRs] at h
  | [_], h => simp [DVRs] at h
  | [_, _], h => simp [DVRs] at h
  | _ :: _ :: _ :: _ :: _, h => simp [DVRs] at h
end Go.Proofs.Ytdgjcdhomfhfpaa
namespace Go.Proofs.Ytdgjcdhomfhfpaa
open Go.RowKit Go.IntWalk
set_option linter.unusedSimpArgs false
set_option linter.unusedVariables false

/-- a heap of runs of one's own, beside blocks X that are let be -/
structure HeapP (K : List K3) (w : World) (X : Nat → Prop) (hb : Nat) (at_ : Option (Nat × Nat)) (l : List Rn) : Prop where
  lt : hb < w.heap.size
  out : ¬ X hb
  row : ∀ b, AtB at_ b → b < w.heap.size ∧ ¬ X b ∧ b ≠ hb
  box : ∃ (c cap : Value) (fr : Nat × Nat), w.heap[hb]? = some (.cells #[c, .func (.func 49) #[] #[cap]] 78 fr) ∧ Free fr 2 ∧ SlP at_ l.length c ∧ CVR w (OwnO X hb at_) (.sem (SBox K)) cap
  rows : RowP w (OwnO X hb at_) at_ (rnL l) 80 2
section
variable {K : List K3} {w w' : World} {X X' : Nat → Prop} {hb : Nat} {at_ : Option (Nat × Nat)} {l : List Rn}
theorem HeapP.boxP (h : HeapP K w X hb at_ l) : BoxP w (OwnO X hb at_) hb at_ heapM [.c (.vs (rnL l)), lessD (.sem (SBox K))] := by
  obtain ⟨c, cap, fr, h1, h2, h3, h4⟩ := h.box
  refine ⟨_, fr, h1, h2, ?_⟩
  show ArgsM w _ at_ 0 _ [c, _]
  simp only [ArgsM, DVRs, DVR, and_true]
  exact ⟨⟨rnL l, rfl, by rw [rnL_len]; exact h3⟩, #[cap], rfl, by simp only [DVRs, DVR, and_true]; exact h4⟩
theorem HeapP.ofBox (lt : hb < w.heap.size) (out : ¬ X hb) (row : ∀ b, AtB at_ b → b < w.heap.size ∧ ¬ X b ∧ b ≠ hb)
    (box : BoxP w (OwnO X hb at_) hb at_ heapM [.c (.vs (rnL l)), lessD (.sem (SBox K))]) (rows : RowP w (OwnO X hb at_) at_ (rnL l) 80 2) : HeapP K w X hb at_ l := by
  refine ⟨lt, out, row, ?_, rows⟩
  obtain ⟨⟨a⟩, fr, h1, h2, h3⟩ := box
  match a, h3 with
  | [c, g], h3 =>
    have h3 : ArgsM w (OwnO X hb at_) at_ 0 [.c (.vs (rnL l)), lessD (.sem (SBox K))] [c, g] := h3
    simp only [ArgsM, DVRs, DVR, and_true] at h3
    obtain ⟨⟨c', e1, h4⟩, ⟨b⟩, rfl, h5⟩ := h3
    match b, h5 with
    | [cap], h5 =>
      simp only [DVRs, DVR, and_true] at h5
      refine ⟨c, cap, fr, h1, h2, ?_, h5⟩
      injection e1 with e1
      injection e1 with e1
      rw [← rnL_len, e1]
      exact h4
    | [], h => simp [DVRs] at h
    | _ :: _ :: _, h => simp [DVRs] at h
  | [], h => exact h.elim
  | [c], h =>
    have h : ArgsM w (OwnO X hb at_) at_ 0 [.c (.vs (rnL l)), lessD (.sem (SBox K))] [c] := h
    simp [ArgsM, DVRs] at h
  | c :: g :: d :: r, h =>
    have h : ArgsM w (OwnO X hb at_) at_ 0 [.c (.vs (rnL l)), lessD (.sem (SBox K))] (c :: g :: d :: r) := h
    simp [ArgsM, DVRs] at h
theorem HeapP.step (h : HeapP K w X hb at_ l) (hs : ∀ b, ¬ X b → b < w.heap.size → w'.heap[b]? = w.heap[b]?) (hx : ∀ b, X' b → X b ∨ w.heap.size ≤ b) (hz : w.heap.size ≤ w'.heap.size) : HeapP K w' X' hb at_ l := by
  have st : Stays (OwnO X hb at_) (OwnO X' hb at_) w w' := ⟨fun b hb' hlt => hs b (fun hX => hb' (.inl hX)) hlt, fun b hb' => by
    rcases hb' with h1 | h1
    · rcases hx b h1 with h2 | h2
      · exact .inl (.inl h2)
      · exact .inr h2
    · exact .inl (.inr h1), hz⟩
  have nx : ∀ b, b < w.heap.size → ¬ X b → ¬ X' b := fun b hlt hn hX => by
    rcases hx b hX with h2 | h2
    · exact hn h2
    · omega
  refine ⟨Nat.lt_of_lt_of_le h.lt hz, nx _ h.lt h.out, fun b hb' => ?_, ?_, ?_⟩
  · obtain ⟨h1, h2, h3⟩ := h.row b hb'
    exact ⟨Nat.lt_of_lt_of_le h1 hz, nx _ h1 h2, h3⟩
  · obtain ⟨c, cap, fr, h1, h2, h3, h4⟩ := h.box
    exact ⟨c, cap, fr, (hs hb h.out h.lt).trans h1, h2, h3, h4.step st⟩
  · obtain ⟨h1, h2, h3⟩ := h.rows
    refine ⟨h1, h2, h3.imp id ?_⟩
    rintro ⟨b, cap, a, fr, e, g1, g2, g3, g4, g5⟩
    obtain ⟨k1, k2, k3⟩ := h.row b ⟨cap, e⟩
    refine ⟨b, cap, a, fr, e, (hs b k2 k1).trans g1, g2, g3, g4, fun i el hi f cv hf => ?_⟩
    obtain ⟨r, hr, hc⟩ := g5 i el hi f cv hf
    exact ⟨r, hr, hc.step st⟩
theorem HeapP.len (h : HeapP K w X hb at_ l) : ∃ a c, w.cell? ⟨hb, 0, none⟩ = some (.slice a l.length c) := by
  obtain ⟨c, cap, fr, h1, h2, h3, h4⟩ := h.box
  rcases h3 with ⟨_, rfl, h0⟩ | ⟨b, cc, rc, _, rfl, _⟩
  · refine ⟨none, 0, ?_⟩
    rw [h0]
    simp [World.cell?, h1]
  · refine ⟨some ⟨b, 0, none⟩, rc, ?_⟩
    simp [World.cell?, h1]
/-- where it has been turned -/
structure HTurn (K : List K3) (X : Nat → Prop) (hb : Nat) (at_ : Option (Nat × Nat)) (w w' : World) (at' : Option (Nat × Nat)) (l' : List Rn) : Prop where
  turn : TurnO hb at_ w w'
  own : ∀ b, AtB at' b → AtB at_ b ∨ w.heap.size ≤ b
  heap : HeapP K w' X hb at' l'
theorem HeapP.push (h : HeapP K w X hb at_ l) (hK : K.length ≤ Lim) (hX : ∀ b, X b → b < w.heap.size) (hl : ∀ R ∈ l, OkR R) {R : Rn} (hR : OkR R) (hn : l.length ≤ 1048576) {r : Value} (hr : CVR w (OwnO X hb at_) (.vs (rcL R.2)) r) :
    Calls Try.prog 40 #[.pointer (some ⟨hb, 0, none⟩), .agg #[.int .i64 (R.1 : Nat), r]] w fun ex w' => ex = .returned (.tuple #[]) ∧ ∃ at', HTurn K X hb at_ w w' at' (pushL K l R) := by
  obtain ⟨_, c, c', e1, e2, hc⟩ := c_push K (.sem (SBox K)) (lessOk K hK) l R hl hR hn
  have e1 : (some (DV.c (.vs (rnL l))) : Option DV) = some (.c (.vs c)) := e1
  have e2 : (some (DV.c (.vs (rnL (pushL K l R)))) : Option DV) = some (.c (.vs c')) := e2
  injection e1 with e1; injection e1 with e1; injection e1 with e1
  injection e2 with e2; injection e2 with e2; injection e2 with e2
  subst e1 e2
  refine (hc w X hb at_ [.agg #[.int .i64 (R.1 : Nat), r]] glo_none hX ⟨h.lt, h.out, fun g hg => by simp [gloList] at hg⟩ (fun b hb' => ?_) h.boxP h.rows ?_).mono ?_
  · obtain ⟨h1, h2, h3⟩ := h.row b hb'
    exact ⟨h1, h2, h3, fun g hg => by simp [gloList] at hg⟩
  · simp only [DVRs, and_true, DVR]
    refine ⟨_, rfl, ?_⟩
    simp only [rnC, CVRs, and_true]
    exact ⟨.v _ rfl, hr⟩
  · rintro ex w' ⟨v, at', rfl, ht, ho, hbx, hrw, hd⟩
    simp only [DVR] at hd
    obtain ⟨⟨a⟩, rfl, hd⟩ := hd
    refine ⟨?_, at', ht, fun b hb' => (ho b hb').1, HeapP.ofBox (Nat.lt_of_lt_of_le h.lt ht.size) h.out (fun b hb' => ?_) hbx hrw⟩
    · match a, hd with
      | [], _ => rfl
      | _ :: _, h => simp [DVRs] at h
    · obtain ⟨h1, h2, h3⟩ := ho b hb'
      refine ⟨h2, ?_, h3⟩
      rcases h1 with h1 | h1
      · exact (h.row b h1).2.1
      · intro hx; have := hX b hx; omega
theorem HeapP.pop (h : HeapP K w X hb at_ l) (hK : K.length ≤ Lim) (hX : ∀ b, X b → b < w.heap.size) (hl : ∀ R ∈ l, OkR R) (h0 : 0 < l.length) (hn : l.length ≤ 1048576) :
    Calls Try.prog 39 #[.pointer (some ⟨hb, 0, none⟩)] w fun ex w' => ∃ r, ex = .returned (.agg #[.int .i64 ((l.getD 0 dR).1 : Nat), r]) ∧ ∃ at', HTurn K X hb at_ w w' at' (popL K l) ∧ CVR w' (OwnO X hb at') (.vs (rcL (l.getD 0 dR).2)) r := by
  obtain ⟨_, c, c', e1, e2, hc⟩ := c_pop K (.sem (SBox K)) (lessOk K hK) l hl h0 hn
  have e1 : (some (DV.c (.vs (rnL l))) : Option DV) = some (.c (.vs c)) := e1
  have e2 : (some (DV.c (.vs (rnL (popL K l)))) : Option DV) = some (.c (.vs c')) := e2
  injection e1 with e1; injection e1 with e1; injection e1 with e1
  injection e2 with e2; injection e2 with e2; injection e2 with e2
  subst e1 e2
  refine (hc w X hb at_ [] glo_none hX ⟨h.lt, h.out, fun g hg => by simp [gloList] at hg⟩ (fun b hb' => ?_) h.boxP h.rows (by simp [DVRs])).mono ?_
  · obtain ⟨h1, h2, h3⟩ := h.row b hb'
    exact ⟨h1, h2, h3, fun g hg => by simp [gloList] at hg⟩
  · rintro ex w' ⟨v, at', rfl, ht, ho, hbx, hrw, hd⟩
    simp only [DVR] at hd
    obtain ⟨⟨a⟩, rfl, hd⟩ := hd
    match a, hd with
    | [p, q], hd =>
      simp only [rnC, CVRs, and_true] at hd
      obtain ⟨hp, hq⟩ := hd
      cases hp
      refine ⟨q, rfl, at', ⟨ht, fun b hb' => (ho b hb').1, HeapP.ofBox (Nat.lt_of_lt_of_le h.lt ht.size) h.out (fun b hb' => ?_) hbx hrw⟩, hq⟩
      obtain ⟨h1, h2, h3⟩ := ho b hb'
      refine ⟨h2, ?_, h3⟩
      rcases h1 with h1 | h1
      · exact (h.row b h1).2.1
      · intro hx; have := hX b hx; omega
    | [], h => simp [rnC, CVRs] at h
    | [_], h => simp [rnC, CVRs] at h
    | _ :: _ :: _ :: _, h => simp [rnC, CVRs] at h
/-- a new heap -/
theorem HeapP.fresh {cap : Value} {fr : Nat × Nat} (h1 : w.heap[hb]? = some (.cells #[.slice none 0 0, .func (.func 49) #[] #[cap]] 78 fr)) (h2 : Free fr 2) (hX : ¬ X hb) (hc : CVR w (OwnO X hb none) (.sem (SBox K)) cap) : HeapP K w X hb none [] :=
  ⟨(Array.getElem?_eq_some_iff.1 h1).1, hX, fun b ⟨_, h⟩ => (by cases h), ⟨_, cap, fr, h1, h2, .inl ⟨rfl, rfl, rfl⟩, hc⟩, ⟨by decide, fun el h => (by cases h), .inl ⟨rfl, rfl⟩⟩⟩
end
end Go.Proofs.Ytdgjcdhomfhfpaa
