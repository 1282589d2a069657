/- Rows of values, as closed data. No condition. Plain laws: the order of values and of rows of values is a total preorder. No condition. Plain laws: a stable sort comes to one arrangement alone; exchanges of what is not alike keep it. No condition. Plain laws: two sorted stretches are merged by the place where they cross. No condition. What the functions of package order compute: which row is ahead; the parts of Go's stable sort. Conditions: texts, rows and keys that a machine can hold. What Go's stable sort computes: rows in order, those that are alike as they came. Conditions: texts, rows and keys that a machine can hold. What Sort of package order and of the document's answer compute: the one stable arrangement. Conditions: at most 2^20 rows of at most 2^20 values, texts and keys that a machine can hold. What Check, Find, Same, Sorted of package order and of the document's answer compute, and which rows are fair. Conditions: at most 2^20 rows of at most 2^20 values, texts and keys that a machine can hold. What mark and Unique of package order compute: the text that rows have together just if they are the same. Conditions: at most 2^20 rows of at most 2^20 values, texts a machine can hold. From the given reading of an argument to closed data: slices of elements that read as closed data. No condition. From the given reading of rows of rows, rows and keys to closed data. No condition. -/
import Derived.Test.YtdgjcdhomfhfpaaCt5
import Derived.Test.YtdgjcdhomfhfpaaCt6
import Derived.Test.YtdgjcdhomfhfpaaFr
import Derived.Deep.Slices
namespace Go.Proofs.Ytdgjcdhomfhfpaa
open Go.RowKit Go.IntWalk
set_option linter.unusedSimpArgs false
set_option linter.unusedVariables false

/-- values as rows -/
def vc (L : List V3) : List (List CV) := L.map fun v => [.v (.int .i64 v.1), .v (.int .i64 v.2.1), .v (.string (bs v.2.2))]
theorem vc_len (L : List V3) : (vc L).length = L.length := by simp [vc]
theorem vc_sz (L : List V3) : ∀ el ∈ vc L, el.length = 3 := by
  intro el h
  simp only [vc, List.mem_map] at h
  obtain ⟨v, _, rfl⟩ := h
  rfl
theorem vc_drop (L : List V3) (n : Nat) : (vc L).drop n = vc (L.drop n) := by simp [vc]
theorem vc_get (L : List V3) (i : Nat) (h : i < L.length) : (vc L).getD i [] = [.v (.int .i64 (L.getD i nul).1), .v (.int .i64 (L.getD i nul).2.1), .v (.string (bs (L.getD i nul).2.2))] := by simp [vc, h]
theorem vc_k (L : List V3) (i : Int) (h0 : 0 ≤ i) (h : i < L.length) : [4, 4, 10] = ((((vc L).getD i.toNat []).drop 0).take 3).map kindC := by rw [vc_get L _ (by omega)]; rfl
theorem vc_k0 (L : List V3) (i : Int) (h0 : 0 ≤ i) (h : i < L.length) : [4] = ((((vc L).getD i.toNat []).drop 0).take 1).map kindC := by rw [vc_get L _ (by omega)]; rfl
theorem vc_k1 (L : List V3) (i : Int) (h0 : 0 ≤ i) (h : i < L.length) : [4] = ((((vc L).getD i.toNat []).drop 1).take 1).map kindC := by rw [vc_get L _ (by omega)]; rfl
theorem vc_k2 (L : List V3) (i : Int) (h0 : 0 ≤ i) (h : i < L.length) : [10] = ((((vc L).getD i.toNat []).drop 2).take 1).map kindC := by rw [vc_get L _ (by omega)]; rfl
theorem vc_0 (L : List V3) (i : Int) (h0 : 0 ≤ i) (h : i < L.length) : (cellAt (vc L) i 0).int = (L.getD i.toNat nul).1 := by simp only [cellAt]; rw [vc_get L _ (by omega)]; rfl
theorem vc_1 (L : List V3) (i : Int) (h0 : 0 ≤ i) (h : i < L.length) : (cellAt (vc L) i 1).int = (L.getD i.toNat nul).2.1 := by simp only [cellAt]; rw [vc_get L _ (by omega)]; rfl
theorem vc_2 (L : List V3) (i : Int) (h0 : 0 ≤ i) (h : i < L.length) : (cellAt (vc L) i 2).str = bs (L.getD i.toNat nul).2.2 := by simp only [cellAt]; rw [vc_get L _ (by omega)]; rfl
theorem vc_vD (L : List V3) (i : Int) (h0 : 0 ≤ i) (h : i < L.length) : DV.agg [.v (.int .i64 (cellAt (vc L) i 0).int), .v (.int .i64 (cellAt (vc L) i 1).int), .v (.string (cellAt (vc L) i 2).str)] = vD (L.getD i.toNat nul) := by
  rw [vc_0 L i h0 h, vc_1 L i h0 h, vc_2 L i h0 h]

theorem vc_rep (n : Nat) : List.replicate n [CV.v (.int .i64 0), CV.v (.int .i64 0), CV.v (.string ⟨#[]⟩)] = vc (List.replicate n nul) := by
  simp only [vc, List.map_replicate]; rfl
theorem vc_set (L : List V3) (K : Nat) (v : V3) (h : K < L.length) : (vc L).set K (overL ((vc L).getD K []) 0 [.v (.int .i64 v.1), .v (.int .i64 v.2.1), .v (.string (bs v.2.2))]) = vc (L.set K v) := by
  rw [vc_get L K h]
  simp only [vc, List.map_set]; rfl
theorem vc_take (L : List V3) (n : Nat) : (vc L).take n = vc (L.take n) := by simp [vc]
/-- a value that may be -/
def Can (v : V3) : Prop := ¬ (v.1 < 0 ∨ 3 < v.1 ∨ (v.1 ≠ 1 ∧ v.2.1 ≠ 0) ∨ (v.1 < 2 ∧ v.2.2 ≠ []))
end Go.Proofs.Ytdgjcdhomfhfpaa
namespace Go.Proofs.Ytdgjcdhomfhfpaa
open Go.RowKit
set_option linter.unusedSimpArgs false
set_option linter.unusedVariables false

theorem ob_refl : ∀ x : List UInt8, Lib.compareBytes x x = 0
  | [] => rfl
  | a :: x => by
    have h : ¬ a < a := fun h => absurd h (UInt8.lt_irrefl a)
    simp only [Lib.compareBytes, h, if_false]
    exact ob_refl x
theorem ob_swap : ∀ x y : List UInt8, Lib.compareBytes y x = -Lib.compareBytes x y
  | [], [] => rfl
  | [], _ :: _ => rfl
  | _ :: _, [] => rfl
  | a :: x, b :: y => by
    have ih := ob_swap x y
    simp only [Lib.compareBytes]
    by_cases h1 : a < b
    · have h2 : ¬ b < a := fun h => absurd (UInt8.lt_trans h1 h) (UInt8.lt_irrefl a)
      simp [h1, h2]
    · by_cases h2 : b < a
      · simp [h1, h2]
      · simp only [h1, h2, if_false]; exact ih
theorem ob_one : ∀ x y : List UInt8, -1 ≤ Lib.compareBytes x y ∧ Lib.compareBytes x y ≤ 1
  | [], [] => by simp [Lib.compareBytes]
  | [], _ :: _ => by simp [Lib.compareBytes]
  | _ :: _, [] => by simp [Lib.compareBytes]
  | a :: x, b :: y => by
    have ih := ob_one x y
    simp only [Lib.compareBytes]
    by_cases h1 : a < b
    · simp [h1]
    · by_cases h2 : b < a
      · simp [h1, h2]
      · simp only [h1, h2, if_false]; exact ih
theorem ob_u8 {a b : UInt8} (h1 : ¬ a < b) (h2 : ¬ b < a) : a = b := UInt8.le_antisymm (UInt8.not_lt.1 h2) (UInt8.not_lt.1 h1)
theorem ob_eq : ∀ x y : List UInt8, Lib.compareBytes x y = 0 → x = y
  | [], [], _ => rfl
  | [], _ :: _, h => by simp [Lib.compareBytes] at h
  | _ :: _, [], h => by simp [Lib.compareBytes] at h
  | a :: x, b :: y, h => by
    simp only [Lib.compareBytes] at h
    by_cases h1 : a < b
    · simp [h1] at h
    · by_cases h2 : b < a
      · simp [h1, h2] at h
      · simp only [h1, h2, if_false] at h
        rw [ob_u8 h1 h2, ob_eq x y h]
theorem ob_trans : ∀ x y z : List UInt8, Lib.compareBytes x y ≤ 0 → Lib.compareBytes y z ≤ 0 → Lib.compareBytes x z ≤ 0
  | [], _, [], _, _ => by simp [Lib.compareBytes]
  | [], _, _ :: _, _, _ => by simp [Lib.compareBytes]
  | _ :: _, [], _, h, _ => by simp [Lib.compareBytes] at h
  | _ :: _, _ :: _, [], _, h => by simp [Lib.compareBytes] at h
  | a :: x, b :: y, c :: z, hx, hy => by
    have ih := ob_trans x y z
    simp only [Lib.compareBytes] at hx hy ⊢
    by_cases h1 : a < c
    · simp [h1]
    · by_cases h2 : a < b
      · by_cases h3 : b < c
        · exact absurd (UInt8.lt_trans h2 h3) h1
        · by_cases h4 : c < b
          · simp [h3, h4] at hy
          · have := ob_u8 h3 h4
            subst this
            exact absurd h2 h1
      · by_cases h3 : b < a
        · simp [h2, h3] at hx
        · have := ob_u8 h2 h3
          subst this
          by_cases h4 : c < a
          · simp [h1, h4] at hy
          · simp only [h1, h4, if_false] at hy ⊢
            simp only [UInt8.lt_irrefl, if_false] at hx
            exact ih hx hy
/-- a way to compare that is a total preorder -/
structure FineO {α : Type} (f : α → α → Int) : Prop where
  refl : ∀ a, f a a = 0
  swap : ∀ a b, f b a = -f a b
  trans : ∀ a b c, f a b ≤ 0 → f b c ≤ 0 → f a c ≤ 0
  rng : ∀ a b, -1 ≤ f a b ∧ f a b ≤ 1
theorem oi_swap (x y : Int) : cmpI y x = -cmpI x y := by
  unfold cmpI
  split <;> split <;> first | omega | (split <;> omega)
theorem oi_trans (x y z : Int) (h1 : cmpI x y ≤ 0) (h2 : cmpI y z ≤ 0) : cmpI x z ≤ 0 := by
  unfold cmpI at *
  split <;> (try split) <;> (try split at h1) <;> (try split at h1) <;> (try split at h2) <;> (try split at h2) <;> omega
theorem fineO_int : FineO cmpI := ⟨fun x => by unfold cmpI; simp, oi_swap, oi_trans, fun x y => by unfold cmpI; split <;> (try split) <;> omega⟩
theorem fineO_bytes : FineO Lib.compareBytes := ⟨ob_refl, ob_swap, ob_trans, ob_one⟩
theorem FineO.map {α β : Type} {f : α → α → Int} (h : FineO f) (g : β → α) : FineO fun a b => f (g a) (g b) := ⟨fun _ => h.refl _, fun _ _ => h.swap _ _, fun _ _ _ => h.trans _ _ _, fun _ _ => h.rng _ _⟩
theorem fineO_zero (α : Type) : FineO fun (_ _ : α) => (0 : Int) := ⟨fun _ => rfl, fun _ _ => rfl, fun _ _ _ _ _ => by omega, fun _ _ => by omega⟩
theorem FineO.neg {α : Type} {f : α → α → Int} (h : FineO f) : FineO fun a b => -f a b := ⟨fun a => by rw [h.refl]; rfl, fun a b => by rw [h.swap a b], fun a b c h1 h2 => by
  have := h.trans c b a (by rw [h.swap b c]; exact h2) (by rw [h.swap a b]; exact h1)
  rw [h.swap a c] at this
  exact this, fun a b => by have := h.rng a b; omega⟩
theorem FineO.eq0 {α : Type} {f : α → α → Int} (h : FineO f) {a b c : α} (h1 : f a b = 0) : f a c = f b c := by
  have e1 := h.swap a b
  have t1 := h.trans a b c
  have t2 := h.trans b a c
  have t3 := h.trans c a b
  have t4 := h.trans c b a
  have s1 := h.swap a c
  have s2 := h.swap b c
  have r1 := h.rng a c
  have r2 := h.rng b c
  rcases Int.lt_trichotomy (f a c) 0 with g | g | g <;> rcases Int.lt_trichotomy (f b c) 0 with g' | g' | g' <;> omega
/-- by one, then by another -/
theorem FineO.next {α : Type} {f g : α → α → Int} (hf : FineO f) (hg : FineO g) : FineO fun a b => if f a b = 0 then g a b else f a b := by
  refine ⟨fun a => ?_, fun a b => ?_, fun a b c h1 h2 => ?_, fun a b => ?_⟩
  · rw [if_pos (hf.refl a)]; exact hg.refl a
  · have e := hf.swap a b
    have e2 := hg.swap a b
    by_cases h : f a b = 0
    · rw [if_pos h, if_pos (by omega), e2]
    · rw [if_neg h, if_neg (by omega), e]
  · by_cases e1 : f a b = 0
    · rw [hf.eq0 e1]
      rw [if_pos e1] at h1
      by_cases e2 : f b c = 0
      · rw [if_pos e2] at h2 ⊢
        exact hg.trans a b c h1 h2
      · rw [if_neg e2] at h2 ⊢
        exact h2
    · rw [if_neg e1] at h1
      by_cases e2 : f b c = 0
      · have e3 : f a c = f a b := by
          have := hf.swap c a
          have h3 := hf.eq0 e2 (c := a)
          have h4 := hf.swap b a
          omega
        rw [e3, if_neg e1]
        exact h1
      · rw [if_neg e2] at h2
        have t := hf.trans a b c h1 h2
        by_cases e3 : f a c = 0
        · exfalso
          have h3 := hf.eq0 e3 (c := b)
          have h4 := hf.swap b c
          omega
        · rw [if_neg e3]
          exact t
  · split
    · exact hg.rng a b
    · exact hf.rng a b
theorem FineO.lex {α : Type} (k : α → Int) (f : Int → α → α → Int) (hf : ∀ n, FineO (f n)) : FineO fun a b => if k a ≠ k b then cmpI (k a) (k b) else f (k a) a b := by
  have key : ∀ x y : Int, cmpI x y = 0 ↔ x = y := fun x y => by unfold cmpI; split <;> (try split) <;> omega
  have lt : ∀ x y : Int, cmpI x y ≤ 0 ↔ x ≤ y := fun x y => by unfold cmpI; split <;> (try split) <;> omega
  refine ⟨fun a => ?_, fun a b => ?_, fun a b c h1 h2 => ?_, fun a b => ?_⟩
  · simp [(hf _).refl]
  · by_cases e : k a = k b
    · simp only [e, ne_eq, not_true_eq_false, if_false]; exact (hf _).swap a b
    · simp only [ne_eq, e, Ne.symm e, not_false_eq_true, if_true]
      exact oi_swap _ _
  · by_cases e1 : k a = k b
    · by_cases e2 : k b = k c
      · simp only [e1, e2, ne_eq, not_true_eq_false, if_false] at h1 h2 ⊢
        exact (hf _).trans a b c h1 h2
      · simp only [e1, e2, ne_eq, not_false_eq_true, if_true] at h2 ⊢; exact h2
    · by_cases e2 : k b = k c
      · rw [← e2]
        simp only [e1, ne_eq, not_false_eq_true, if_true] at h1 ⊢; exact h1
      · simp only [e1, e2, ne_eq, not_false_eq_true, if_true] at h1 h2
        rw [lt] at h1 h2
        simp only [show ¬ k a = k c from by omega, ne_eq, not_false_eq_true, if_true]
        rw [lt]; omega
  · split
    · exact fineO_int.rng _ _
    · exact (hf _).rng _ _
theorem fineO_cmpV (coll : Int) : FineO fun a b => cmpV a b coll := by
  have h := FineO.lex (α := V3) (fun a => a.1) (fun k a b => if k = 1 then cmpI a.2.1 b.2.1 else if k = 2 then (if coll = 1 then Lib.compareBytes (foldL a.2.2) (foldL b.2.2) else Lib.compareBytes a.2.2 b.2.2) else if k = 3 then Lib.compareBytes a.2.2 b.2.2 else 0) (fun k => by
    by_cases h1 : k = 1
    · simp only [h1, if_true]; exact fineO_int.map (fun a : V3 => a.2.1)
    · by_cases h2 : k = 2
      · by_cases h3 : coll = 1
        · simp only [h2, h3, if_true, h1, if_false]; exact fineO_bytes.map (fun a : V3 => foldL a.2.2)
        · simp only [h2, h3, if_true, h1, if_false]; exact fineO_bytes.map (fun a : V3 => a.2.2)
      · by_cases h3 : k = 3
        · simp only [h1, h2, h3, if_false, if_true]; exact fineO_bytes.map (fun a : V3 => a.2.2)
        · simp only [h1, h2, h3, if_false]; exact fineO_zero _)
  exact h
/-- keys: a column, a collation, downwards -/
abbrev K3 := Int × Int × Bool
def rightK (k : K3) : Bool := decide (0 ≤ k.1) && (decide (k.2.1 = 0) || decide (k.2.1 = 1))
def atR (L : List V3) (c : Int) : V3 := L.getD c.toNat nul
/-- which of two rows is ahead -/
def cmpR (a b : List V3) : List K3 → Int
  | [] => 0
  | k :: ks => if rightK k = true then (if cmpV (atR a k.1) (atR b k.1) k.2.1 = 0 then cmpR a b ks else if k.2.2 = true then -cmpV (atR a k.1) (atR b k.1) k.2.1 else cmpV (atR a k.1) (atR b k.1) k.2.1) else cmpR a b ks
theorem fineO_cmpR : ∀ ks : List K3, FineO fun a b => cmpR a b ks
  | [] => fineO_zero _
  | k :: ks => by
    have ih := fineO_cmpR ks
    by_cases hk : rightK k = true
    · have hv := (fineO_cmpV k.2.1).map (fun L : List V3 => atR L k.1)
      by_cases hd : k.2.2 = true
      · have := hv.neg.next ih
        simp only [cmpR, hk, hd, if_true]
        refine (show (fun a b => if -cmpV (atR a k.1) (atR b k.1) k.2.1 = 0 then cmpR a b ks else -cmpV (atR a k.1) (atR b k.1) k.2.1) = (fun a b => if cmpV (atR a k.1) (atR b k.1) k.2.1 = 0 then cmpR a b ks else -cmpV (atR a k.1) (atR b k.1) k.2.1) from ?_) ▸ this
        funext a b
        by_cases h0 : cmpV (atR a k.1) (atR b k.1) k.2.1 = 0
        · rw [if_pos h0, if_pos (by omega)]
        · rw [if_neg h0, if_neg (by omega)]
      · have := hv.next ih
        simp only [cmpR, hk, hd, if_true, if_false]
        exact this
    · simp only [cmpR, hk, if_false]
      exact ih
end Go.Proofs.Ytdgjcdhomfhfpaa
namespace Go.Proofs.Ytdgjcdhomfhfpaa
open Go.RowKit
set_option linter.unusedSimpArgs false
set_option linter.unusedVariables false

section
variable {α : Type} {c : α → α → Int}
def seg (f : Nat → α) (a b : Nat) : List α := (List.range (b - a)).map fun i => f (a + i)
def eqv (c : α → α → Int) (r x : α) : Bool := decide (c r x = 0)
/-- each class of what is alike stands in its order -/
def Stab (c : α → α → Int) (l m : List α) : Prop := ∀ r, l.filter (eqv c r) = m.filter (eqv c r)
theorem Stab.refl (l : List α) : Stab c l l := fun _ => rfl
theorem Stab.symm {l m : List α} (h : Stab c l m) : Stab c m l := fun r => (h r).symm
theorem Stab.trans {l m n : List α} (h : Stab c l m) (k : Stab c m n) : Stab c l n := fun r => (h r).trans (k r)
theorem Stab.app {l m l' m' : List α} (h : Stab c l m) (k : Stab c l' m') : Stab c (l ++ l') (m ++ m') := fun r => by
  rw [List.filter_append, List.filter_append, h r, k r]
theorem Stab.mem (hF : FineO c) {l m : List α} (h : Stab c l m) {x : α} (hx : x ∈ l) : x ∈ m := by
  have h1 : x ∈ l.filter (eqv c x) := List.mem_filter.2 ⟨hx, by simp [eqv, hF.refl]⟩
  rw [h x] at h1
  exact (List.mem_filter.1 h1).1
theorem Stab.swap (hF : FineO c) (l m : List α) (h : ∀ x ∈ l, ∀ y ∈ m, c x y ≠ 0) : Stab c (l ++ m) (m ++ l) := fun r => by
  rw [List.filter_append, List.filter_append]
  by_cases h1 : l.filter (eqv c r) = []
  · rw [h1]; simp
  · have h2 : m.filter (eqv c r) = [] := by
      cases hl : l.filter (eqv c r) with
      | nil => exact absurd hl h1
      | cons x t =>
        have hx : x ∈ l.filter (eqv c r) := by rw [hl]; simp
        obtain ⟨hx1, hx2⟩ := List.mem_filter.1 hx
        rw [List.filter_eq_nil_iff]
        intro y hy hy2
        simp only [eqv, decide_eq_true_eq] at hx2 hy2
        exact h x hx1 y hy (by rw [← hF.eq0 hx2]; exact hy2)
    rw [h2]; simp

theorem srt_uniq (hF : FineO c) : ∀ (l m : List α), l.Pairwise (fun x y => c x y ≤ 0) → m.Pairwise (fun x y => c x y ≤ 0) → Stab c l m → l = m
  | [], [], _, _, _ => rfl
  | [], y :: m, _, _, h => by
    have := h.symm.mem hF (x := y) (by simp)
    simp at this
  | x :: l, [], _, _, h => by
    have := h.mem hF (x := x) (by simp)
    simp at this
  | x :: l, y :: m, hl, hm, h => by
    rw [List.pairwise_cons] at hl hm
    have h1 : c y x ≤ 0 := by
      rcases List.mem_cons.1 (h.mem hF (x := x) (by simp)) with e | e
      · rw [e, hF.refl]; exact Int.le_refl _
      · exact hm.1 x e
    have h2 : c x y ≤ 0 := by
      rcases List.mem_cons.1 (h.symm.mem hF (x := y) (by simp)) with e | e
      · rw [e, hF.refl]; exact Int.le_refl _
      · exact hl.1 y e
    have h3 := hF.swap x y
    have h4 : c x y = 0 := by omega
    have h5 := h x
    rw [List.filter_cons_of_pos (by simp [eqv, hF.refl]), List.filter_cons_of_pos (by simp [eqv, h4])] at h5
    obtain rfl : x = y := by simpa using (List.cons.inj h5).1
    congr 1
    refine srt_uniq hF l m hl.2 hm.2 fun r => ?_
    have h6 := h r
    rw [List.filter_cons, List.filter_cons] at h6
    split at h6
    · exact (List.cons.inj h6).2
    · exact h6

theorem seg_len (f : Nat → α) (a b : Nat) : (seg f a b).length = b - a := by simp [seg]
theorem seg_at (f : Nat → α) (a b i : Nat) (h : i < b - a) : (seg f a b)[i]? = some (f (a + i)) := by simp [seg, h]
theorem seg_cut (f : Nat → α) {a m b : Nat} (h1 : a ≤ m) (h2 : m ≤ b) : seg f a b = seg f a m ++ seg f m b := by
  apply List.ext_getElem?
  intro i
  by_cases h3 : i < m - a
  · rw [List.getElem?_append_left (by rw [seg_len]; exact h3), seg_at _ _ _ _ h3, seg_at _ _ _ _ (by omega)]
  · rw [List.getElem?_append_right (by rw [seg_len]; omega), seg_len]
    by_cases h4 : i < b - a
    · rw [seg_at _ _ _ _ h4, seg_at _ _ _ _ (by omega)]
      congr 2
      omega
    · rw [List.getElem?_eq_none (by rw [seg_len]; omega), List.getElem?_eq_none (by rw [seg_len]; omega)]
theorem seg_congr {f g : Nat → α} {a b : Nat} (h : ∀ k, a ≤ k → k < b → f k = g k) : seg f a b = seg g a b := by
  unfold seg
  apply List.map_congr_left
  intro i hi
  have := List.mem_range.1 hi
  exact h _ (by omega) (by omega)
theorem seg_shift (f : Nat → α) (a b d : Nat) : seg (fun k => f (k + d)) a b = seg f (a + d) (b + d) := by
  unfold seg
  rw [show b + d - (a + d) = b - a by omega]
  apply List.map_congr_left
  intro i _
  show f (a + i + d) = f (a + d + i)
  congr 1; omega
theorem seg_mem {f : Nat → α} {a b : Nat} {x : α} : x ∈ seg f a b ↔ ∃ k, a ≤ k ∧ k < b ∧ f k = x := by
  unfold seg
  rw [List.mem_map]
  constructor
  · rintro ⟨i, hi, rfl⟩
    have := List.mem_range.1 hi
    exact ⟨_, by omega, by omega, rfl⟩
  · rintro ⟨k, h1, h2, rfl⟩
    exact ⟨k - a, List.mem_range.2 (by omega), by congr 1; omega⟩
/-- f becomes g between a and b: what is alike stays in its order -/
structure Mv (c : α → α → Int) (f g : Nat → α) (a b : Nat) : Prop where
  out : ∀ k, k < a ∨ b ≤ k → g k = f k
  st : Stab c (seg f a b) (seg g a b)
theorem Mv.refl (f : Nat → α) (a b : Nat) : Mv c f f a b := ⟨fun _ _ => rfl, Stab.refl _⟩
theorem Mv.trans {f g h : Nat → α} {a b : Nat} (h1 : Mv c f g a b) (h2 : Mv c g h a b) : Mv c f h a b := ⟨fun k hk => (h2.out k hk).trans (h1.out k hk), h1.st.trans h2.st⟩
theorem Mv.wide {f g : Nat → α} {a b a' b' : Nat} (h : Mv c f g a b) (h1 : a' ≤ a) (h2 : a ≤ b) (h3 : b ≤ b') : Mv c f g a' b' := by
  refine ⟨fun k hk => h.out k (by omega), ?_⟩
  rw [seg_cut f h1 (show a ≤ b' by omega), seg_cut f h2 h3, seg_cut g h1 (show a ≤ b' by omega), seg_cut g h2 h3]
  have e1 : seg f a' a = seg g a' a := seg_congr fun k _ hk => (h.out k (by omega)).symm
  have e2 : seg f b b' = seg g b b' := seg_congr fun k hk _ => (h.out k (by omega)).symm
  rw [e1, e2]
  exact (Stab.refl _).app (h.st.app (Stab.refl _))
theorem Mv.mem (hF : FineO c) {f g : Nat → α} {a b : Nat} (h : Mv c f g a b) {k : Nat} (h1 : a ≤ k) (h2 : k < b) : ∃ k', a ≤ k' ∧ k' < b ∧ g k = f k' := by
  obtain ⟨k', g1, g2, g3⟩ := seg_mem.1 (h.st.symm.mem hF (seg_mem.2 ⟨k, h1, h2, rfl⟩))
  exact ⟨k', g1, g2, g3.symm⟩
def Asc (c : α → α → Int) (f : Nat → α) (a b : Nat) : Prop := ∀ i j, a ≤ i → i < j → j < b → c (f i) (f j) ≤ 0
theorem Asc.list {f : Nat → α} {a b : Nat} (h : Asc c f a b) : (seg f a b).Pairwise (fun x y => c x y ≤ 0) := by
  rw [List.pairwise_iff_getElem]
  intro i j hi hj hij
  rw [seg_len] at hi hj
  have e1 := seg_at f a b i hi
  have e2 := seg_at f a b j hj
  rw [List.getElem?_eq_getElem (by rw [seg_len]; exact hi)] at e1
  rw [List.getElem?_eq_getElem (by rw [seg_len]; exact hj)] at e2
  simp only [Option.some.injEq] at e1 e2
  rw [e1, e2]
  exact h _ _ (by omega) (by omega) (by omega)
theorem Asc.sub {f : Nat → α} {a b a' b' : Nat} (h : Asc c f a b) (h1 : a ≤ a') (h2 : b' ≤ b) : Asc c f a' b' := fun i j g1 g2 g3 => h i j (by omega) g2 (by omega)
theorem Asc.le (hF : FineO c) {f : Nat → α} {a b : Nat} (h : Asc c f a b) {i j : Nat} (h1 : a ≤ i) (h2 : i ≤ j) (h3 : j < b) : c (f i) (f j) ≤ 0 := by
  rcases Nat.lt_or_eq_of_le h2 with h2 | rfl
  · exact h i j h1 h2 h3
  · rw [hF.refl]; exact Int.le_refl _
theorem Mv.uniq (hF : FineO c) {f g g' : Nat → α} {a b : Nat} (h1 : Mv c f g a b) (h2 : Mv c f g' a b) (s1 : Asc c g a b) (s2 : Asc c g' a b) : g = g' := by
  have h := srt_uniq hF _ _ s1.list s2.list (h1.st.symm.trans h2.st)
  funext k
  by_cases hk : k < a ∨ b ≤ k
  · rw [h1.out k hk, h2.out k hk]
  · have e1 := seg_at g a b (k - a) (by omega)
    have e2 := seg_at g' a b (k - a) (by omega)
    rw [h, e2] at e1
    simp only [Option.some.injEq] at e1
    rw [show a + (k - a) = k by omega] at e1
    exact e1.symm
def swF (f : Nat → α) (i : Nat) : Nat → α := fun k => if k = i then f (i + 1) else if k = i + 1 then f i else f k
theorem Mv.swap (hF : FineO c) (f : Nat → α) (i : Nat) (h : c (f i) (f (i + 1)) ≠ 0) : Mv c f (swF f i) i (i + 2) := by
  refine ⟨fun k hk => by unfold swF; rw [if_neg (by omega), if_neg (by omega)], ?_⟩
  have e1 : seg f i (i + 2) = [f i] ++ [f (i + 1)] := by simp [seg, List.range_succ]
  have e2 : seg (swF f i) i (i + 2) = [f (i + 1)] ++ [f i] := by simp [seg, List.range_succ, swF]
  rw [e1, e2]
  exact Stab.swap hF _ _ fun x hx y hy => by
    simp only [List.mem_singleton] at hx hy
    subst hx hy
    exact h
/-- two stretches change places -/
def rotF (f : Nat → α) (a m b : Nat) : Nat → α := fun k => if a ≤ k ∧ k < b then (if k < a + (b - m) then f (k - a + m) else f (k - (b - m))) else f k
theorem rotF_left (f : Nat → α) {a m b : Nat} (h : m = a ∨ m = b) : rotF f a m b = f := by
  funext k
  unfold rotF
  rcases h with rfl | rfl
  · split
    · rw [if_pos (by omega)]; congr 1; omega
    · rfl
  · split
    · rw [if_neg (by omega)]; congr 1; omega
    · rfl
theorem rotF_seg (f : Nat → α) {a m b : Nat} (h1 : a ≤ m) (h2 : m ≤ b) : seg (rotF f a m b) a b = seg f m b ++ seg f a m := by
  rw [seg_cut (m := a + (b - m)) _ (by omega) (by omega)]
  congr 1
  · apply List.ext_getElem?
    intro i
    by_cases h : i < b - m
    · rw [seg_at _ _ _ _ (by omega), seg_at _ _ _ _ h]
      unfold rotF
      rw [if_pos (by omega), if_pos (by omega)]
      congr 2; omega
    · rw [List.getElem?_eq_none (by rw [seg_len]; omega), List.getElem?_eq_none (by rw [seg_len]; omega)]
  · apply List.ext_getElem?
    intro i
    by_cases h : i < m - a
    · rw [seg_at _ _ _ _ (by omega), seg_at _ _ _ _ h]
      unfold rotF
      rw [if_pos (by omega), if_neg (by omega)]
      congr 2; omega
    · rw [List.getElem?_eq_none (by rw [seg_len]; omega), List.getElem?_eq_none (by rw [seg_len]; omega)]
theorem Mv.rot (hF : FineO c) (f : Nat → α) {a m b : Nat} (h1 : a ≤ m) (h2 : m ≤ b) (h : ∀ i j, a ≤ i → i < m → m ≤ j → j < b → c (f i) (f j) ≠ 0) : Mv c f (rotF f a m b) a b := by
  refine ⟨fun k hk => by unfold rotF; rw [if_neg (by omega)], ?_⟩
  rw [rotF_seg f h1 h2, seg_cut f h1 h2]
  refine Stab.swap hF _ _ fun x hx y hy => ?_
  obtain ⟨i, g1, g2, rfl⟩ := seg_mem.1 hx
  obtain ⟨j, g3, g4, rfl⟩ := seg_mem.1 hy
  exact h i j g1 g2 g3 g4
/-- between sorted stretches an element finds its place -/
theorem ins_exists (hF : FineO c) : ∀ (n : Nat) (f : Nat → α) (a j : Nat), j - a = n → a ≤ j → Asc c f a j → ∃ g, Mv c f g a (j + 1) ∧ Asc c g a (j + 1)
  | 0, f, a, j, hn, hj, hs => ⟨f, Mv.refl _ _ _, fun i k h1 h2 h3 => by omega⟩
  | n + 1, f, a, j, hn, hj, hs => by
    have hj1 : j = (j - 1) + 1 := by omega
    by_cases hlt : c (f j) (f (j - 1)) < 0
    · have hne : c (f (j - 1)) (f (j - 1 + 1)) ≠ 0 := by
        have := hF.swap (f (j - 1)) (f j)
        rw [← hj1]; omega
      have hsw := Mv.swap hF f (j - 1) hne
      obtain ⟨g, hg, hsg⟩ := ins_exists hF n (swF f (j - 1)) a (j - 1) (by omega) (by omega) (fun i k h1 h2 h3 => by
        simp only [swF]
        rw [if_neg (by omega), if_neg (by omega), if_neg (by omega), if_neg (by omega)]
        exact hs i k h1 h2 (by omega))
      rw [← hj1] at hg hsg
      refine ⟨g, (hsw.wide (by omega) (by omega) (by omega)).trans (hg.wide (Nat.le_refl _) (by omega) (by omega)), fun i k h1 h2 h3 => ?_⟩
      by_cases hk : k < j
      · exact hsg i k h1 h2 hk
      · obtain rfl : k = j := by omega
        rw [hg.out k (.inr (Nat.le_refl _))]
        obtain ⟨i', g1, g2, g3⟩ := hg.mem hF h1 h2
        rw [g3]
        simp only [swF]
        rw [if_neg (show ¬ k = k - 1 by omega), if_pos hj1]
        by_cases h4 : i' = k - 1
        · rw [if_pos h4, ← hj1]; omega
        · rw [if_neg h4, if_neg (by omega)]
          exact hs.le hF g1 (by omega) (by omega)
    · refine ⟨f, Mv.refl _ _ _, fun i k h1 h2 h3 => ?_⟩
      by_cases hk : k < j
      · exact hs i k h1 h2 hk
      · obtain rfl : k = j := by omega
        have h4 := hF.swap (f k) (f (k - 1))
        exact hF.trans _ _ _ (hs.le hF h1 (show i ≤ k - 1 by omega) (by omega)) (by omega)
theorem srt_exists (hF : FineO c) (f : Nat → α) (a : Nat) : ∀ n, ∃ g, Mv c f g a (a + n) ∧ Asc c g a (a + n)
  | 0 => ⟨f, Mv.refl _ _ _, fun i k h1 h2 h3 => by omega⟩
  | n + 1 => by
    obtain ⟨g, h1, h2⟩ := srt_exists hF f a n
    obtain ⟨g', h3, h4⟩ := ins_exists hF n g a (a + n) (by omega) (by omega) h2
    exact ⟨g', (h1.wide (Nat.le_refl _) (by omega) (by omega)).trans h3, h4⟩
/-- where a truth turns -/
theorem turns (p : Nat → Bool) : ∀ (n lo : Nat), (∀ i j, lo ≤ i → i ≤ j → j < lo + n → p j = true → p i = true) → ∃ s, lo ≤ s ∧ s ≤ lo + n ∧ (∀ i, lo ≤ i → i < s → p i = true) ∧ (∀ i, s ≤ i → i < lo + n → p i = false)
  | 0, lo, _ => ⟨lo, Nat.le_refl _, by omega, fun i h1 h2 => by omega, fun i h1 h2 => by omega⟩
  | n + 1, lo, h => by
    cases hp : p lo with
    | false => exact ⟨lo, Nat.le_refl _, by omega, fun i h1 h2 => by omega, fun i h1 h2 => by
        cases hi : p i with
        | false => rfl
        | true => rw [h lo i (Nat.le_refl _) h1 h2 hi] at hp; cases hp⟩
    | true =>
      obtain ⟨s, h1, h2, h3, h4⟩ := turns p n (lo + 1) fun i j g1 g2 g3 => h i j (by omega) g2 (by omega)
      refine ⟨s, by omega, by omega, fun i g1 g2 => ?_, fun i g1 g2 => h4 i g1 (by omega)⟩
      by_cases he : i = lo
      · rw [he]; exact hp
      · exact h3 i (by omega) g2
end
end Go.Proofs.Ytdgjcdhomfhfpaa
namespace Go.Proofs.Ytdgjcdhomfhfpaa
open Go.RowKit
set_option linter.unusedSimpArgs false
set_option linter.unusedVariables false

section
variable {α : Type} {c : α → α → Int}
def lo0 (a m b : Nat) : Nat := if (a + b) / 2 < m then (a + b) / 2 + m - b else a
def hi0 (a m b : Nat) : Nat := if (a + b) / 2 < m then (a + b) / 2 else m
/-- the place where two sorted stretches cross -/
structure Cross (c : α → α → Int) (f : Nat → α) (a m b s : Nat) : Prop where
  lo : lo0 a m b ≤ s
  hi : s ≤ hi0 a m b
  below : ∀ i, lo0 a m b ≤ i → i < s → ¬ c (f ((a + b) / 2 + m - 1 - i)) (f i) < 0
  above : ∀ i, s ≤ i → i < hi0 a m b → c (f ((a + b) / 2 + m - 1 - i)) (f i) < 0
theorem cross_rng {a m b : Nat} (h1 : a < m) (h2 : m < b) : a ≤ lo0 a m b ∧ lo0 a m b ≤ hi0 a m b ∧ hi0 a m b ≤ m ∧ hi0 a m b ≤ (a + b) / 2 ∧ (∀ i, lo0 a m b ≤ i → i < hi0 a m b → m ≤ (a + b) / 2 + m - 1 - i ∧ (a + b) / 2 + m - 1 - i < b) ∧ (∀ s, lo0 a m b ≤ s → s ≤ hi0 a m b → m ≤ (a + b) / 2 + m - s ∧ (a + b) / 2 + m - s ≤ b) := by
  unfold lo0 hi0
  split
  · refine ⟨by omega, by omega, by omega, by omega, fun i g1 g2 => by omega, fun s g1 g2 => by omega⟩
  · refine ⟨by omega, by omega, by omega, by omega, fun i g1 g2 => by omega, fun s g1 g2 => by omega⟩
theorem cross_exists (hF : FineO c) {f : Nat → α} {a m b : Nat} (h1 : a < m) (h2 : m < b) (s1 : Asc c f a m) (s2 : Asc c f m b) : ∃ s, Cross c f a m b s := by
  obtain ⟨r1, r2, r3, r4, r5, r6⟩ := cross_rng h1 h2
  obtain ⟨s, g1, g2, g3, g4⟩ := turns (fun i => decide (¬ c (f ((a + b) / 2 + m - 1 - i)) (f i) < 0)) (hi0 a m b - lo0 a m b) (lo0 a m b) fun i j k1 k2 k3 hj => by
    simp only [decide_eq_true_eq] at hj ⊢
    have hji := r5 j (by omega) (by omega)
    have hii := r5 i k1 (by omega)
    have e1 := s1.le hF (show a ≤ i by omega) k2 (by omega)
    have e2 := s2.le hF hji.1 (show (a + b) / 2 + m - 1 - j ≤ (a + b) / 2 + m - 1 - i by omega) hii.2
    have e3 := hF.swap (f ((a + b) / 2 + m - 1 - j)) (f j)
    have e4 := hF.swap (f ((a + b) / 2 + m - 1 - i)) (f i)
    have e5 := hF.trans _ _ _ e1 (show c (f j) (f ((a + b) / 2 + m - 1 - j)) ≤ 0 by omega)
    have e6 := hF.trans _ _ _ e5 e2
    omega
  refine ⟨s, g1, by omega, fun i k1 k2 => by simpa using g3 i k1 k2, fun i k1 k2 => ?_⟩
  have := g4 i k1 (by omega)
  simp only [decide_eq_false_iff_not, Classical.not_not] at this
  exact this
/-- what lies across -/
theorem Cross.facts (hF : FineO c) {f : Nat → α} {a m b s : Nat} (h1 : a < m) (h2 : m < b) (s1 : Asc c f a m) (s2 : Asc c f m b) (h : Cross c f a m b s) :
    (∀ i j, a ≤ i → i < s → (a + b) / 2 + m - s ≤ j → j < b → c (f i) (f j) ≤ 0) ∧ (∀ i j, s ≤ i → i < m → m ≤ j → j < (a + b) / 2 + m - s → c (f j) (f i) < 0) := by
  obtain ⟨r1, r2, r3, r4, r5, r6⟩ := cross_rng h1 h2
  have hlo := h.lo
  have hhi := h.hi
  have hs := r6 s h.lo h.hi
  refine ⟨fun i j k1 k2 k3 k4 => ?_, fun i j k1 k2 k3 k4 => ?_⟩
  · by_cases hs0 : s = lo0 a m b
    · exfalso
      subst hs0
      unfold lo0 at k2 k3
      split at k2
      · rename_i hm
        rw [if_pos hm] at k3
        omega
      · omega
    · have g := h.below (s - 1) (by omega) (by omega)
      have e1 := s1.le hF k1 (show i ≤ s - 1 by omega) (by omega)
      have e2 := s2.le hF (show m ≤ (a + b) / 2 + m - 1 - (s - 1) by omega) (show (a + b) / 2 + m - 1 - (s - 1) ≤ j by omega) k4
      have e3 := hF.swap (f ((a + b) / 2 + m - 1 - (s - 1))) (f (s - 1))
      exact hF.trans _ _ _ (hF.trans _ _ _ e1 (by omega)) e2
  · by_cases hs0 : s = hi0 a m b
    · exfalso
      subst hs0
      unfold hi0 at k1 k4
      split at k4
      · rename_i hm
        omega
      · rename_i hm
        rw [if_neg hm] at k1
        omega
    · have g := h.above s (Nat.le_refl _) (by omega)
      have e1 := s1.le hF (show a ≤ s by omega) k1 k2
      have e2 := s2.le hF k3 (show j ≤ (a + b) / 2 + m - 1 - s by omega) (by omega)
      have e3 := hF.trans _ _ _ e2 (Int.le_of_lt g)
      have e4 := hF.trans _ _ _ e3 e1
      by_cases e5 : c (f j) (f i) = 0
      · exfalso
        have z := hF.eq0 e5 (c := f s)
        have w := hF.swap (f s) (f i)
        have y := hF.swap (f ((a + b) / 2 + m - 1 - s)) (f s)
        have t := hF.trans (f s) (f j) (f ((a + b) / 2 + m - 1 - s)) (by have := hF.swap (f j) (f s); omega) e2
        omega
      · omega
theorem Cross.rot (hF : FineO c) {f : Nat → α} {a m b s : Nat} (h1 : a < m) (h2 : m < b) (s1 : Asc c f a m) (s2 : Asc c f m b) (h : Cross c f a m b s) :
    Mv c f (rotF f s m ((a + b) / 2 + m - s)) a b ∧ Asc c (rotF f s m ((a + b) / 2 + m - s)) a s ∧ Asc c (rotF f s m ((a + b) / 2 + m - s)) s ((a + b) / 2) ∧
      Asc c (rotF f s m ((a + b) / 2 + m - s)) ((a + b) / 2) ((a + b) / 2 + m - s) ∧ Asc c (rotF f s m ((a + b) / 2 + m - s)) ((a + b) / 2 + m - s) b ∧
      (∀ i j, a ≤ i → i < (a + b) / 2 → (a + b) / 2 ≤ j → j < b → c (rotF f s m ((a + b) / 2 + m - s) i) (rotF f s m ((a + b) / 2 + m - s) j) ≤ 0) := by
  obtain ⟨r1, r2, r3, r4, r5, r6⟩ := cross_rng h1 h2
  obtain ⟨F1, F2⟩ := h.facts hF h1 h2 s1 s2
  have hlo := h.lo
  have hhi := h.hi
  have hs := r6 s h.lo h.hi
  have at1 : ∀ k, k < s → rotF f s m ((a + b) / 2 + m - s) k = f k := fun k hk => by unfold rotF; rw [if_neg (by omega)]
  have at2 : ∀ k, s ≤ k → k < (a + b) / 2 → rotF f s m ((a + b) / 2 + m - s) k = f (k - s + m) := fun k hk hk2 => by unfold rotF; rw [if_pos (by omega), if_pos (by omega)]
  have at3 : ∀ k, (a + b) / 2 ≤ k → k < (a + b) / 2 + m - s → rotF f s m ((a + b) / 2 + m - s) k = f (k - ((a + b) / 2 - s)) := fun k hk hk2 => by
    unfold rotF; rw [if_pos (by omega), if_neg (by omega)]; congr 1; omega
  have at4 : ∀ k, (a + b) / 2 + m - s ≤ k → rotF f s m ((a + b) / 2 + m - s) k = f k := fun k hk => by unfold rotF; rw [if_neg (by omega)]
  refine ⟨(Mv.rot hF f (by omega) hs.1 fun i j g1 g2 g3 g4 => ?_).wide (by omega) (by omega) hs.2, fun i j g1 g2 g3 => ?_, fun i j g1 g2 g3 => ?_, fun i j g1 g2 g3 => ?_, fun i j g1 g2 g3 => ?_, fun i j g1 g2 g3 g4 => ?_⟩
  · have e1 := F2 i j g1 g2 g3 g4
    have e2 := hF.swap (f i) (f j)
    omega
  · rw [at1 i (by omega), at1 j (by omega)]
    exact s1 i j g1 g2 (by omega)
  · rw [at2 i g1 (by omega), at2 j (by omega) g3]
    exact s2 _ _ (by omega) (by omega) (by omega)
  · rw [at3 i g1 (by omega), at3 j (by omega) g3]
    exact s1 _ _ (by omega) (by omega) (by omega)
  · rw [at4 i g1, at4 j (by omega)]
    exact s2 i j (by omega) g2 g3
  · by_cases c1 : i < s
    · rw [at1 i c1]
      by_cases c2 : j < (a + b) / 2 + m - s
      · rw [at3 j g3 c2]
        exact s1.le hF g1 (by omega) (by omega)
      · rw [at4 j (by omega)]
        exact F1 i j g1 c1 (by omega) g4
    · rw [at2 i (by omega) g2]
      by_cases c2 : j < (a + b) / 2 + m - s
      · rw [at3 j g3 c2]
        exact Int.le_of_lt (F2 _ _ (by omega) (by omega) (by omega) (by omega))
      · rw [at4 j (by omega)]
        exact s2.le hF (by omega) (by omega) g4
/-- both halves sorted: all is -/
theorem Asc.join (hF : FineO c) {f g1 g2 : Nat → α} {a d b : Nat} (h1 : a ≤ d) (h2 : d ≤ b) (m1 : Mv c f g1 a d) (m2 : Mv c g1 g2 d b) (s1 : Asc c g1 a d) (s2 : Asc c g2 d b) (hx : ∀ i j, a ≤ i → i < d → d ≤ j → j < b → c (f i) (f j) ≤ 0) : Mv c f g2 a b ∧ Asc c g2 a b := by
  refine ⟨(m1.wide (Nat.le_refl _) h1 h2).trans (m2.wide h1 h2 (Nat.le_refl _)), fun i j k1 k2 k3 => ?_⟩
  by_cases c1 : j < d
  · rw [m2.out i (.inl (by omega)), m2.out j (.inl c1)]
    exact s1 i j k1 k2 c1
  · by_cases c2 : i < d
    · rw [m2.out i (.inl c2)]
      obtain ⟨i', e1, e2, e3⟩ := m1.mem hF k1 c2
      obtain ⟨j', e4, e5, e6⟩ := m2.mem hF (show d ≤ j by omega) k3
      rw [e3, e6, m1.out j' (.inr e4)]
      exact hx i' j' e1 e2 e4 e5
    · exact s2 i j (by omega) k2 k3
end
end Go.Proofs.Ytdgjcdhomfhfpaa
namespace Go.Proofs.Ytdgjcdhomfhfpaa
open Go.RowKit Go.IntWalk
set_option linter.unusedSimpArgs false
set_option linter.unusedVariables false

/- keys and rows of rows, as closed data -/
def kc (K : List K3) : List (List CV) := K.map fun k => [.v (.int .i64 k.1), .v (.int .i64 k.2.1), .v (.bool k.2.2)]
abbrev knul : K3 := (0, 0, false)
theorem kc_len (K : List K3) : (kc K).length = K.length := by simp [kc]
theorem kc_sz (K : List K3) : ∀ el ∈ kc K, el.length = 3 := by
  intro el h
  simp only [kc, List.mem_map] at h
  obtain ⟨v, _, rfl⟩ := h
  rfl
theorem kc_get (K : List K3) (i : Nat) (h : i < K.length) : (kc K).getD i [] = [.v (.int .i64 (K.getD i knul).1), .v (.int .i64 (K.getD i knul).2.1), .v (.bool (K.getD i knul).2.2)] := by simp [kc, h]
theorem kc_k (K : List K3) (i : Int) (h0 : 0 ≤ i) (h : i < K.length) : [4, 4, 9] = ((((kc K).getD i.toNat []).drop 0).take 3).map kindC := by rw [kc_get K _ (by omega)]; rfl
theorem kc_k0 (K : List K3) (i : Int) (h0 : 0 ≤ i) (h : i < K.length) : [4] = ((((kc K).getD i.toNat []).drop 0).take 1).map kindC := by rw [kc_get K _ (by omega)]; rfl
theorem kc_k1 (K : List K3) (i : Int) (h0 : 0 ≤ i) (h : i < K.length) : [4] = ((((kc K).getD i.toNat []).drop 1).take 1).map kindC := by rw [kc_get K _ (by omega)]; rfl
theorem kc_k2 (K : List K3) (i : Int) (h0 : 0 ≤ i) (h : i < K.length) : [9] = ((((kc K).getD i.toNat []).drop 2).take 1).map kindC := by rw [kc_get K _ (by omega)]; rfl
theorem kc_0 (K : List K3) (i : Int) (h0 : 0 ≤ i) (h : i < K.length) : (cellAt (kc K) i 0).int = (K.getD i.toNat knul).1 := by simp only [cellAt]; rw [kc_get K _ (by omega)]; rfl
theorem kc_1 (K : List K3) (i : Int) (h0 : 0 ≤ i) (h : i < K.length) : (cellAt (kc K) i 1).int = (K.getD i.toNat knul).2.1 := by simp only [cellAt]; rw [kc_get K _ (by omega)]; rfl
theorem kc_2 (K : List K3) (i : Int) (h0 : 0 ≤ i) (h : i < K.length) : (cellAt (kc K) i 2).bool = (K.getD i.toNat knul).2.2 := by simp only [cellAt]; rw [kc_get K _ (by omega)]; rfl
abbrev kD (k : K3) : DV := .agg [.v (.int .i64 k.1), .v (.int .i64 k.2.1), .v (.bool k.2.2)]
def rF (N : Nat) (f : Nat → List V3) : List (List CV) := (List.range N).map fun k => [.vs (vc (f k))]
theorem rF_len (N : Nat) (f : Nat → List V3) : (rF N f).length = N := by simp [rF]
theorem rF_sz (N : Nat) (f : Nat → List V3) : ∀ el ∈ rF N f, el.length = 1 := by
  intro el h
  simp only [rF, List.mem_map] at h
  obtain ⟨v, _, rfl⟩ := h
  rfl
theorem rF_get (N : Nat) (f : Nat → List V3) (i : Nat) (h : i < N) : (rF N f).getD i [] = [.vs (vc (f i))] := by simp [rF, h]
theorem rF_k (N : Nat) (f : Nat → List V3) (i : Int) (h0 : 0 ≤ i) (h : i < N) : [11] = ((((rF N f).getD i.toNat []).drop 0).take 1).map kindC := by rw [rF_get N f _ (by omega)]; rfl
theorem rF_0 (N : Nat) (f : Nat → List V3) (i : Int) (h0 : 0 ≤ i) (h : i < N) : (cellAt (rF N f) i 0).els = vc (f i.toNat) := by simp only [cellAt]; rw [rF_get N f _ (by omega)]; rfl
def updF {α : Type} (f : Nat → α) (j : Nat) (x : α) : Nat → α := fun k => if k = j then x else f k
theorem rF_set (N : Nat) (f : Nat → List V3) (j : Nat) (x : List V3) (h : j < N) : (rF N f).set j (overL ((rF N f).getD j []) 0 [.vs (vc x)]) = rF N (updF f j x) := by
  rw [rF_get N f j h]
  apply List.ext_getElem?
  intro i
  by_cases hi : i < N
  · by_cases e : i = j
    · subst e
      rw [List.getElem?_set_self (by rw [rF_len]; exact h)]
      simp [rF, updF, hi, overL]
    · rw [List.getElem?_set_ne (fun h => e h.symm)]
      simp [rF, updF, hi, e]
  · rw [List.getElem?_eq_none (by rw [List.length_set, rF_len]; omega), List.getElem?_eq_none (by rw [rF_len]; omega)]
theorem rF_take (N : Nat) (f : Nat → List V3) (n : Nat) (h : n = N) : (rF N f).take n = rF N f := by
  exact List.take_of_length_le (by rw [rF_len]; omega)
theorem rF_congr {N : Nat} {f g : Nat → List V3} (h : ∀ k, k < N → f k = g k) : rF N f = rF N g := by
  unfold rF
  apply List.map_congr_left
  intro k hk
  rw [h k (List.mem_range.1 hk)]

/- which row is ahead -/
def SzR (L : List V3) : Prop := ∀ v ∈ L, Sz v.2.2
abbrev Lim : Nat := 4611686018427387903
theorem SzR.at {L : List V3} (h : SzR L) (i : Nat) : Sz (L.getD i nul).2.2 := by
  rw [List.getD_eq_getElem?_getD]
  by_cases hi : i < L.length
  · rw [List.getElem?_eq_getElem hi]
    exact h _ (List.getElem_mem hi)
  · rw [List.getElem?_eq_none (by omega)]
    simp [Sz]
theorem c_right (k : K3) : FnC Try.prog 30 [kD k] (bD (rightK k)) := by
  refine w30 k.1 k.2.1 k.2.2 ?_
  unfold rightK
  by_cases h1 : 0 ≤ k.1 <;> by_cases h2 : k.2.1 = 0 <;> by_cases h3 : k.2.1 = 1 <;> simp [h1, h2, h3]
theorem c_counts (k : K3) : FnC Try.prog 41 [kD k] (bD (rightK k)) := by
  refine w41 k.1 k.2.1 k.2.2 ?_
  unfold rightK
  by_cases h1 : 0 ≤ k.1 <;> by_cases h2 : k.2.1 = 0 <;> by_cases h3 : k.2.1 = 1 <;> simp [h1, h2, h3]
theorem rightK_nn {k : K3} (h : rightK k = true) : 0 ≤ k.1 := by
  unfold rightK at h
  simp only [Bool.and_eq_true, decide_eq_true_eq] at h
  exact h.1
theorem c_oAt (L : List V3) (i : Int) (h : 0 ≤ i) : FnC Try.prog 35 [.c (.vs (vc L)), iD i] (vD (atR L i)) := by
  refine w35 (vc L) i ?_
  rw [vc_len]
  unfold atR
  refine ⟨fun hi => ⟨⟨h, hi⟩, vc_sz L, vc_k L i h hi, ?_⟩, fun hi => ?_⟩
  · exact vc_vD L i h hi
  · rw [List.getD_eq_getElem?_getD, List.getElem?_eq_none (by omega)]; rfl
theorem c_r6At (L : List V3) (i : Int) (h : 0 ≤ i) : FnC Try.prog 52 [.c (.vs (vc L)), iD i] (vD (atR L i)) := by
  refine w52 (vc L) i ?_
  rw [vc_len]
  unfold atR
  refine ⟨fun hi => ⟨⟨h, hi⟩, vc_sz L, vc_k L i h hi, ?_⟩, fun hi => ?_⟩
  · exact vc_vD L i h hi
  · rw [List.getD_eq_getElem?_getD, List.getElem?_eq_none (by omega)]; rfl
theorem kD_at (K : List K3) (J : Nat) (h : J < K.length) : DV.agg [.v (.int .i64 (cellAt (kc K) J 0).int), .v (.int .i64 (cellAt (kc K) J 1).int), .v (.bool (cellAt (kc K) J 2).bool)] = kD (K.getD J knul) := by
  rw [kc_0 K J (by omega) (by omega), kc_1 K J (by omega) (by omega), kc_2 K J (by omega) (by omega), Int.toNat_natCast]
theorem cmpR_step (a b : List V3) (K : List K3) (J : Nat) (h : J < K.length) : cmpR a b (K.drop J) = if rightK (K.getD J knul) = true then (if cmpV (atR a (K.getD J knul).1) (atR b (K.getD J knul).1) (K.getD J knul).2.1 = 0 then cmpR a b (K.drop (J + 1)) else if (K.getD J knul).2.2 = true then -cmpV (atR a (K.getD J knul).1) (atR b (K.getD J knul).1) (K.getD J knul).2.1 else cmpV (atR a (K.getD J knul).1) (atR b (K.getD J knul).1) (K.getD J knul).2.1) else cmpR a b (K.drop (J + 1)) := by
  rw [List.drop_eq_getElem_cons h, List.getD_eq_getElem?_getD, List.getElem?_eq_getElem h]
  rfl
theorem c_oCompare (a b : List V3) (K : List K3) (ha : SzR a) (hb : SzR b) (hK : K.length ≤ Lim) : FnC Try.prog 20 [.c (.vs (vc a)), .c (.vs (vc b)), .c (.vs (kc K))] (iD (cmpR a b K)) := by
  refine w20 (vc a) (vc b) (kc K) ?_
  rw [kc_len]
  refine ⟨fun i m => ∃ J : Nat, i = J ∧ J ≤ K.length ∧ cmpR a b K = cmpR a b (K.drop J) ∧ m = K.length - J, ⟨_, 0, rfl, by omega, by simp, rfl⟩, ?_⟩
  rintro m i ⟨J, rfl, hJ, hc, rfl⟩
  have hm : Lim = 4611686018427387903 := rfl
  refine ⟨fun hi => ⟨⟨by omega, hi⟩, kc_sz K, kc_k K _ (by omega) hi, ?_⟩, fun hi => ?_⟩
  · have hJK : J < K.length := by omega
    rw [kD_at K J hJK, i64_in _ (by omega)]
    have next : cmpR a b K = cmpR a b (K.drop (J + 1)) → ∃ k', k' < K.length - J ∧ ∃ J' : Nat, ((J : Int) + 1) = J' ∧ J' ≤ K.length ∧ cmpR a b K = cmpR a b (K.drop J') ∧ k' = K.length - J' := fun h =>
      ⟨K.length - (J + 1), by omega, J + 1, by omega, by omega, h, rfl⟩
    rw [cmpR_step a b K J hJK] at hc
    refine ⟨_, c_right _, fun hr => next ?_, fun hr => ?_⟩
    · rw [hc, if_neg hr]
    · have hr : rightK (K.getD J knul) = true := Classical.not_not.1 hr
      rw [if_pos hr] at hc
      have hnn := rightK_nn hr
      rw [kc_0 K J (by omega) (by omega), kc_1 K J (by omega) (by omega), kc_2 K J (by omega) (by omega), Int.toNat_natCast]
      have hrng := (fineO_cmpV (K.getD J knul).2.1).rng (atR a (K.getD J knul).1) (atR b (K.getD J knul).1)
      refine ⟨_, _, _, c_oAt a _ hnn, _, _, _, c_oAt b _ hnn, _, c_vCompare _ _ _ (ha.at _) (hb.at _), fun hd => ?_, fun hd => ?_⟩
      · rw [i64_in _ (by omega)]
        refine ⟨fun h => ?_, fun h => next ?_⟩
        · rw [hc, if_neg (by omega), if_pos hd, Int.zero_sub]
        · rw [hc, if_pos (by omega)]
      · refine ⟨fun h => ?_, fun h => next ?_⟩
        · rw [hc, if_neg h, if_neg hd]
        · rw [hc, if_pos (by omega)]
  · rw [hc, List.drop_eq_nil_of_le (by omega)]
    rfl
theorem c_r6Compare (a b : List V3) (K : List K3) (ha : SzR a) (hb : SzR b) (hK : K.length ≤ Lim) : FnC Try.prog 42 [.c (.vs (vc a)), .c (.vs (vc b)), .c (.vs (kc K))] (iD (cmpR a b K)) := by
  refine w42 (vc a) (vc b) (kc K) ?_
  rw [kc_len]
  refine ⟨fun i m => ∃ J : Nat, i = J ∧ J ≤ K.length ∧ cmpR a b K = cmpR a b (K.drop J) ∧ m = K.length - J, ⟨_, 0, rfl, by omega, by simp, rfl⟩, ?_⟩
  rintro m i ⟨J, rfl, hJ, hc, rfl⟩
  have hm : Lim = 4611686018427387903 := rfl
  refine ⟨fun hi => ⟨⟨by omega, hi⟩, kc_sz K, kc_k K _ (by omega) hi, ?_⟩, fun hi => ?_⟩
  · have hJK : J < K.length := by omega
    rw [kD_at K J hJK, i64_in _ (by omega)]
    have next : cmpR a b K = cmpR a b (K.drop (J + 1)) → ∃ k', k' < K.length - J ∧ ∃ J' : Nat, ((J : Int) + 1) = J' ∧ J' ≤ K.length ∧ cmpR a b K = cmpR a b (K.drop J') ∧ k' = K.length - J' := fun h =>
      ⟨K.length - (J + 1), by omega, J + 1, by omega, by omega, h, rfl⟩
    rw [cmpR_step a b K J hJK] at hc
    refine ⟨_, c_counts _, fun hr => next ?_, fun hr => ?_⟩
    · rw [hc, if_neg hr]
    · have hr : rightK (K.getD J knul) = true := Classical.not_not.1 hr
      rw [if_pos hr] at hc
      have hnn := rightK_nn hr
      rw [kc_0 K J (by omega) (by omega), kc_1 K J (by omega) (by omega), kc_2 K J (by omega) (by omega), Int.toNat_natCast]
      have hrng := (fineO_cmpV (K.getD J knul).2.1).rng (atR a (K.getD J knul).1) (atR b (K.getD J knul).1)
      refine ⟨by omega, kc_sz K, kc_k0 K _ (by omega) hi, _, _, _, c_r6At a _ hnn, by omega, kc_sz K, kc_k0 K _ (by omega) hi, _, _, _, c_r6At b _ hnn, by omega, kc_sz K, kc_k1 K _ (by omega) hi, _, c_r4Compare _ _ _ (ha.at _) (hb.at _), fun h => next ?_, fun h => ⟨by omega, kc_sz K, kc_k2 K _ (by omega) hi, fun hd => ?_, fun hd => ?_⟩⟩
      · rw [hc, if_pos h]
      · rw [i64_in _ (by omega), hc, if_neg h, if_pos hd, Int.zero_sub]
      · rw [hc, if_neg h, if_neg hd]
  · rw [hc, List.drop_eq_nil_of_le (by omega)]
    rfl

/- the parts of the stable sort -/
abbrev closK (K : List K3) : DV := .fn 33 [.box [.vs (kc K)] 0]
abbrev rowM : Md := ⟨0, 34, 1, false⟩
theorem c_less (a b : List V3) (K : List K3) (ha : SzR a) (hb : SzR b) (hK : K.length ≤ Lim) : FnC Try.prog 33 [.c (.vs (vc a)), .c (.vs (vc b)), .box [.vs (kc K)] 0] (iD (cmpR a b K)) :=
  w33_box (vc a) (vc b) [[.vs (kc K)]] ⟨rfl, _, c_oCompare a b K ha hb hK, rfl⟩
abbrev cR (K : List K3) : List V3 → List V3 → Int := fun a b => cmpR a b K
def swrF {α : Type} (f : Nat → α) (a b n : Nat) : Nat → α := fun k => if a ≤ k ∧ k < a + n then f (b + (k - a)) else if b ≤ k ∧ k < b + n then f (a + (k - b)) else f k
theorem c_swapRange (K : List K3) (N : Nat) (f : Nat → List V3) (a b n : Nat) (hN : N ≤ Lim) (h1 : a + n ≤ b) (h2 : b + n ≤ N) :
    FnM Try.prog rowM 62 [.c (.vs (rF N f)), iD a, iD b, iD n, closK K] (.c (.vs (rF N (swrF f a b n)))) := by
  refine w62_row_33 (rF N f) a b n [[.vs (kc K)]] (fun _ => by rw [rF_len, rF_len]) ?_
  have hm : Lim = 4611686018427387903 := rfl
  rw [rF_len]
  refine ⟨fun x i m => ∃ I : Nat, i = I ∧ I ≤ n ∧ x = rF N (swrF f a b I) ∧ m = n - I, ⟨_, 0, rfl, by omega, rF_congr fun k _ => by unfold swrF; rw [if_neg (by omega), if_neg (by omega)], rfl⟩, ?_⟩
  rintro m x i ⟨I, rfl, hI, rfl, rfl⟩
  rw [rF_len]
  refine ⟨fun hi => ?_, fun hi => ?_⟩
  · have e1 : IntKind.wrap .i64 ((b : Int) + I) = ((b + I : Nat) : Int) := by rw [i64_in _ (by omega)]; omega
    have e2 : IntKind.wrap .i64 ((a : Int) + I) = ((a + I : Nat) : Int) := by rw [i64_in _ (by omega)]; omega
    rw [e1, e2]
    refine ⟨by omega, rF_k _ _ _ (by omega) (by omega), by omega, rF_k _ _ _ (by omega) (by omega), by omega, by omega, fun x7 hx7 => ?_⟩
    rw [rF_0 _ _ _ (by omega) (by omega), Int.toNat_natCast, Int.toNat_natCast, rF_set _ _ _ _ (by omega)] at hx7
    subst hx7
    rw [rF_len]
    refine ⟨by omega, by omega, fun x8 hx8 => ?_⟩
    rw [rF_0 _ _ _ (by omega) (by omega), Int.toNat_natCast, Int.toNat_natCast, rF_set _ _ _ _ (by omega)] at hx8
    subst hx8
    refine ⟨n - (I + 1), by omega, I + 1, by rw [i64_in _ (by omega)]; omega, by omega, rF_congr fun k _ => ?_, rfl⟩
    simp only [updF, swrF]
    (repeat' split) <;> first | rfl | (congr 1; omega) | omega
  · obtain rfl : I = n := by omega
    rfl
theorem c_rotate (K : List K3) (N : Nat) (f : Nat → List V3) (a m b : Nat) (hN : N ≤ Lim) (h1 : a < m) (h2 : m < b) (h3 : b ≤ N) :
    FnM Try.prog rowM 60 [.c (.vs (rF N f)), iD a, iD m, iD b, closK K] (.c (.vs (rF N (rotF f a m b)))) := by
  refine w60_row_33 (rF N f) a m b [[.vs (kc K)]] (fun _ => by rw [rF_len, rF_len]) ?_
  have hm : Lim = 4611686018427387903 := rfl
  rw [rF_len]
  refine ⟨fun x i j k => ∃ (I J : Nat) (f' : Nat → List V3), i = I ∧ j = J ∧ 1 ≤ I ∧ 1 ≤ J ∧ I ≤ m - a ∧ J ≤ b - m ∧ x = rF N f' ∧ rotF f' (m - I) m (m + J) = rotF f a m b ∧ k = I + J, ⟨_, m - a, b - m, f, by rw [i64_in _ (by omega)]; omega, by rw [i64_in _ (by omega)]; omega, by omega, by omega, by omega, by omega, rfl, by rw [show m - (m - a) = a by omega, show m + (b - m) = b by omega], rfl⟩, ?_⟩
  rintro k x i j ⟨I, J, f', rfl, rfl, hI1, hJ1, hI, hJ, rfl, hf, rfl⟩
  rw [rF_len]
  have et : (rF N f').take (N : Int).toNat = rF N f' := rF_take N f' _ (by omega)
  rw [et]
  have e1 : IntKind.wrap .i64 ((m : Int) - I) = ((m - I : Nat) : Int) := by rw [i64_in _ (by omega)]; omega
  rw [e1]
  refine ⟨fun hne => ⟨fun hlt => ⟨by omega, by omega, by omega, _, c_swapRange K N f' (m - I) m J hN (by omega) (by omega), ?_⟩, fun hlt => ⟨by omega, by omega, by omega, ?_⟩⟩, fun he => ⟨by omega, by omega, by omega, ?_⟩⟩
  · refine ⟨(I - J) + J, by omega, I - J, J, _, by rw [i64_in _ (by omega)]; omega, rfl, by omega, by omega, by omega, by omega, rfl, ?_, rfl⟩
    rw [← hf]
    funext k
    simp only [rotF, swrF]
    (repeat' split) <;> first | rfl | (congr 1; omega) | omega
  · have e2 : IntKind.wrap .i64 (IntKind.wrap .i64 ((m : Int) + J) - I) = ((m + J - I : Nat) : Int) := by
      rw [i64_in ((m : Int) + J) (by omega), i64_in _ (by omega)]; omega
    rw [e2]
    refine ⟨_, c_swapRange K N f' (m - I) (m + J - I) I hN (by omega) (by omega), I + (J - I), by omega, I, J - I, _, rfl, by rw [i64_in _ (by omega)]; omega, by omega, by omega, by omega, by omega, rfl, ?_, rfl⟩
    rw [← hf]
    funext k
    simp only [rotF, swrF]
    (repeat' split) <;> first | rfl | (congr 1; omega) | omega
  · have he : I = J := by omega
    subst he
    refine ⟨_, c_swapRange K N f' (m - I) m I hN (by omega) (by omega), ?_⟩
    congr 3
    rw [← hf]
    funext k
    simp only [rotF, swrF]
    (repeat' split) <;> first | rfl | (congr 1; omega) | omega
end Go.Proofs.Ytdgjcdhomfhfpaa
namespace Go.Proofs.Ytdgjcdhomfhfpaa
open Go.RowKit Go.IntWalk
set_option linter.unusedSimpArgs false
set_option linter.unusedVariables false

theorem half_in (i j : Nat) (h : i + j < 9223372036854775808) : IntKind.wrap .i64 (Int.fdiv (IntKind.wrap .u64 (IntKind.wrap .i64 ((i : Int) + j))) (2 ^ 1)) = ((((i + j) / 2 : Nat)) : Int) := by
  rw [i64_in ((i : Int) + j) (by omega)]
  have e : IntKind.wrap .u64 ((i : Int) + j) = (i : Int) + j := by
    show ((i : Int) + j) % 18446744073709551616 = _
    omega
  rw [e]
  have e2 : Int.fdiv ((i : Int) + j) (2 ^ 1) = ((((i + j) / 2 : Nat)) : Int) := by
    rw [Int.fdiv_eq_ediv_of_nonneg _ (by decide)]
    omega
  rw [e2, i64_in _ (by omega)]
theorem Mv.szr {c : List V3 → List V3 → Int} (hF : FineO c) {f g : Nat → List V3} {a b : Nat} (h : Mv c f g a b) (hz : ∀ k, SzR (f k)) (k : Nat) : SzR (g k) := by
  by_cases hk : k < a ∨ b ≤ k
  · rw [h.out k hk]; exact hz k
  · obtain ⟨k', _, _, e⟩ := h.mem hF (show a ≤ k by omega) (by omega)
    rw [e]; exact hz k'

theorem c_insSort (K : List K3) (N : Nat) (f g : Nat → List V3) (a b : Nat) (hK : K.length ≤ Lim) (hN : N ≤ Lim) (hab : a ≤ b) (hb : b ≤ N) (hz : ∀ k, SzR (f k)) (hm : Mv (cR K) f g a b) (hs : Asc (cR K) g a b) :
    FnM Try.prog rowM 53 [.c (.vs (rF N f)), iD a, iD b, closK K] (.c (.vs (rF N g))) := by
  refine w53_row_33 (rF N f) a b [[.vs (kc K)]] (fun _ => by rw [rF_len, rF_len]) ?_
  have hL : Lim = 4611686018427387903 := rfl
  have hF := fineO_cmpR K
  rw [rF_len]
  refine ⟨fun x i k => ∃ (I : Nat) (f' : Nat → List V3), i = I ∧ a + 1 ≤ I ∧ (I ≤ b ∨ (I = a + 1 ∧ b = a)) ∧ x = rF N f' ∧ Mv (cR K) f f' a b ∧ Asc (cR K) f' a I ∧ k = b - I, ⟨_, a + 1, f, by rw [i64_in _ (by omega)]; omega, Nat.le_refl _, by omega, rfl, Mv.refl _ _ _, fun i j h1 h2 h3 => by omega, rfl⟩, ?_⟩
  rintro k x i ⟨I, f', rfl, hI1, hI2, rfl, hm', hs', rfl⟩
  refine ⟨fun hi => ?_, fun hi => ?_⟩
  · refine ⟨fun x j k => ∃ (J : Nat) (f2 : Nat → List V3), j = J ∧ a ≤ J ∧ J ≤ I ∧ x = rF N f2 ∧ Mv (cR K) f f2 a b ∧ Asc (cR K) f2 a J ∧ Asc (cR K) f2 J (I + 1) ∧ (∀ p q, a ≤ p → p < J → J < q → q < I + 1 → cR K (f2 p) (f2 q) ≤ 0) ∧ k = J + 1, ⟨_, I, f', rfl, by omega, Nat.le_refl _, rfl, hm', hs', fun i j h1 h2 h3 => by omega, fun p q h1 h2 h3 h4 => by omega, rfl⟩, ?_⟩
    rintro k x j ⟨J, f2, rfl, hJ1, hJ2, rfl, hm2, hsl, hsr, hx, rfl⟩
    have e1 : a < J → IntKind.wrap .i64 ((J : Int) - 1) = ((J - 1 : Nat) : Int) := fun h => by rw [i64_in _ (by omega)]; omega
    refine ⟨fun h => by omega, fun h => rF_k _ _ _ (by omega) (by omega), fun h => by rw [e1 (by omega)]; omega, fun h => by rw [e1 (by omega)]; exact rF_k _ _ _ (by omega) (by omega), cmpR (f2 J) (f2 (J - 1)) K, fun h => ?_, fun h => ?_, fun h => ?_⟩
    · rw [e1 (by omega), rF_0 _ _ _ (by omega) (by omega), rF_0 _ _ _ (by omega) (by omega), Int.toNat_natCast, Int.toNat_natCast]
      exact c_less _ _ K (hm2.szr hF hz _) (hm2.szr hF hz _) hK
    · obtain ⟨h1, h2⟩ := h
      have hJ0 : a < J := by omega
      rw [e1 hJ0]
      refine ⟨by omega, rF_k _ _ _ (by omega) (by omega), by omega, rF_k _ _ _ (by omega) (by omega), by omega, by rw [rF_len]; omega, fun x9 hx9 => ?_⟩
      rw [rF_0 _ _ _ (by omega) (by omega), Int.toNat_natCast, Int.toNat_natCast, rF_set _ _ _ _ (by omega)] at hx9
      subst hx9
      refine ⟨by omega, by rw [rF_len]; omega, fun x10 hx10 => ?_⟩
      rw [rF_0 _ _ _ (by omega) (by omega), Int.toNat_natCast, Int.toNat_natCast, rF_set _ _ _ _ (by omega)] at hx10
      subst hx10
      have hJ' : J - 1 + 1 = J := by omega
      have hne : cR K (f2 (J - 1)) (f2 (J - 1 + 1)) ≠ 0 := by
        rw [hJ']
        have := hF.swap (f2 (J - 1)) (f2 J)
        show cmpR (f2 (J - 1)) (f2 J) K ≠ 0
        omega
      have hlt : cR K (f2 J) (f2 (J - 1)) < 0 := h2
      refine ⟨J - 1 + 1, by omega, J - 1, swF f2 (J - 1), rfl, by omega, by omega, rF_congr fun k _ => ?_, hm2.trans ((Mv.swap hF f2 (J - 1) hne).wide (by omega) (by omega) (by omega)), fun p q g1 g2 g3 => ?_, fun p q g1 g2 g3 => ?_, fun p q g1 g2 g3 g4 => ?_, rfl⟩
      · simp only [updF, swF, hJ']
      · simp only [swF]
        rw [if_neg (by omega), if_neg (by omega), if_neg (by omega), if_neg (by omega)]
        exact hsl p q g1 g2 (by omega)
      · simp only [swF, hJ']
        by_cases c1 : p = J - 1
        · rw [if_pos c1]
          by_cases c2 : q = J
          · rw [if_neg (by omega), if_pos c2]; exact Int.le_of_lt hlt
          · rw [if_neg (by omega), if_neg c2]; exact hsr J q (Nat.le_refl _) (by omega) g3
        · rw [if_neg c1, if_neg (show ¬ q = J - 1 by omega), if_neg (show ¬ q = J by omega)]
          by_cases c2 : p = J
          · rw [if_pos c2]; exact hx (J - 1) q (by omega) (by omega) (by omega) g3
          · rw [if_neg c2]; exact hsr p q (by omega) g2 g3
      · simp only [swF, hJ']
        rw [if_neg (show ¬ p = J - 1 by omega), if_neg (show ¬ p = J by omega), if_neg (show ¬ q = J - 1 by omega)]
        by_cases c2 : q = J
        · rw [if_pos c2]; exact hsl p (J - 1) g1 g2 (by omega)
        · rw [if_neg c2]; exact hx p q g1 (by omega) (by omega) g4
    · refine ⟨b - (I + 1), by omega, I + 1, f2, by rw [i64_in _ (by omega)]; omega, by omega, by omega, rfl, hm2, fun p q g1 g2 g3 => ?_, rfl⟩
      by_cases c1 : q < J
      · exact hsl p q g1 g2 c1
      · by_cases c2 : J ≤ p
        · exact hsr p q c2 g2 g3
        · by_cases c3 : J < q
          · exact hx p q g1 (by omega) c3 g3
          · obtain rfl : q = J := by omega
            have h0 : ¬ cR K (f2 q) (f2 (q - 1)) < 0 := fun h3 => h ⟨by omega, h3⟩
            have h5 := hF.swap (f2 (q - 1)) (f2 q)
            have h6 : cR K (f2 (q - 1)) (f2 q) ≤ 0 := by
              show cmpR (f2 (q - 1)) (f2 q) K ≤ 0
              have h7 : ¬ cmpR (f2 q) (f2 (q - 1)) K < 0 := h0
              omega
            exact hF.trans _ _ _ (hsl.le hF g1 (show p ≤ q - 1 by omega) (by omega)) h6
  · have : f' = g := hm'.uniq hF hm (hs'.sub (Nat.le_refl _) (by omega)) hs
    rw [this]

set_option maxHeartbeats 8000000 in
theorem c_symMerge (K : List K3) (hK : K.length ≤ Lim) (N : Nat) (hN : N ≤ Lim) : ∀ (n : Nat) (f g : Nat → List V3) (a m b : Nat), b - a ≤ n → a < m → m < b → b ≤ N → (∀ k, SzR (f k)) → Asc (cR K) f a m → Asc (cR K) f m b → Mv (cR K) f g a b → Asc (cR K) g a b →
    FnM Try.prog rowM 54 [.c (.vs (rF N f)), iD a, iD m, iD b, closK K] (.c (.vs (rF N g)))
  | 0, f, g, a, m, b, hn, h1, h2, h3, hz, s1, s2, hm, hs => by omega
  | n + 1, f, g, a, m, b, hn, h1, h2, h3, hz, s1, s2, hm, hs => by
    have hF := fineO_cmpR K
    have ih := c_symMerge K hK N hN n
    refine w54_row_33 (rF N f) a m b [[.vs (kc K)]] (fun _ => by rw [rF_len, rF_len]) ?_
    have hL : Lim = 4611686018427387903 := rfl
    have w1 : IntKind.wrap .i64 ((m : Int) - a) = ((m - a : Nat) : Int) := by rw [i64_in _ (by omega)]; omega
    have w2 : IntKind.wrap .i64 ((b : Int) - m) = ((b - m : Nat) : Int) := by rw [i64_in _ (by omega)]; omega
    rw [rF_len, w1, w2]
    refine ⟨fun hA => ?_, fun hA => ⟨fun hB => ?_, fun hB => ?_⟩⟩
    · -- one row on the left
      have hma : m = a + 1 := by omega
      subst hma
      obtain ⟨s, g1, g2, g3, g4⟩ := turns (fun k => decide (cR K (f k) (f a) < 0)) (b - (a + 1)) (a + 1) fun i j k1 k2 k3 hj => by
        simp only [decide_eq_true_eq] at hj ⊢
        have e1 := s2.le hF k1 k2 (by omega)
        have e2 := hF.trans _ _ _ e1 (Int.le_of_lt hj)
        have e3 : cR K (f i) (f a) ≤ 0 := e2
        by_cases e4 : cR K (f i) (f a) = 0
        · exfalso
          have z := hF.eq0 (a := f i) (b := f a) (c := f j) e4
          have y : cmpR (f j) (f a) K < 0 := hj
          have x := hF.swap (f a) (f j)
          have e1' : cmpR (f i) (f j) K ≤ 0 := e1
          omega
        · omega
      simp only [decide_eq_true_eq, decide_eq_false_iff_not] at g3 g4
      have hsb : s ≤ b := by omega
      refine ⟨fun i j k => ∃ I J : Nat, i = I ∧ j = J ∧ a + 1 ≤ I ∧ I ≤ s ∧ s ≤ J ∧ J ≤ b ∧ k = J - I, ⟨_, a + 1, b, rfl, rfl, Nat.le_refl _, g1, hsb, Nat.le_refl _, rfl⟩, ?_⟩
      rintro k i j ⟨I, J, rfl, rfl, i1, i2, i3, i4, rfl⟩
      rw [half_in I J (by omega)]
      refine ⟨fun hi => ?_, fun hi => ?_⟩
      · have hIJ : I < J := by omega
        refine ⟨by omega, rF_k _ _ _ (by omega) (by omega), by omega, rF_k _ _ _ (by omega) (by omega), ?_⟩
        rw [rF_0 _ _ _ (by omega) (by omega), rF_0 _ _ _ (by omega) (by omega), Int.toNat_natCast, Int.toNat_natCast]
        refine ⟨_, c_less _ _ K (hz _) (hz _) hK, fun h => ?_, fun h => ?_⟩
        · refine ⟨J - ((I + J) / 2 + 1), by omega, (I + J) / 2 + 1, J, by rw [i64_in _ (by omega)]; omega, rfl, by omega, ?_, i3, i4, rfl⟩
          by_cases hh : (I + J) / 2 + 1 ≤ s
          · exact hh
          · exact absurd h (g4 ((I + J) / 2) (by omega) (by omega))
        · refine ⟨(I + J) / 2 - I, by omega, I, (I + J) / 2, rfl, rfl, i1, i2, ?_, by omega, rfl⟩
          by_cases hh : s ≤ (I + J) / 2
          · exact hh
          · exact absurd (g3 ((I + J) / 2) (by omega) (by omega)) h
      · obtain rfl : I = s := by omega
        have w3 : IntKind.wrap .i64 ((I : Int) - 1) = ((I - 1 : Nat) : Int) := by rw [i64_in _ (by omega)]; omega
        rw [w3]
        refine ⟨fun x i k => ∃ M : Nat, i = M ∧ a ≤ M ∧ M ≤ I - 1 ∧ x = rF N (rotF f a (a + 1) (M + 1)) ∧ k = I - M, ⟨_, a, rfl, Nat.le_refl _, by omega, by rw [rotF_left f (.inr rfl)], rfl⟩, ?_⟩
        rintro k x i ⟨M, rfl, m1, m2, rfl, rfl⟩
        refine ⟨fun hi => ?_, fun hi => ?_⟩
        · have w4 : IntKind.wrap .i64 ((M : Int) + 1) = ((M + 1 : Nat) : Int) := by rw [i64_in _ (by omega)]; omega
          rw [w4]
          refine ⟨by omega, rF_k _ _ _ (by omega) (by omega), by omega, rF_k _ _ _ (by omega) (by omega), by omega, by rw [rF_len]; omega, fun x9 hx9 => ?_⟩
          rw [rF_0 _ _ _ (by omega) (by omega), Int.toNat_natCast, Int.toNat_natCast, rF_set _ _ _ _ (by omega)] at hx9
          subst hx9
          refine ⟨by omega, by rw [rF_len]; omega, fun x10 hx10 => ?_⟩
          rw [rF_0 _ _ _ (by omega) (by omega), Int.toNat_natCast, Int.toNat_natCast, rF_set _ _ _ _ (by omega)] at hx10
          subst hx10
          refine ⟨I - (M + 1), by omega, M + 1, rfl, by omega, by omega, rF_congr fun k _ => ?_, rfl⟩
          simp only [updF, rotF]
          (repeat' split) <;> first | rfl | (congr 1; omega) | omega
        · have hM : M + 1 = I := by omega
          rw [hM]
          have hmv : Mv (cR K) f (rotF f a (a + 1) I) a b := (Mv.rot hF f (by omega) (by omega) fun p q q1 q2 q3 q4 => by
            obtain rfl : p = a := by omega
            have e1 : cmpR (f q) (f p) K < 0 := g3 q q3 q4
            have e2 := hF.swap (f p) (f q)
            show cmpR (f p) (f q) K ≠ 0
            omega).wide (Nat.le_refl _) (by omega) hsb
          have : rotF f a (a + 1) I = g := by
            refine hmv.uniq hF hm (fun p q q1 q2 q3 => ?_) hs
            have key : ∀ k, rotF f a (a + 1) I k = if k < I - 1 ∧ a ≤ k then f (k + 1) else if k = I - 1 then f a else f k := fun k => by
              simp only [rotF]
              (repeat' split) <;> first | rfl | (congr 1; omega) | omega
            rw [key p, key q]
            by_cases c1 : q < I - 1
            · rw [if_pos ⟨by omega, by omega⟩, if_pos ⟨c1, by omega⟩]
              exact s2 _ _ (by omega) (by omega) (by omega)
            · rw [if_neg (show ¬ (q < I - 1 ∧ a ≤ q) from fun h => c1 h.1)]
              by_cases c2 : q = I - 1
              · rw [if_pos c2, if_pos ⟨by omega, q1⟩]
                exact Int.le_of_lt (g3 _ (by omega) (by omega))
              · rw [if_neg c2]
                by_cases c3 : p < I - 1
                · rw [if_pos ⟨c3, q1⟩]
                  exact s2 _ _ (by omega) (by omega) q3
                · rw [if_neg (fun h => c3 h.1)]
                  by_cases c4 : p = I - 1
                  · rw [if_pos c4]
                    have e1 : ¬ cmpR (f q) (f a) K < 0 := g4 q (by omega) (by omega)
                    have e2 := hF.swap (f a) (f q)
                    show cmpR (f a) (f q) K ≤ 0
                    omega
                  · rw [if_neg c4]
                    exact s2 _ _ (by omega) q2 q3
          rw [this]
    · -- one row on the right
      have hmb : b = m + 1 := by omega
      subst hmb
      obtain ⟨s, g1, g2, g3, g4⟩ := turns (fun k => decide (¬ cR K (f m) (f k) < 0)) (m - a) a fun i j k1 k2 k3 hj => by
        simp only [decide_eq_true_eq] at hj ⊢
        have e1 := s1.le hF k1 k2 (by omega)
        have e2 := hF.swap (f m) (f j)
        have e3 := hF.swap (f m) (f i)
        have hj' : ¬ cmpR (f m) (f j) K < 0 := hj
        have e4 := hF.trans (f i) (f j) (f m) e1 (by omega)
        show ¬ cmpR (f m) (f i) K < 0
        omega
      simp only [decide_eq_true_eq, decide_eq_false_iff_not, Classical.not_not] at g3 g4
      have hsm : s ≤ m := by omega
      refine ⟨fun i j k => ∃ I J : Nat, i = I ∧ j = J ∧ a ≤ I ∧ I ≤ s ∧ s ≤ J ∧ J ≤ m ∧ k = J - I, ⟨_, a, m, rfl, rfl, Nat.le_refl _, g1, hsm, Nat.le_refl _, rfl⟩, ?_⟩
      rintro k i j ⟨I, J, rfl, rfl, i1, i2, i3, i4, rfl⟩
      rw [half_in I J (by omega)]
      refine ⟨fun hi => ?_, fun hi => ?_⟩
      · have hIJ : I < J := by omega
        refine ⟨by omega, rF_k _ _ _ (by omega) (by omega), by omega, rF_k _ _ _ (by omega) (by omega), ?_⟩
        rw [rF_0 _ _ _ (by omega) (by omega), rF_0 _ _ _ (by omega) (by omega), Int.toNat_natCast, Int.toNat_natCast]
        refine ⟨_, c_less _ _ K (hz _) (hz _) hK, fun h => ?_, fun h => ?_⟩
        · refine ⟨J - ((I + J) / 2 + 1), by omega, (I + J) / 2 + 1, J, by rw [i64_in _ (by omega)]; omega, rfl, by omega, ?_, i3, i4, rfl⟩
          by_cases hh : (I + J) / 2 + 1 ≤ s
          · exact hh
          · exact absurd (g4 ((I + J) / 2) (by omega) (by omega)) h
        · refine ⟨(I + J) / 2 - I, by omega, I, (I + J) / 2, rfl, rfl, i1, i2, ?_, by omega, rfl⟩
          by_cases hh : s ≤ (I + J) / 2
          · exact hh
          · exact absurd (g3 ((I + J) / 2) (by omega) (by omega)) h
      · obtain rfl : I = s := by omega
        refine ⟨fun x i k => ∃ M : Nat, i = M ∧ I ≤ M ∧ M ≤ m ∧ x = rF N (rotF f M m (m + 1)) ∧ k = M + 1, ⟨_, m, rfl, hsm, Nat.le_refl _, by rw [rotF_left f (.inl rfl)], rfl⟩, ?_⟩
        rintro k x i ⟨M, rfl, m1, m2, rfl, rfl⟩
        refine ⟨fun hi => ?_, fun hi => ?_⟩
        · have w4 : IntKind.wrap .i64 ((M : Int) - 1) = ((M - 1 : Nat) : Int) := by rw [i64_in _ (by omega)]; omega
          rw [w4]
          refine ⟨by omega, rF_k _ _ _ (by omega) (by omega), by omega, rF_k _ _ _ (by omega) (by omega), by omega, by rw [rF_len]; omega, fun x9 hx9 => ?_⟩
          rw [rF_0 _ _ _ (by omega) (by omega), Int.toNat_natCast, Int.toNat_natCast, rF_set _ _ _ _ (by omega)] at hx9
          subst hx9
          refine ⟨by omega, by rw [rF_len]; omega, fun x10 hx10 => ?_⟩
          rw [rF_0 _ _ _ (by omega) (by omega), Int.toNat_natCast, Int.toNat_natCast, rF_set _ _ _ _ (by omega)] at hx10
          subst hx10
          refine ⟨M - 1 + 1, by omega, M - 1, rfl, by omega, by omega, rF_congr fun k _ => ?_, rfl⟩
          simp only [updF, rotF]
          (repeat' split) <;> first | rfl | (congr 1; omega) | omega
        · obtain rfl : M = I := by omega
          have hmv : Mv (cR K) f (rotF f M m (m + 1)) a (m + 1) := (Mv.rot hF f (by omega) (by omega) fun p q q1 q2 q3 q4 => by
            obtain rfl : q = m := by omega
            have e1 : cmpR (f q) (f p) K < 0 := g4 p q1 (by omega)
            have e2 := hF.swap (f p) (f q)
            show cmpR (f p) (f q) K ≠ 0
            omega).wide (by omega) (by omega) (Nat.le_refl _)
          have : rotF f M m (m + 1) = g := by
            refine hmv.uniq hF hm (fun p q q1 q2 q3 => ?_) hs
            have key : ∀ k, rotF f M m (m + 1) k = if k = M then f m else if M < k ∧ k ≤ m then f (k - 1) else f k := fun k => by
              simp only [rotF]
              (repeat' split) <;> first | rfl | (congr 1; omega) | omega
            rw [key p, key q]
            by_cases c1 : q < M
            · rw [if_neg (by omega), if_neg (by omega), if_neg (by omega), if_neg (by omega)]
              exact s1 _ _ q1 q2 (by omega)
            · by_cases c2 : q = M
              · rw [if_pos c2, if_neg (by omega), if_neg (by omega)]
                have e1 : ¬ cmpR (f m) (f p) K < 0 := g3 p q1 (by omega)
                have e2 := hF.swap (f m) (f p)
                show cmpR (f p) (f m) K ≤ 0
                omega
              · rw [if_neg c2, if_pos (show M < q ∧ q ≤ m by omega)]
                by_cases c3 : p = M
                · rw [if_pos c3]
                  exact Int.le_of_lt (g4 _ (by omega) (by omega))
                · rw [if_neg c3]
                  by_cases c4 : M < p
                  · rw [if_pos (by omega)]
                    exact s1 _ _ (by omega) (by omega) (by omega)
                  · rw [if_neg (by omega)]
                    exact s1.le hF q1 (by omega) (by omega)
          rw [this]
    · -- both sides have more rows
      obtain ⟨s, hc⟩ := cross_exists hF h1 h2 s1 s2
      obtain ⟨R1, R2, R3, R4, R5⟩ := hc.rot hF h1 h2 s1 s2 |>.2
      have R0 := (hc.rot hF h1 h2 s1 s2).1
      obtain ⟨r1, r2, r3, r4, r5, r6⟩ := cross_rng h1 h2
      have hlo := hc.lo
      have hhi := hc.hi
      have hse := r6 s hlo hhi
      generalize hd : (a + b) / 2 = d at *
      have hda : a < d := by omega
      have hdb : d < b := by omega
      generalize hf1 : rotF f s m (d + m - s) = f1 at *
      have hz1 : ∀ k, SzR (f1 k) := R0.szr hF hz
      obtain ⟨g1, m1, t1⟩ := srt_exists hF f1 a (d - a)
      rw [show a + (d - a) = d by omega] at m1 t1
      obtain ⟨g2, m2, t2⟩ := srt_exists hF g1 d (b - d)
      rw [show d + (b - d) = b by omega] at m2 t2
      have hz2 : ∀ k, SzR (g1 k) := m1.szr hF hz1
      obtain ⟨m3, t3⟩ := Asc.join hF (Nat.le_of_lt hda) (Nat.le_of_lt hdb) m1 m2 t1 t2 R5
      have hgg : g2 = g := (R0.trans m3).uniq hF hm t3 hs
      have wn : IntKind.wrap .i64 ((d : Int) + m) = ((d + m : Nat) : Int) := by rw [i64_in _ (by omega)]; omega
      have wp : IntKind.wrap .i64 (((d + m : Nat) : Int) - 1) = ((d + m - 1 : Nat) : Int) := by rw [i64_in _ (by omega)]; omega
      have wl : IntKind.wrap .i64 (((d + m : Nat) : Int) - b) = ((d + m : Nat) : Int) - b := i64_in _ (by omega)
      have we : IntKind.wrap .i64 (((d + m : Nat) : Int) - s) = ((d + m - s : Nat) : Int) := by rw [i64_in _ (by omega)]; omega
      have hR : ((s : Int) < m ∧ (m : Int) < ((d + m - s : Nat) : Int)) → FnM Try.prog rowM 60 [.c (.vs (rF N f)), iD s, iD m, iD ((d + m - s : Nat) : Int), closK K] (.c (.vs (rF N f1))) := fun h => by
        rw [← hf1]
        exact c_rotate K N f s m (d + m - s) hN (by omega) (by omega) (by omega)
      have hR' : ¬ ((s : Int) < m ∧ (m : Int) < ((d + m - s : Nat) : Int)) → f = f1 := fun h => by
        rw [← hf1]
        exact (rotF_left f (by omega)).symm
      have hA2 : ((a : Int) < s ∧ (s : Int) < d) → FnM Try.prog rowM 54 [.c (.vs (rF N f1)), iD a, iD s, iD d, closK K] (.c (.vs (rF N g1))) := fun h =>
        ih f1 g1 a s d (by omega) (by omega) (by omega) (by omega) hz1 R1 R2 m1 t1
      have hA' : ¬ ((a : Int) < s ∧ (s : Int) < d) → f1 = g1 := fun h =>
        (Mv.refl f1 a d).uniq hF m1 (by
          by_cases c1 : s = a
          · subst c1; exact R2
          · obtain rfl : s = d := by omega
            exact R1) t1
      have hB2 : ((d : Int) < ((d + m - s : Nat) : Int) ∧ ((d + m - s : Nat) : Int) < b) → FnM Try.prog rowM 54 [.c (.vs (rF N g1)), iD d, iD ((d + m - s : Nat) : Int), iD b, closK K] (.c (.vs (rF N g2))) := fun h =>
        ih g1 g2 d (d + m - s) b (by omega) (by omega) (by omega) h3 hz2 (fun p q q1 q2 q3 => by
          rw [m1.out p (.inr q1), m1.out q (.inr (by omega))]
          exact R3 p q q1 q2 q3) (fun p q q1 q2 q3 => by
          rw [m1.out p (.inr (by omega)), m1.out q (.inr (by omega))]
          exact R4 p q q1 q2 q3) m2 t2
      have hB' : ¬ ((d : Int) < ((d + m - s : Nat) : Int) ∧ ((d + m - s : Nat) : Int) < b) → g1 = g2 := fun h =>
        (Mv.refl g1 d b).uniq hF m2 (by
          by_cases c1 : d + m - s = d
          · rw [c1] at R4
            exact fun p q q1 q2 q3 => by
              rw [m1.out p (.inr q1), m1.out q (.inr (by omega))]
              exact R4 p q q1 q2 q3
          · have c2 : d + m - s = b := by omega
            rw [c2] at R3
            exact fun p q q1 q2 q3 => by
              rw [m1.out p (.inr q1), m1.out q (.inr (by omega))]
              exact R3 p q q1 q2 q3) t2
      have et : ∀ f : Nat → List V3, (rF N f).take (N : Int).toNat = rF N f := fun f => rF_take N f _ (by omega)
      have hcb := hc.below
      have hca := hc.above
      simp only [hd] at hcb hca
      rw [half_in a b (by omega), hd, wn, wp, wl]
      refine ⟨fun hc1 => ?_, fun hc1 => ?_⟩
      all_goals
        refine ⟨fun i j k => ∃ I J : Nat, i = I ∧ j = J ∧ lo0 a m b ≤ I ∧ I ≤ s ∧ s ≤ J ∧ J ≤ hi0 a m b ∧ k = J - I, ⟨_, lo0 a m b, hi0 a m b, by unfold lo0; rw [hd]; split <;> omega, by unfold hi0; rw [hd]; split <;> omega, Nat.le_refl _, hlo, hhi, Nat.le_refl _, rfl⟩, ?_⟩
        rintro k i j ⟨I, J, rfl, rfl, i1, i2, i3, i4, rfl⟩
        rw [half_in I J (by omega)]
        refine ⟨fun hi => ?_, fun hi => ?_⟩
        · have hIJ : I < J := by omega
          have hq := r5 ((I + J) / 2) (by omega) (by omega)
          have wq : IntKind.wrap .i64 (((d + m - 1 : Nat) : Int) - (((I + J) / 2 : Nat) : Int)) = ((d + m - 1 - (I + J) / 2 : Nat) : Int) := by rw [i64_in _ (by omega)]; omega
          rw [wq]
          refine ⟨by omega, rF_k _ _ _ (by omega) (by omega), by omega, rF_k _ _ _ (by omega) (by omega), ?_⟩
          rw [rF_0 _ _ _ (by omega) (by omega), rF_0 _ _ _ (by omega) (by omega), Int.toNat_natCast, Int.toNat_natCast]
          refine ⟨_, c_less _ _ K (hz _) (hz _) hK, fun h => ?_, fun h => ?_⟩
          · refine ⟨J - ((I + J) / 2 + 1), by omega, (I + J) / 2 + 1, J, by rw [i64_in _ (by omega)]; omega, rfl, by omega, ?_, i3, i4, rfl⟩
            by_cases hh : (I + J) / 2 + 1 ≤ s
            · exact hh
            · exact absurd (hca ((I + J) / 2) (by omega) (by omega)) h
          · refine ⟨(I + J) / 2 - I, by omega, I, (I + J) / 2, rfl, rfl, i1, i2, ?_, by omega, rfl⟩
            by_cases hh : s ≤ (I + J) / 2
            · exact hh
            · exact absurd (hcb ((I + J) / 2) (by omega) (by omega)) h
        · obtain rfl : I = s := by omega
          rw [we]
          refine ⟨fun q1 => ⟨_, hR q1, ?_⟩, fun q1 => ?_⟩
          · rw [rF_len, et]
            refine ⟨fun q2 => ⟨Int.le_refl _, Int.le_refl _, Int.le_refl _, _, hA2 q2, ?_⟩, fun q2 => ?_⟩
            · rw [rF_len, et]
              refine ⟨fun q3 => ⟨Int.le_refl _, Int.le_refl _, Int.le_refl _, _, hB2 q3, by rw [hgg]⟩, fun q3 => by rw [hB' q3, hgg]⟩
            · have hA2' := hA' q2
              rw [hA2']
              refine ⟨fun q3 => ⟨Int.le_refl _, Int.le_refl _, Int.le_refl _, _, hB2 q3, by rw [hgg]⟩, fun q3 => by rw [hB' q3, hgg]⟩
          · have hR2 := hR' q1
            rw [hR2]
            refine ⟨fun q2 => ⟨_, hA2 q2, ?_⟩, fun q2 => ?_⟩
            · rw [rF_len, et]
              refine ⟨fun q3 => ⟨Int.le_refl _, Int.le_refl _, Int.le_refl _, _, hB2 q3, by rw [hgg]⟩, fun q3 => by rw [hB' q3, hgg]⟩
            · have hA2' := hA' q2
              rw [hA2']
              refine ⟨fun q3 => ⟨_, hB2 q3, by rw [hgg]⟩, fun q3 => by rw [hB' q3, hgg]⟩
end Go.Proofs.Ytdgjcdhomfhfpaa
namespace Go.Proofs.Ytdgjcdhomfhfpaa
open Go.RowKit Go.IntWalk
set_option linter.unusedSimpArgs false
set_option linter.unusedVariables false

/-- blocks of B rows are sorted -/
def Blk (c : List V3 → List V3 → Int) (f : Nat → List V3) (B n : Nat) : Prop := ∀ q, Asc c f (q * B) (min ((q + 1) * B) n)
theorem c_stable (K : List K3) (N : Nat) (f g : Nat → List V3) (hK : K.length ≤ Lim) (hN : N ≤ 1152921504606846976) (hz : ∀ k, SzR (f k)) (hm : Mv (cR K) f g 0 N) (hs : Asc (cR K) g 0 N) :
    FnM Try.prog rowM 44 [.c (.vs (rF N f)), iD N, closK K] (.c (.vs (rF N g))) := by
  refine w44_row_33 (rF N f) N [[.vs (kc K)]] (fun _ => by rw [rF_len, rF_len]) ?_
  have hL : Lim = 4611686018427387903 := rfl
  have hF := fineO_cmpR K
  have et : ∀ f : Nat → List V3, (rF N f).take (N : Int).toNat = rF N f := fun f => rF_take N f _ (by omega)
  rw [rF_len]
  refine ⟨fun x i j k => ∃ (q : Nat) (f' : Nat → List V3), i = ((q * 20 : Nat) : Int) ∧ j = ((q * 20 + 20 : Nat) : Int) ∧ q * 20 ≤ N ∧ x = rF N f' ∧ Mv (cR K) f f' 0 N ∧ (∀ p, p < q → Asc (cR K) f' (p * 20) ((p + 1) * 20)) ∧ k = N + 20 - q * 20, ⟨_, 0, f, rfl, rfl, by omega, rfl, Mv.refl _ _ _, fun p h => by omega, rfl⟩, ?_⟩
  rintro k x i j ⟨q, f', rfl, rfl, hq, rfl, hm', hb', rfl⟩
  rw [rF_len, et]
  have hz' := hm'.szr hF hz
  refine ⟨fun hi => ⟨Int.le_refl _, Int.le_refl _, Int.le_refl _, ?_⟩, fun hi => ⟨Int.le_refl _, Int.le_refl _, Int.le_refl _, ?_⟩⟩
  · obtain ⟨g', m1, t1⟩ := srt_exists hF f' (q * 20) 20
    refine ⟨_, c_insSort K N f' g' (q * 20) (q * 20 + 20) hK (by omega) (by omega) (by omega) hz' m1 t1, N + 20 - (q + 1) * 20, by omega, q + 1, g', by congr 1; omega, by rw [i64_in _ (by omega)]; omega, by omega, rfl, hm'.trans (m1.wide (by omega) (by omega) (by omega)), fun p hp => ?_, rfl⟩
    by_cases c1 : p < q
    · intro a b h1 h2 h3
      rw [m1.out a (.inl (by omega)), m1.out b (.inl (by omega))]
      exact hb' p c1 a b h1 h2 h3
    · obtain rfl : p = q := by omega
      exact t1.sub (Nat.le_refl _) (by omega)
  · obtain ⟨g', m1, t1⟩ := srt_exists hF f' (q * 20) (N - q * 20)
    rw [show q * 20 + (N - q * 20) = N by omega] at m1 t1
    refine ⟨_, c_insSort K N f' g' (q * 20) N hK (by omega) hq (Nat.le_refl _) hz' m1 t1, ?_⟩
    have m2 : Mv (cR K) f g' 0 N := hm'.trans (m1.wide (by omega) (by omega) (Nat.le_refl _))
    have b2 : Blk (cR K) g' 20 N := fun p => by
      by_cases c1 : p < q
      · intro a b h1 h2 h3
        rw [m1.out a (.inl (by omega)), m1.out b (.inl (by omega))]
        exact hb' p c1 a b h1 h2 (by omega)
      · exact t1.sub (by omega) (by omega)
    refine ⟨fun x j k => ∃ (B : Nat) (f2 : Nat → List V3), j = B ∧ 1 ≤ B ∧ B ≤ 2 * N + 20 ∧ x = rF N f2 ∧ Mv (cR K) f f2 0 N ∧ Blk (cR K) f2 B N ∧ k = N - B, ⟨_, 20, g', rfl, by omega, by omega, rfl, m2, b2, rfl⟩, ?_⟩
    rintro k x j ⟨B, f2, rfl, hB1, hB2, rfl, m3, b3, rfl⟩
    have hz2 := m3.szr hF hz
    refine ⟨fun hi => ?_, fun hi => ?_⟩
    · have hBN : B < N := by omega
      have w2 : IntKind.wrap .i64 ((2 : Int) * B) = ((2 * B : Nat) : Int) := by rw [i64_in _ (by omega)]; omega
      have w3 : IntKind.wrap .i64 ((B : Int) * 2) = ((2 * B : Nat) : Int) := by rw [i64_in _ (by omega)]; omega
      rw [w2, w3]
      refine ⟨fun x i j k => ∃ (p A : Nat) (f3 : Nat → List V3), A = p * (2 * B) ∧ i = A ∧ j = ((A + 2 * B : Nat) : Int) ∧ A ≤ N ∧ x = rF N f3 ∧ Mv (cR K) f f3 0 N ∧ (∀ p', p' < p → Asc (cR K) f3 (p' * (2 * B)) ((p' + 1) * (2 * B))) ∧ (∀ k, A ≤ k → f3 k = f2 k) ∧ k = N - A, ⟨_, 0, 0, f2, by omega, rfl, by congr 1; omega, by omega, rfl, m3, fun p' h => by omega, fun _ _ => rfl, rfl⟩, ?_⟩
      rintro k x i j ⟨p, A, f3, hA, rfl, rfl, hAN, rfl, m4, b4, same, rfl⟩
      have hz3 := m4.szr hF hz
      rw [rF_len, et]
      have w4 : IntKind.wrap .i64 ((A : Int) + B) = ((A + B : Nat) : Int) := by rw [i64_in _ (by omega)]; omega
      have w5 : IntKind.wrap .i64 (((A + 2 * B : Nat) : Int) + ((2 * B : Nat) : Int)) = ((A + 2 * B + 2 * B : Nat) : Int) := by rw [i64_in _ (by omega)]; omega
      rw [w4, w5]
      have hA0 : 2 * p * B = A := by rw [hA, Nat.mul_comm 2 p, Nat.mul_assoc]
      have hA1 : (2 * p + 1) * B = A + B := by rw [Nat.add_mul, hA0]; omega
      have hA2 : (2 * p + 1 + 1) * B = A + 2 * B := by rw [Nat.add_mul, hA1]; omega
      have l1 : Asc (cR K) f3 A (min (A + B) N) := by
        have := b3 (2 * p)
        rw [hA0, hA1] at this
        intro a b h1 h2 h3
        rw [same a h1, same b (by omega)]
        exact this a b h1 h2 h3
      have l2 : Asc (cR K) f3 (A + B) (min (A + 2 * B) N) := by
        have := b3 (2 * p + 1)
        rw [hA1, hA2] at this
        intro a b h1 h2 h3
        rw [same a (by omega), same b (by omega)]
        exact this a b h1 h2 h3
      have lowp : ∀ p', p' < p → (p' + 1) * (2 * B) ≤ A := fun p' h => by
        rw [hA]
        exact Nat.mul_le_mul_right _ h
      have nxt : (p + 1) * (2 * B) = A + 2 * B := by rw [Nat.add_mul, ← hA]; omega
      -- what is left sorted, in blocks twice as great
      have done : ∀ f4 : Nat → List V3, Mv (cR K) f3 f4 A N → Asc (cR K) f4 A N → N < A + 2 * B → Blk (cR K) f4 (2 * B) N := fun f4 m5 t5 hlast p' => by
        by_cases c1 : p' < p
        · have := lowp p' c1
          intro a b h1 h2 h3
          rw [m5.out a (.inl (by omega)), m5.out b (.inl (by omega))]
          exact b4 p' c1 a b h1 h2 (by omega)
        · have c2 : A ≤ p' * (2 * B) := by
            rw [hA]
            exact Nat.mul_le_mul_right _ (by omega)
          exact t5.sub c2 (by omega)
      refine ⟨fun hj => ⟨Int.le_refl _, Int.le_refl _, Int.le_refl _, ?_⟩, fun hj => ⟨fun hm' => ⟨Int.le_refl _, Int.le_refl _, Int.le_refl _, ?_⟩, fun hm' => ?_⟩⟩
      · obtain ⟨g5, m5, t5⟩ := srt_exists hF f3 A (2 * B)
        refine ⟨_, c_symMerge K hK N (by omega) _ f3 g5 A (A + B) (A + 2 * B) (Nat.le_refl _) (by omega) (by omega) (by omega) hz3 (l1.sub (Nat.le_refl _) (by omega)) (l2.sub (Nat.le_refl _) (by omega)) m5 t5, N - (A + 2 * B), by omega, p + 1, A + 2 * B, g5, nxt.symm, rfl, rfl, by omega, rfl, m4.trans (m5.wide (by omega) (by omega) (by omega)), fun p' hp' => ?_, fun k hk => ?_, rfl⟩
        · by_cases c1 : p' < p
          · have := lowp p' c1
            intro a b h1 h2 h3
            rw [m5.out a (.inl (by omega)), m5.out b (.inl (by omega))]
            exact b4 p' c1 a b h1 h2 h3
          · obtain rfl : p' = p := by omega
            rw [nxt, ← hA]
            exact t5
        · rw [m5.out k (.inr hk)]
          exact same k (by omega)
      · obtain ⟨g5, m5, t5⟩ := srt_exists hF f3 A (N - A)
        rw [show A + (N - A) = N by omega] at m5 t5
        exact ⟨_, c_symMerge K hK N (by omega) _ f3 g5 A (A + B) N (Nat.le_refl _) (by omega) (by omega) (by omega) hz3 (l1.sub (Nat.le_refl _) (by omega)) (l2.sub (Nat.le_refl _) (by omega)) m5 t5, N - 2 * B, by omega, 2 * B, g5, rfl, by omega, by omega, rfl, m4.trans (m5.wide (by omega) hAN (Nat.le_refl _)), done g5 m5 t5 (by omega), rfl⟩
      · exact ⟨N - 2 * B, by omega, 2 * B, f3, rfl, by omega, by omega, rfl, m4, done f3 (Mv.refl _ _ _) (l1.sub (Nat.le_refl _) (by omega)) (by omega), rfl⟩
    · have := b3 0
      rw [show 0 * B = 0 by omega, show (0 + 1) * B = B by omega] at this
      rw [m3.uniq hF hm (this.sub (Nat.le_refl _) (by omega)) hs]
theorem c_sortStable (K : List K3) (N : Nat) (f g : Nat → List V3) (hK : K.length ≤ Lim) (hN : N ≤ 1152921504606846976) (hz : ∀ k, SzR (f k)) (hm : Mv (cR K) f g 0 N) (hs : Asc (cR K) g 0 N) :
    FnM Try.prog rowM 32 [.c (.vs (rF N f)), closK K] (.c (.vs (rF N g))) := by
  refine w32_row_33 (rF N f) [[.vs (kc K)]] (fun _ => by rw [rF_len, rF_len]) ?_
  rw [rF_len]
  exact ⟨_, c_stable K N f g hK hN hz hm hs, rfl⟩

/- lists of rows -/
def rcL (LL : List (List V3)) : List (List CV) := LL.map fun L => [.vs (vc L)]
theorem rcL_len (LL : List (List V3)) : (rcL LL).length = LL.length := by simp [rcL]
theorem rcL_rF (LL : List (List V3)) : rcL LL = rF LL.length (fun k => LL.getD k []) := by
  apply List.ext_getElem?
  intro i
  by_cases hi : i < LL.length
  · simp [rcL, rF, hi]
  · rw [List.getElem?_eq_none (by rw [rcL_len]; omega), List.getElem?_eq_none (by rw [rF_len]; omega)]
theorem rcL_seg (N : Nat) (g : Nat → List V3) : rcL (seg g 0 N) = rF N g := by simp [rcL, seg, rF]
theorem rcL_sz (LL : List (List V3)) : ∀ el ∈ rcL LL, el.length = 1 := by rw [rcL_rF]; exact rF_sz _ _
theorem rcL_k (LL : List (List V3)) (i : Int) (h0 : 0 ≤ i) (h : i < LL.length) : [11] = ((((rcL LL).getD i.toNat []).drop 0).take 1).map kindC := by rw [rcL_rF]; exact rF_k _ _ i h0 h
theorem rcL_0 (LL : List (List V3)) (i : Int) (h0 : 0 ≤ i) (h : i < LL.length) : (cellAt (rcL LL) i 0).els = vc (LL.getD i.toNat []) := by rw [rcL_rF]; exact rF_0 _ _ i h0 h
theorem rcL_app (A B : List (List V3)) : rcL A ++ rcL B = rcL (A ++ B) := by simp [rcL]
theorem rcL_one (L : List V3) : [[CV.vs (vc L)]] = rcL [L] := rfl
theorem rcL_take (A : List (List V3)) (n : Nat) : (rcL A).take n = rcL (A.take n) := by simp [rcL]
theorem rcL_drop (A : List (List V3)) (n : Nat) : (rcL A).drop n = rcL (A.drop n) := by simp [rcL]
theorem rcL_nil : ([] : List (List CV)) = rcL [] := rfl

/-- rows that a machine can hold -/
def RowOk (L : List V3) : Prop := L.length ≤ 1048576 ∧ ∀ v ∈ L, v.2.2.length ≤ 1048576 ∧ I64 v.1 ∧ I64 v.2.1
def RowsOk (LL : List (List V3)) : Prop := LL.length ≤ 1048576 ∧ ∀ L ∈ LL, RowOk L
theorem RowOk.sz {L : List V3} (h : RowOk L) : SzR L := fun v hv => by
  have := (h.2 v hv).1
  unfold Sz; omega
theorem RowsOk.at {LL : List (List V3)} (h : RowsOk LL) (k : Nat) : RowOk (LL.getD k []) := by
  rw [List.getD_eq_getElem?_getD]
  by_cases hk : k < LL.length
  · rw [List.getElem?_eq_getElem hk]
    exact h.2 _ (List.getElem_mem hk)
  · rw [List.getElem?_eq_none (by omega)]
    exact ⟨by simp, by simp⟩
theorem c_clone (L : List V3) (h : L.length ≤ 1048576) : FnC Try.prog 25 [.c (.vs (vc L))] (.c (.vs (vc L))) := by
  refine w25 (vc L) ⟨fun h => by rw [h], fun x1 hx1 => ⟨vc_sz L, ?_, fun x2 hx2 => ?_⟩⟩
  · subst hx1
    rw [vc_len]
    simp only [List.length_nil]
    omega
  · subst hx1 hx2
    simp
theorem srt_exists0 (K : List K3) (f : Nat → List V3) (N : Nat) : ∃ g, Mv (cR K) f g 0 N ∧ Asc (cR K) g 0 N := by
  have := srt_exists (fineO_cmpR K) f 0 N
  rw [Nat.zero_add] at this
  exact this
/-- the stable arrangement -/
noncomputable def sortF (K : List K3) (f : Nat → List V3) (N : Nat) : Nat → List V3 := Classical.choose (srt_exists0 K f N)
theorem sortF_spec (K : List K3) (f : Nat → List V3) (N : Nat) : Mv (cR K) f (sortF K f N) 0 N ∧ Asc (cR K) (sortF K f N) 0 N := Classical.choose_spec (srt_exists0 K f N)
noncomputable def sortL (K : List K3) (LL : List (List V3)) : List (List V3) := seg (sortF K (fun k => LL.getD k []) LL.length) 0 LL.length
theorem seg_all (LL : List (List V3)) : seg (fun k => LL.getD k []) 0 LL.length = LL := by
  apply List.ext_getElem?
  intro i
  by_cases hi : i < LL.length
  · rw [seg_at _ _ _ _ (by omega)]
    simp [hi]
  · rw [List.getElem?_eq_none (by rw [seg_len]; omega), List.getElem?_eq_none (by omega)]
theorem sortL_len (K : List K3) (LL : List (List V3)) : (sortL K LL).length = LL.length := by
  unfold sortL
  rw [seg_len, Nat.sub_zero]
theorem sortL_st (K : List K3) (LL : List (List V3)) : Stab (cR K) LL (sortL K LL) := by
  have := (sortF_spec K (fun k => LL.getD k []) LL.length).1.st
  rw [seg_all] at this
  exact this
theorem sortL_asc (K : List K3) (LL : List (List V3)) : (sortL K LL).Pairwise (fun x y => cR K x y ≤ 0) := (sortF_spec K (fun k => LL.getD k []) LL.length).2.list
theorem sortL_uniq (K : List K3) (LL MM : List (List V3)) (h1 : Stab (cR K) LL MM) (h2 : MM.Pairwise (fun x y => cR K x y ≤ 0)) : sortL K LL = MM :=
  srt_uniq (fineO_cmpR K) _ _ (sortL_asc K LL) h2 ((sortL_st K LL).symm.trans h1)
theorem sortL_mem {K : List K3} {LL : List (List V3)} {L : List V3} (h : L ∈ sortL K LL) : L ∈ LL := (sortL_st K LL).symm.mem (fineO_cmpR K) h
theorem sortL_ok {K : List K3} {LL : List (List V3)} (h : RowsOk LL) : RowsOk (sortL K LL) := ⟨by rw [sortL_len]; exact h.1, fun L hL => h.2 L (sortL_mem hL)⟩
theorem sortL_sortL (K : List K3) (LL : List (List V3)) : sortL K (sortL K LL) = sortL K LL := sortL_uniq K _ _ (Stab.refl _) (sortL_asc K LL)

theorem c_oSort (LL : List (List V3)) (K : List K3) (hl : RowsOk LL) (hK : K.length ≤ Lim) : FnC Try.prog 19 [.c (.vs (rcL LL)), .c (.vs (kc K))] (.c (.vs (rcL (sortL K LL)))) := by
  refine w19 (rcL LL) (kc K) ?_
  have hl1 := hl.1
  rw [rcL_len]
  refine ⟨by omega, by omega, fun x2 hx2 => ?_⟩
  have hx2 : x2 = rcL [] := hx2
  subst hx2
  refine ⟨fun x i k => ∃ I : Nat, i = I ∧ I ≤ LL.length ∧ x = rcL (LL.take I) ∧ k = LL.length - I, ⟨_, 0, rfl, by omega, rfl, rfl⟩, ?_⟩
  rintro k x i ⟨I, rfl, hI, rfl, rfl⟩
  rw [rcL_len]
  refine ⟨fun hi => ?_, fun hi => ?_⟩
  · refine ⟨by omega, rcL_sz LL, rcL_k LL _ (by omega) hi, ?_⟩
    rw [rcL_0 LL _ (by omega) hi, Int.toNat_natCast]
    refine ⟨_, c_clone _ (hl.at I).1, fun x6 hx6 => ?_⟩
    rw [rcL_one] at hx6
    subst hx6
    rw [rcL_len]
    have e1 : (LL.take I).length = I := by rw [List.length_take]; omega
    have e2 : [LL.getD I []].length = 1 := rfl
    rw [e1, e2]
    refine ⟨by omega, fun x7 hx7 => ?_⟩
    rw [rcL_app] at hx7
    subst hx7
    refine ⟨LL.length - (I + 1), by omega, I + 1, by rw [i64_in _ (by omega)]; omega, by omega, ?_, rfl⟩
    rw [List.take_succ_eq_append_getElem (by omega), List.getD_eq_getElem?_getD, List.getElem?_eq_getElem (by omega)]
    rfl
  · have e : I = LL.length := by omega
    subst e
    rw [List.take_length]
    intro x5 hx5
    subst hx5
    have sp := sortF_spec K (fun k => LL.getD k []) LL.length
    have hsz : ∀ k, SzR (LL.getD k []) := fun k => (hl.at k).sz
    have := c_sortStable K LL.length (fun k => LL.getD k []) _ hK (by omega) hsz sp.1 sp.2
    rw [← rcL_rF] at this
    refine ⟨_, this, by rw [rF_len]; exact Int.le_refl _, ?_⟩
    rw [Int.toNat_natCast, rF_take _ _ _ rfl]
    unfold sortL
    rw [rcL_seg]
theorem c_r6Sort (LL : List (List V3)) (K : List K3) (hl : RowsOk LL) (hK : K.length ≤ Lim) : FnC Try.prog 27 [.c (.vs (rcL LL)), .c (.vs (kc K))] (.c (.vs (rcL (sortL K LL)))) := by
  refine w27 (rcL LL) (kc K) ?_
  have hl1 := hl.1
  have hF := fineO_cmpR K
  rw [rcL_len]
  refine ⟨fun x i k => ∃ I : Nat, i = I ∧ I ≤ LL.length ∧ x = rcL (sortL K (LL.take I)) ∧ k = LL.length - I, ⟨_, 0, rfl, by omega, rfl, rfl⟩, ?_⟩
  rintro k x i ⟨I, rfl, hI, rfl, rfl⟩
  rw [rcL_len, sortL_len]
  have e1 : (LL.take I).length = I := by rw [List.length_take]; omega
  rw [e1]
  generalize hS : sortL K (LL.take I) = S
  have hSl : S.length = I := by rw [← hS, sortL_len, e1]
  have hSa : S.Pairwise (fun x y => cR K x y ≤ 0) := by rw [← hS]; exact sortL_asc _ _
  have hSs : Stab (cR K) (LL.take I) S := by rw [← hS]; exact sortL_st _ _
  have hSo : RowsOk S := by rw [← hS]; exact sortL_ok ⟨by rw [e1]; omega, fun L hL => hl.2 L (List.mem_of_mem_take hL)⟩
  refine ⟨fun hi => ?_, fun hi => ?_⟩
  · have hIL : I < LL.length := by omega
    refine ⟨fun j k => ∃ J : Nat, j = J ∧ J ≤ I ∧ (∀ p, J ≤ p → p < I → cmpR (LL.getD I []) (S.getD p []) K < 0) ∧ k = J + 1, ⟨_, I, rfl, Nat.le_refl _, fun p h1 h2 => by omega, rfl⟩, ?_⟩
    rintro k j ⟨J, rfl, hJ, hx, rfl⟩
    have w1 : 0 < J → IntKind.wrap .i64 ((J : Int) - 1) = ((J - 1 : Nat) : Int) := fun h => by rw [i64_in _ (by omega)]; omega
    refine ⟨fun h => by omega, fun h => rcL_sz LL, fun h => rcL_k LL _ (by omega) hi, fun h => by rw [w1 (by omega)]; omega, fun h => by rw [w1 (by omega)]; exact rcL_k S _ (by omega) (by omega), cmpR (LL.getD I []) (S.getD (J - 1) []) K, fun h => ?_, fun h => ?_, fun h => ?_⟩
    · rw [w1 (by omega), rcL_0 LL _ (by omega) hi, rcL_0 S _ (by omega) (by omega), Int.toNat_natCast, Int.toNat_natCast]
      exact c_r6Compare _ _ K (hl.at I).sz (hSo.at _).sz hK
    · obtain ⟨h1, h2⟩ := h
      refine ⟨J - 1 + 1, by omega, J - 1, w1 (by omega), by omega, fun p p1 p2 => ?_, rfl⟩
      by_cases c1 : p = J - 1
      · rw [c1]; exact h2
      · exact hx p (by omega) p2
    · intro x6 hx6
      subst hx6
      refine ⟨by omega, by omega, ⟨by simp, by simp; omega, by simp; omega⟩, fun x7 hx7 => ?_⟩
      rw [Int.toNat_natCast, rcL_take, List.nil_append] at hx7
      subst hx7
      refine ⟨by omega, rcL_sz LL, rcL_k LL _ (by omega) hi, fun x8 hx8 => ?_⟩
      rw [rcL_0 LL _ (by omega) hi, Int.toNat_natCast, rcL_one] at hx8
      subst hx8
      have e2 : (S.take J).length = J := by rw [List.length_take]; omega
      rw [rcL_len, rcL_len, e2]
      refine ⟨⟨by simp; omega, by simp; omega, by simp; omega⟩, fun x9 hx9 => ?_⟩
      rw [rcL_app] at hx9
      subst hx9
      have e3 : (S.take J ++ [LL.getD I []]).length = J + 1 := by rw [List.length_append, e2]; rfl
      rw [rcL_len, e3]
      refine ⟨by omega, by omega, ⟨by omega, by omega, by omega⟩, fun x10 hx10 => ?_⟩
      rw [Int.toNat_natCast, rcL_drop, rcL_take, List.take_of_length_le (l := S.drop J) (by rw [List.length_drop]; omega), rcL_app] at hx10
      subst hx10
      refine ⟨LL.length - (I + 1), by omega, I + 1, by rw [i64_in _ (by omega)]; omega, by omega, ?_, rfl⟩
      congr 1
      symm
      have hrow : LL.take (I + 1) = LL.take I ++ [LL.getD I []] := by
        rw [List.take_succ_eq_append_getElem hIL, List.getD_eq_getElem?_getD, List.getElem?_eq_getElem hIL]
        rfl
      have hget : ∀ p, p < I → S.getD p [] ∈ S := fun p hp => by
        rw [List.getD_eq_getElem?_getD, List.getElem?_eq_getElem (by omega)]
        exact List.getElem_mem _
      have hpw : ∀ p q, p < q → q < I → cR K (S.getD p []) (S.getD q []) ≤ 0 := fun p q h1 h2 => by
        rw [List.pairwise_iff_getElem] at hSa
        have := hSa p q (by omega) (by omega) h1
        rw [List.getD_eq_getElem?_getD, List.getD_eq_getElem?_getD, List.getElem?_eq_getElem (by omega), List.getElem?_eq_getElem (by omega)]
        exact this
      have hdrop : ∀ y ∈ S.drop J, cmpR (LL.getD I []) y K < 0 := fun y hy => by
        obtain ⟨p, hp, rfl⟩ := List.getElem_of_mem hy
        rw [List.length_drop] at hp
        have := hx (J + p) (by omega) (by omega)
        have e4 : S.getD (J + p) [] = (S.drop J)[p] := by
          rw [List.getD_eq_getElem?_getD, List.getElem?_eq_getElem (by omega)]
          simp
        rw [e4] at this
        exact this
      refine sortL_uniq K _ _ ?_ ?_
      · rw [hrow]
        refine (hSs.app (Stab.refl _)).trans ?_
        conv => lhs; rw [← List.take_append_drop J S, List.append_assoc]
        rw [List.append_assoc]
        refine (Stab.refl _).app (Stab.swap hF _ _ fun y hy z hz => ?_)
        rw [List.mem_singleton] at hz
        subst hz
        have h1 := hdrop y hy
        have h2 := hF.swap (LL.getD I []) y
        show cmpR y (LL.getD I []) K ≠ 0
        omega
      · rw [List.append_assoc, List.pairwise_append, List.singleton_append, List.pairwise_cons]
        refine ⟨hSa.sublist (List.take_sublist _ _), ⟨fun y hy => Int.le_of_lt (hdrop y hy), hSa.sublist (List.drop_sublist _ _)⟩, fun y hy z hz => ?_⟩
        obtain ⟨p, hp, rfl⟩ := List.getElem_of_mem hy
        rw [e2] at hp
        have hle : cR K ((S.take J)[p]'(by rw [e2]; exact hp)) (LL.getD I []) ≤ 0 := by
          have h0 : ¬ cmpR (LL.getD I []) (S.getD (J - 1) []) K < 0 := fun h3 => h ⟨by omega, h3⟩
          have h1 := hF.swap (LL.getD I []) (S.getD (J - 1) [])
          have h2 : cR K (S.getD (J - 1) []) (LL.getD I []) ≤ 0 := by
            show cmpR (S.getD (J - 1) []) (LL.getD I []) K ≤ 0
            omega
          have h3 : (S.take J)[p]'(by rw [e2]; exact hp) = S.getD p [] := by
            rw [List.getD_eq_getElem?_getD, List.getElem?_eq_getElem (by omega)]
            simp
          rw [h3]
          by_cases c1 : p = J - 1
          · rw [c1]; exact h2
          · exact hF.trans _ _ _ (hpw p (J - 1) (by omega) (by omega)) h2
        rcases List.mem_cons.1 hz with rfl | hz
        · exact hle
        · exact hF.trans _ _ _ hle (Int.le_of_lt (hdrop z hz))
  · have e : I = LL.length := by omega
    rw [← hS, e, List.take_length]
end Go.Proofs.Ytdgjcdhomfhfpaa
namespace Go.Proofs.Ytdgjcdhomfhfpaa
open Go.RowKit Go.IntWalk
set_option linter.unusedSimpArgs false
set_option linter.unusedVariables false

/- which keys count -/
theorem c_chk1 (k : K3) : FnC Try.prog 29 [kD k] (bD (!rightK k)) := w29 k.1 k.2.1 k.2.2 ⟨_, c_right k, rfl⟩
def chkI (K : List K3) : Int := if K.all rightK = true then -1 else (K.findIdx fun k => !rightK k : Nat)
theorem all_take {α : Type} (p : α → Bool) (K : List α) (d : α) (J : Nat) (h : J < K.length) : (K.take (J + 1)).all p = ((K.take J).all p && p (K.getD J d)) := by
  rw [List.take_succ_eq_append_getElem h, List.all_append, List.getD_eq_getElem?_getD, List.getElem?_eq_getElem h]
  simp
theorem all_false {α : Type} (p : α → Bool) (K : List α) (d : α) (J : Nat) (h : J < K.length) (hp : p (K.getD J d) = false) : K.all p = false := by
  rw [List.getD_eq_getElem?_getD, List.getElem?_eq_getElem h] at hp
  cases hb : K.all p
  · rfl
  · have := List.all_eq_true.1 hb K[J] (List.getElem_mem h)
    have hp : p K[J] = false := hp
    rw [hp] at this
    cases this
theorem c_containsK (K : List K3) (hK : K.length ≤ Lim) : FnC Try.prog 28 [.c (.vs (kc K)), .c (.v (.func (.func 29) #[] #[]))] (bD (!K.all rightK)) := by
  have hL : Lim = 4611686018427387903 := rfl
  have go : ∃ z : Int, decide (0 ≤ z) = !K.all rightK ∧ FnC Try.prog 43 [.c (.vs (kc K)), .c (.v (.func (.func 29) #[] #[]))] (iD z) := by
    by_cases hall : ∃ J, J < K.length ∧ (K.take J).all rightK = true ∧ rightK (K.getD J knul) = false
    · obtain ⟨J0, hJ0, ht, hf⟩ := hall
      refine ⟨J0, ?_, ?_⟩
      · rw [all_false rightK K knul J0 hJ0 hf]
        simp
      · refine w43_29 (kc K) ?_
        rw [kc_len]
        refine ⟨fun i k => ∃ J : Nat, i = J ∧ J ≤ J0 ∧ k = K.length - J, ⟨_, 0, rfl, by omega, rfl⟩, ?_⟩
        rintro k i ⟨J, rfl, hJ, rfl⟩
        refine ⟨fun hi => ⟨by omega, kc_sz K, kc_k K _ (by omega) hi, ?_⟩, fun hi => by omega⟩
        rw [kD_at K J (by omega), i64_in _ (by omega)]
        refine ⟨_, c_chk1 _, fun h => ?_, fun h => ?_⟩
        · by_cases c1 : J = J0
          · rw [c1]
          · exfalso
            have h2 : (K.take (J + 1)).all rightK = true := by
              rw [List.all_eq_true] at ht ⊢
              intro x hx
              exact ht x ((List.take_sublist_take_left (by omega)).subset hx)
            rw [all_take rightK K knul J (by omega)] at h2
            simp only [Bool.and_eq_true] at h2
            rw [h2.2] at h
            cases h
        · refine ⟨K.length - (J + 1), by omega, J + 1, by omega, ?_, rfl⟩
          by_cases c1 : J = J0
          · subst c1
            rw [hf] at h
            exact absurd rfl h
          · omega
    · have hall2 : ∀ J, J ≤ K.length → (K.take J).all rightK = true := by
        intro J
        induction J with
        | zero => intro _; rfl
        | succ J ih =>
          intro h
          rw [all_take rightK K knul J (by omega), ih (by omega)]
          cases hr : rightK (K.getD J knul)
          · exact absurd ⟨J, by omega, ih (by omega), hr⟩ hall
          · rfl
      have hK2 := hall2 K.length (Nat.le_refl _)
      rw [List.take_length] at hK2
      refine ⟨-1, by rw [hK2]; decide, ?_⟩
      refine w43_29 (kc K) ?_
      rw [kc_len]
      refine ⟨fun i k => ∃ J : Nat, i = J ∧ J ≤ K.length ∧ k = K.length - J, ⟨_, 0, rfl, by omega, rfl⟩, ?_⟩
      rintro k i ⟨J, rfl, hJ, rfl⟩
      refine ⟨fun hi => ⟨by omega, kc_sz K, kc_k K _ (by omega) hi, ?_⟩, fun hi => rfl⟩
      rw [kD_at K J (by omega), i64_in _ (by omega)]
      refine ⟨_, c_chk1 _, fun h => ?_, fun h => ?_⟩
      · exfalso
        cases hr : rightK (K.getD J knul)
        · rw [all_false rightK K knul J (by omega) hr] at hK2
          cases hK2
        · rw [hr] at h
          cases h
      · exact ⟨K.length - (J + 1), by omega, J + 1, by omega, by omega, rfl⟩
  obtain ⟨z, h1, h2⟩ := go
  exact w28_29 (kc K) ⟨z, h2, by rw [h1]⟩
def chkK (K : List K3) : Int := if K.all rightK = true then 0 else 1
theorem c_oCheck (K : List K3) (hK : K.length ≤ Lim) : FnC Try.prog 18 [.c (.vs (kc K))] (iD (chkK K)) := by
  refine w18 (kc K) ⟨_, c_containsK K hK, fun h => ?_, fun h => ?_⟩
  · unfold chkK
    rw [if_neg (by intro h2; rw [h2] at h; cases h)]
  · unfold chkK
    rw [if_pos (by cases hb : K.all rightK <;> rw [hb] at h <;> simp_all)]
theorem c_r6Check (K : List K3) (hK : K.length ≤ Lim) : FnC Try.prog 23 [.c (.vs (kc K))] (iD (chkK K)) := by
  have hL : Lim = 4611686018427387903 := rfl
  refine w23 (kc K) ?_
  rw [kc_len]
  refine ⟨fun i k => ∃ J : Nat, i = J ∧ J ≤ K.length ∧ (K.take J).all rightK = true ∧ k = K.length - J, ⟨_, 0, rfl, by omega, rfl, rfl⟩, ?_⟩
  rintro k i ⟨J, rfl, hJ, ht, rfl⟩
  refine ⟨fun hi => ⟨by omega, kc_sz K, kc_k K _ (by omega) hi, ?_⟩, fun hi => ?_⟩
  · rw [kD_at K J (by omega), i64_in _ (by omega)]
    refine ⟨_, c_counts _, fun h => ?_, fun h => ?_⟩
    · unfold chkK
      rw [if_neg (by
        rw [all_false rightK K knul J (by omega) (by simpa using h)]
        simp)]
    · refine ⟨K.length - (J + 1), by omega, J + 1, by omega, by omega, ?_, rfl⟩
      rw [all_take rightK K knul J (by omega), ht]
      simpa using h
  · obtain rfl : J = K.length := by omega
    rw [List.take_length] at ht
    unfold chkK
    rw [if_pos ht]

/- the same rows -/
theorem ne_of_at {α : Type} {a b : List α} {d : α} {J : Nat} (h : ¬ a.getD J d = b.getD J d) : a ≠ b := fun e => h (by rw [e])
theorem eq_of_all {α : Type} {a b : List α} {d : α} (hl : a.length = b.length) (h : ∀ J, J < a.length → a.getD J d = b.getD J d) : a = b := by
  apply List.ext_getElem hl
  intro i h1 h2
  have := h i h1
  rw [List.getD_eq_getElem?_getD, List.getD_eq_getElem?_getD, List.getElem?_eq_getElem h1, List.getElem?_eq_getElem h2] at this
  exact this
theorem v3_eq (a b : V3) : (a.1 = b.1 ∧ a.2.1 = b.2.1 ∧ bs a.2.2 = bs b.2.2 ∧ (true = true)) ↔ a = b := by
  rw [bs_inj]
  constructor
  · rintro ⟨h1, h2, h3, _⟩
    exact Prod.ext h1 (Prod.ext h2 h3)
  · intro h; rw [h]; simp
theorem c_sameRow (a b : List V3) (ha : a.length ≤ 1048576) : FnC Try.prog 26 [.c (.vs (vc a)), .c (.vs (vc b))] (bD (decide (a = b))) := by
  refine w26 (vc a) (vc b) ?_
  rw [vc_len, vc_len]
  refine ⟨fun h => ?_, fun h => ?_⟩
  · rw [decide_eq_false (fun e => h (by rw [e]))]
  · have hl : a.length = b.length := by omega
    refine ⟨fun i k => ∃ J : Nat, i = J ∧ J ≤ a.length ∧ (∀ p, p < J → a.getD p nul = b.getD p nul) ∧ k = a.length - J, ⟨_, 0, rfl, by omega, fun p h => by omega, rfl⟩, ?_⟩
    rintro k i ⟨J, rfl, hJ, hs, rfl⟩
    refine ⟨fun hi => ⟨by omega, vc_sz a, vc_k a _ (by omega) hi, by omega, vc_sz b, vc_k b _ (by omega) (by omega), ?_⟩, fun hi => ?_⟩
    · rw [vc_0 a _ (by omega) hi, vc_1 a _ (by omega) hi, vc_2 a _ (by omega) hi, vc_0 b _ (by omega) (by omega), vc_1 b _ (by omega) (by omega), vc_2 b _ (by omega) (by omega), Int.toNat_natCast, v3_eq, i64_in _ (by omega)]
      refine ⟨fun h => ?_, fun h => ?_⟩
      · rw [decide_eq_false (ne_of_at h)]
      · refine ⟨a.length - (J + 1), by omega, J + 1, by omega, by omega, fun p hp => ?_, rfl⟩
        by_cases c1 : p = J
        · rw [c1]; exact Classical.not_not.1 h
        · exact hs p (by omega)
    · rw [decide_eq_true (eq_of_all hl fun p hp => hs p (by omega))]
theorem c_r6Same (A B : List (List V3)) (hA : RowsOk A) : FnC Try.prog 16 [.c (.vs (rcL A)), .c (.vs (rcL B))] (bD (decide (A = B))) := by
  have hA1 := hA.1
  refine w16 (rcL A) (rcL B) ?_
  rw [rcL_len, rcL_len]
  refine ⟨fun h => ?_, fun h => ?_⟩
  · rw [decide_eq_false (fun e => h (by rw [e]))]
  · have hl : A.length = B.length := by omega
    refine ⟨fun i k => ∃ J : Nat, i = J ∧ J ≤ A.length ∧ (∀ p, p < J → A.getD p [] = B.getD p []) ∧ k = A.length - J, ⟨_, 0, rfl, by omega, fun p h => by omega, rfl⟩, ?_⟩
    rintro k i ⟨J, rfl, hJ, hs, rfl⟩
    refine ⟨fun hi => ⟨by omega, rcL_sz A, rcL_k A _ (by omega) hi, by omega, rcL_sz B, rcL_k B _ (by omega) (by omega), ?_⟩, fun hi => ?_⟩
    · rw [rcL_0 A _ (by omega) hi, rcL_0 B _ (by omega) (by omega), Int.toNat_natCast, i64_in _ (by omega)]
      refine ⟨_, c_sameRow _ _ (hA.at J).1, fun h => ?_, fun h => ?_⟩
      · rw [decide_eq_false (ne_of_at (d := []) (J := J) (by simpa using h))]
      · refine ⟨A.length - (J + 1), by omega, J + 1, by omega, by omega, fun p hp => ?_, rfl⟩
        by_cases c1 : p = J
        · rw [c1]; simpa using h
        · exact hs p (by omega)
    · rw [decide_eq_true (eq_of_all hl fun p hp => hs p (by omega))]
/- where a row belongs -/
def posL (K : List K3) (row : List V3) : List (List V3) → Nat
  | [] => 0
  | L :: LL => if cmpR L row K < 0 then posL K row LL + 1 else 0
theorem posL_spec (K : List K3) (row : List V3) : ∀ LL : List (List V3), posL K row LL ≤ LL.length ∧ (∀ p, p < posL K row LL → cmpR (LL.getD p []) row K < 0) ∧ (posL K row LL < LL.length → ¬ cmpR (LL.getD (posL K row LL) []) row K < 0)
  | [] => by simp [posL]
  | L :: LL => by
    obtain ⟨h1, h2, h3⟩ := posL_spec K row LL
    unfold posL
    split
    · rename_i h
      refine ⟨by simp; omega, fun p hp => ?_, fun hp => ?_⟩
      · cases p with
        | zero => exact h
        | succ p => exact h2 p (by omega)
      · exact h3 (by simpa using hp)
    · rename_i h
      exact ⟨by omega, fun p hp => by omega, fun _ => h⟩
def foundB (K : List K3) (row : List V3) (LL : List (List V3)) : Bool := decide (posL K row LL < LL.length) && decide (cmpR (LL.getD (posL K row LL) []) row K = 0)
theorem found_eq (K : List K3) (row : List V3) (LL : List (List V3)) : (if decide (((posL K row LL : Nat) : Int) < (LL.length : Int)) = true then (cmpR (LL.getD (posL K row LL) []) row K == 0) else false) = foundB K row LL := by
  unfold foundB
  by_cases h : posL K row LL < LL.length
  · rw [if_pos (decide_eq_true (by omega)), decide_eq_true h, Bool.true_and]
    by_cases h2 : cmpR (LL.getD (posL K row LL) []) row K = 0
    · rw [decide_eq_true h2, h2]; rfl
    · rw [decide_eq_false h2]
      exact beq_eq_false_iff_ne.2 h2
  · rw [if_neg (by rw [decide_eq_true_eq]; omega), decide_eq_false h, Bool.false_and]
/- fair rows -/
def may6 (v : V3) : Bool := decide (v.1 = 0 ∧ v.2.1 = 0 ∧ v.2.2 = [] ∨ v.1 = 1 ∧ v.2.2 = [] ∨ (v.1 = 2 ∨ v.1 = 3) ∧ v.2.1 = 0 ∧ v.2.2.length ≤ 4096)
def fairR (L : List V3) : Bool := decide (L.length ≤ 64) && L.all may6
def fairL (LL : List (List V3)) : Bool := decide (LL.length ≤ 64) && LL.all fairR
theorem fair_ok {LL : List (List V3)} (h : fairL LL = true) (hi : ∀ L ∈ LL, ∀ v ∈ L, I64 v.1 ∧ I64 v.2.1) : RowsOk LL := by
  unfold fairL at h
  simp only [Bool.and_eq_true, decide_eq_true_eq] at h
  refine ⟨by omega, fun L hL => ?_⟩
  have h2 := List.all_eq_true.1 h.2 L hL
  unfold fairR at h2
  simp only [Bool.and_eq_true, decide_eq_true_eq] at h2
  refine ⟨by omega, fun v hv => ?_⟩
  have h3 := List.all_eq_true.1 h2.2 v hv
  unfold may6 at h3
  rw [decide_eq_true_eq] at h3
  refine ⟨?_, hi L hL v hv⟩
  rcases h3 with ⟨_, _, h4⟩ | ⟨_, h4⟩ | ⟨_, _, h4⟩
  · rw [h4]; simp
  · rw [h4]; simp
  · omega
end Go.Proofs.Ytdgjcdhomfhfpaa
namespace Go.Proofs.Ytdgjcdhomfhfpaa
open Go.RowKit Go.IntWalk
set_option linter.unusedSimpArgs false
set_option linter.unusedVariables false

/- eight bytes of a number -/
def numN : Nat → Int → List UInt8
  | 0, _ => []
  | k + 1, z => UInt8.ofNat (z % 256).toNat :: numN k (z / 256)
theorem numN_len : ∀ (k : Nat) (z : Int), (numN k z).length = k
  | 0, _ => rfl
  | k + 1, z => by simp [numN, numN_len k]
theorem numN_snoc : ∀ (k : Nat) (z : Int), numN (k + 1) z = numN k z ++ [UInt8.ofNat ((z / 256 ^ k) % 256).toNat]
  | 0, z => by simp [numN]
  | k + 1, z => by
    have e : z / 256 / 256 ^ k = z / 256 ^ (k + 1) := by rw [Int.ediv_ediv_of_nonneg (by omega), Int.pow_succ, Int.mul_comm]
    rw [numN, numN_snoc k (z / 256), e]
    rfl
theorem u8_of (z : Int) : [[CV.v (.int .u8 (IntKind.wrap .u8 z))]] = bc [UInt8.ofNat (z % 256).toNat] := by
  have h : ((UInt8.ofNat (z % 256).toNat).toNat : Int) = IntKind.wrap .u8 z := by
    rw [IntKind.wrap_u8]
    simp
    omega
  show _ = [[CV.v (.int .u8 ((UInt8.ofNat (z % 256).toNat).toNat : Int))]]
  rw [h]
theorem numN_inj : ∀ (k : Nat) (a b : Int), 0 ≤ a → a < 256 ^ k → 0 ≤ b → b < 256 ^ k → numN k a = numN k b → a = b
  | 0, a, b, h1, h2, h3, h4, _ => by
    rw [Int.pow_zero] at h2 h4
    omega
  | k + 1, a, b, h1, h2, h3, h4, h => by
    simp only [numN, List.cons.injEq] at h
    rw [Int.pow_succ] at h2 h4
    have ih := numN_inj k (a / 256) (b / 256) (by omega) (by omega) (by omega) (by omega) h.2
    have h5 := congrArg UInt8.toNat h.1
    simp only [UInt8.toNat_ofNat'] at h5
    omega
theorem num8_inj {a b : Int} (ha : 0 ≤ a) (ha2 : a < 18446744073709551616) (hb : 0 ≤ b) (hb2 : b < 18446744073709551616) (h : numN 8 a = numN 8 b) : a = b :=
  numN_inj 8 a b ha (by simpa using ha2) hb (by simpa using hb2) h
abbrev byteM : Md := ⟨0, 5, 1, true⟩
/- the text of a row -/
abbrev u64Z (z : Int) : Int := IntKind.wrap .u64 z
theorem u64Z_rng (z : Int) : 0 ≤ u64Z z ∧ u64Z z < 18446744073709551616 := by
  unfold u64Z
  simp [IntKind.wrap, IntKind.bits, IntKind.signed]
  omega
theorem u64Z_inj {a b : Int} (ha : I64 a) (hb : I64 b) (h : u64Z a = u64Z b) : a = b := by
  unfold u64Z at h
  simp [IntKind.wrap, IntKind.bits, IntKind.signed] at h
  obtain ⟨a1, a2⟩ := ha
  obtain ⟨b1, b2⟩ := hb
  omega
def markV (v : V3) : List UInt8 := numN 8 (u64Z v.1) ++ (numN 8 (u64Z v.2.1) ++ (numN 8 (u64Z v.2.2.length) ++ v.2.2))
def markL : List V3 → List UInt8
  | [] => []
  | v :: L => markV v ++ markL L
theorem markL_app : ∀ (L M : List V3), markL (L ++ M) = markL L ++ markL M
  | [], M => rfl
  | v :: L, M => by simp [markL, markL_app L M, List.append_assoc]
theorem markV_len (v : V3) : (markV v).length = 24 + v.2.2.length := by
  simp [markV, numN_len]; omega
theorem markV_inj {v w : V3} {l m : List UInt8} (hv : I64 v.1 ∧ I64 v.2.1 ∧ v.2.2.length ≤ 1048576) (hw : I64 w.1 ∧ I64 w.2.1 ∧ w.2.2.length ≤ 1048576) (h : markV v ++ l = markV w ++ m) : v = w ∧ l = m := by
  unfold markV at h
  simp only [List.append_assoc] at h
  have n8 : ∀ z, (numN 8 z).length = 8 := numN_len 8
  obtain ⟨h1, h⟩ := List.append_inj h (by rw [n8, n8])
  obtain ⟨h2, h⟩ := List.append_inj h (by rw [n8, n8])
  obtain ⟨h3, h⟩ := List.append_inj h (by rw [n8, n8])
  have ei : ∀ {a b : Int}, numN 8 (u64Z a) = numN 8 (u64Z b) → u64Z a = u64Z b := fun {a b} h => num8_inj (u64Z_rng a).1 (u64Z_rng a).2 (u64Z_rng b).1 (u64Z_rng b).2 h
  have e1 := u64Z_inj hv.1 hw.1 (ei h1)
  have e2 := u64Z_inj hv.2.1 hw.2.1 (ei h2)
  have hv3 := hv.2.2
  have hw3 := hw.2.2
  have e3 := u64Z_inj (by constructor <;> omega) (by constructor <;> omega) (ei h3)
  obtain ⟨h4, h5⟩ := List.append_inj h (by omega)
  exact ⟨Prod.ext e1 (Prod.ext e2 h4), h5⟩
theorem markL_inj : ∀ (L M : List V3), (∀ v ∈ L, v.2.2.length ≤ 1048576 ∧ I64 v.1 ∧ I64 v.2.1) → (∀ v ∈ M, v.2.2.length ≤ 1048576 ∧ I64 v.1 ∧ I64 v.2.1) → markL L = markL M → L = M
  | [], [], _, _, _ => rfl
  | [], v :: M, _, _, h => by
    have := congrArg List.length h
    simp [markL, markV_len] at this
    omega
  | v :: L, [], _, _, h => by
    have := congrArg List.length h
    simp [markL, markV_len] at this
  | v :: L, w :: M, hL, hM, h => by
    have hv := hL v (by simp)
    have hw := hM w (by simp)
    obtain ⟨e, h2⟩ := markV_inj ⟨hv.2.1, hv.2.2, hv.1⟩ ⟨hw.2.1, hw.2.2, hw.1⟩ h
    rw [e, markL_inj L M (fun u hu => hL u (by simp [hu])) (fun u hu => hM u (by simp [hu])) h2]
theorem markL_len : ∀ (L : List V3), (∀ v ∈ L, v.2.2.length ≤ 1048576) → (markL L).length ≤ L.length * 1048600
  | [], _ => by simp [markL]
  | v :: L, h => by
    have := markL_len L fun u hu => h u (by simp [hu])
    have := h v (by simp)
    simp only [markL, List.length_append, markV_len, List.length_cons]
    omega
/- rows without those that are the same as one ahead -/
def uniqS (A : List (List V3)) (L : List V3) : List (List V3) := if L ∈ A then A else A ++ [L]
def uniqL (LL : List (List V3)) : List (List V3) := LL.foldl uniqS []
theorem uniqL_snoc (LL : List (List V3)) (L : List V3) : uniqL (LL ++ [L]) = uniqS (uniqL LL) L := by simp [uniqL]
theorem take_snoc {α : Type} (K : List α) (d : α) (J : Nat) (h : J < K.length) : K.take (J + 1) = K.take J ++ [K.getD J d] := by
  rw [List.take_add_one, List.getD_eq_getElem?_getD, List.getElem?_eq_getElem h]
  rfl
theorem uniqS_mem (A : List (List V3)) (L M : List V3) : M ∈ uniqS A L ↔ M ∈ A ∨ M = L := by
  unfold uniqS
  split
  · rename_i h
    constructor
    · exact Or.inl
    · rintro (h1 | h1)
      · exact h1
      · rw [h1]; exact h
  · simp
theorem fold_mem : ∀ (LL A : List (List V3)) (M : List V3), M ∈ LL.foldl uniqS A ↔ M ∈ A ∨ M ∈ LL
  | [], A, M => by simp
  | L :: LL, A, M => by
    rw [List.foldl_cons, fold_mem LL, uniqS_mem]
    simp [or_assoc]
theorem uniqL_mem (LL : List (List V3)) (M : List V3) : M ∈ uniqL LL ↔ M ∈ LL := by
  unfold uniqL
  rw [fold_mem]
  simp
theorem uniqS_nodup {A : List (List V3)} {L : List V3} (h : A.Nodup) : (uniqS A L).Nodup := by
  unfold uniqS
  split
  · exact h
  · rename_i hn
    rw [List.nodup_append]
    refine ⟨h, by simp, fun a ha b hb => ?_⟩
    simp at hb
    rintro rfl
    exact hn (hb ▸ ha)
theorem fold_nodup : ∀ (LL A : List (List V3)), A.Nodup → (LL.foldl uniqS A).Nodup
  | [], A, h => h
  | L :: LL, A, h => fold_nodup LL _ (uniqS_nodup h)
theorem fold_same : ∀ (LL A : List (List V3)), (A ++ LL).Nodup → LL.foldl uniqS A = A ++ LL
  | [], A, _ => by simp
  | L :: LL, A, h => by
    have hn : L ∉ A := fun hm => (List.nodup_append.1 h).2.2 L hm L (by simp) rfl
    rw [List.foldl_cons, show uniqS A L = A ++ [L] by simp [uniqS, hn], fold_same LL _ (by simpa using h)]
    simp
theorem uniqL_uniqL (LL : List (List V3)) : uniqL (uniqL LL) = uniqL LL := by
  have := fold_same (uniqL LL) [] (by rw [List.nil_append]; exact fold_nodup LL [] List.nodup_nil)
  rw [List.nil_append] at this
  exact this
theorem fold_len : ∀ (LL A : List (List V3)), (LL.foldl uniqS A).length ≤ A.length + LL.length
  | [], A => by simp
  | L :: LL, A => by
    have := fold_len LL (uniqS A L)
    have h2 : (uniqS A L).length ≤ A.length + 1 := by
      unfold uniqS
      split <;> simp
    simp only [List.foldl_cons, List.length_cons]
    omega
theorem uniqL_len (LL : List (List V3)) : (uniqL LL).length ≤ LL.length := by simpa [uniqL] using fold_len LL []
theorem uniqL_ok {LL : List (List V3)} (h : RowsOk LL) : RowsOk (uniqL LL) := ⟨by have := uniqL_len LL; have := h.1; omega, fun L hL => h.2 L ((uniqL_mem LL L).1 hL)⟩
theorem RowsOk.take {LL : List (List V3)} (h : RowsOk LL) (n : Nat) : RowsOk (LL.take n) := ⟨by rw [List.length_take]; have := h.1; omega, fun L hL => h.2 L (List.mem_of_mem_take hL)⟩

/- counts by text -/
def mget (c : List (List CV)) (k : ByteArray) : Int := if decide (((mposL c k : Nat) : Int) < (c.length : Int)) = true then (cellAt c (mposL c k : Nat) 1).int else 0
theorem mpos_at {c : List (List CV)} {k : ByteArray} (h : mposL c k < c.length) : ((c.getD (mposL c k) []).getD 0 default).str = k := by
  have := List.findIdx_getElem (xs := c) (p := fun (el : List CV) => k == (el.getD 0 default).str) (w := h)
  have e : c.getD (mposL c k) [] = c[mposL c k]'h := by rw [List.getD_eq_getElem?_getD, List.getElem?_eq_getElem h]; rfl
  rw [e]
  exact ((MapKept.bytes_beq _ _).1 this).symm
def keyOf (el : List CV) : ByteArray := (el.getD 0 default).str
theorem mpos_keys (c : List (List CV)) (k : ByteArray) : mposL c k = (c.map keyOf).findIdx (fun s => k == s) := by
  rw [List.findIdx_map]
  rfl
theorem mpos_le (c : List (List CV)) (k : ByteArray) : mposL c k ≤ c.length := List.findIdx_le_length
theorem mpos_set {c : List (List CV)} {k : ByteArray} (h : mposL c k < c.length) (cv : CV) (k' : ByteArray) : mposL (c.set (mposL c k) [.v (.string k), cv]) k' = mposL c k' := by
  rw [mpos_keys, mpos_keys c k', List.map_set]
  congr 1
  have hk : keyOf [.v (.string k), cv] = k := rfl
  rw [hk]
  have h2 : mposL c k < (c.map keyOf).length := by simpa using h
  have : (c.map keyOf)[mposL c k]'h2 = k := by
    have := mpos_at h
    rw [List.getElem_map]
    have e : c.getD (mposL c k) [] = c[mposL c k]'h := by rw [List.getD_eq_getElem?_getD, List.getElem?_eq_getElem h]; rfl
    rw [e] at this
    exact this
  conv => lhs; arg 3; rw [← this]
  exact List.set_getElem_self h2
theorem mpos_app {c : List (List CV)} {k : ByteArray} (h : ¬ mposL c k < c.length) (cv : CV) (k' : ByteArray) : mposL (c ++ [[.v (.string k), cv]]) k' = if mposL c k' < c.length then mposL c k' else if k' = k then c.length else c.length + 1 := by
  unfold mposL
  rw [List.findIdx_append]
  split
  · rfl
  · by_cases hk : k' = k
    · subst hk
      have : (k' == k') = true := (MapKept.bytes_beq _ _).2 rfl
      simp [List.findIdx_cons, CV.str, this]
    · have : (k' == k) = false := by
        cases hb : (k' == k) with
        | false => rfl
        | true => exact absurd ((MapKept.bytes_beq _ _).1 hb) hk
      simp [List.findIdx_cons, CV.str, this, hk]
      omega
theorem mget_put (c : List (List CV)) (k k' : ByteArray) (z : Int) : mget (mputL c k (.v (.int .i64 z))) k' = if k' = k then z else mget c k' := by
  unfold mputL
  by_cases h : mposL c k < c.length
  · rw [if_pos h]
    unfold mget
    rw [mpos_set h, List.length_set]
    by_cases hk : k' = k
    · subst hk
      rw [if_pos (by simpa using h), if_pos rfl]
      simp [cellAt, h, CV.int]
    · rw [if_neg hk]
      by_cases h2 : mposL c k' < c.length
      · rw [if_pos (by simpa using h2), if_pos (by simpa using h2)]
        have hne : mposL c k ≠ mposL c k' := fun e => hk (by
          have a := mpos_at h
          have b := mpos_at h2
          rw [e] at a
          exact b.symm.trans a)
        simp [cellAt, hne]
      · rw [if_neg (by simpa using h2), if_neg (by simpa using h2)]
  · rw [if_neg h]
    unfold mget
    rw [mpos_app h, List.length_append]
    have hn := mpos_le c k
    by_cases hk : k' = k
    · subst hk
      rw [if_neg h, if_pos rfl, if_pos (by simp; omega), if_pos rfl]
      simp [cellAt, CV.int]
    · rw [if_neg hk, if_neg hk]
      by_cases h2 : mposL c k' < c.length
      · rw [if_pos h2, if_pos (by simp; omega), if_pos (by simpa using h2)]
        simp [cellAt, h2, List.getElem?_append_left]
      · rw [if_neg h2, if_neg (by simp), if_neg (by simpa using h2)]
def cntM (A : List (List V3)) (m : ByteArray) : Int := (A.countP fun L => decide (bs (markL L) = m) : Nat)
theorem cntM_snoc (A : List (List V3)) (L : List V3) (m : ByteArray) : cntM (A ++ [L]) m = cntM A m + if m = bs (markL L) then 1 else 0 := by
  unfold cntM
  rw [List.countP_append]
  by_cases h : m = bs (markL L)
  · subst h; simp
  · have h2 : ¬ bs (markL L) = m := fun e => h e.symm
    simp [h, h2]
theorem cntM_in {A : List (List V3)} {L : List V3} (h : L ∈ A) : 1 ≤ cntM A (bs (markL L)) := by
  have : 0 < A.countP fun M => decide (bs (markL M) = bs (markL L)) := List.countP_pos_iff.2 ⟨L, h, by simp⟩
  unfold cntM
  omega
theorem cntM_out {A : List (List V3)} {L : List V3} (hA : ∀ M ∈ A, RowOk M) (hL : RowOk L) (h : L ∉ A) : cntM A (bs (markL L)) = 0 := by
  have : A.countP (fun M => decide (bs (markL M) = bs (markL L))) = 0 := List.countP_eq_zero.2 fun M hM hb => by
    have hb : bs (markL M) = bs (markL L) := by simpa using hb
    rw [bs_inj] at hb
    exact h (markL_inj M L (hA M hM).2 hL.2 hb ▸ hM)
  unfold cntM
  omega
theorem cntM_le (A : List (List V3)) (m : ByteArray) : 0 ≤ cntM A m ∧ cntM A m ≤ A.length := by
  have : A.countP (fun L => decide (bs (markL L) = m)) ≤ A.length := List.countP_le_length
  unfold cntM
  omega
end Go.Proofs.Ytdgjcdhomfhfpaa
namespace Go.Proofs.Ytdgjcdhomfhfpaa
open Go.RowKit Go.ChangeShapes Go.WideShapes
set_option linter.unusedSimpArgs false
set_option linter.unusedVariables false

theorem CVRs.at {w : World} {X : Nat → Prop} : ∀ {cs : List CV} {rs : List Value}, CVRs w X cs rs → ∀ (f : Nat) (c : CV), cs[f]? = some c → ∃ r, rs[f]? = some r ∧ CVR w X c r
  | [], [], _, f, c, h => by simp at h
  | c0 :: cs, r :: rs, hr, 0, c, h => by
    simp only [CVRs] at hr
    simp only [List.getElem?_cons_zero, Option.some.injEq] at h
    subst h
    exact ⟨r, rfl, hr.1⟩
  | c0 :: cs, r :: rs, hr, f + 1, c, h => by
    simp only [CVRs] at hr
    simp only [List.getElem?_cons_succ] at h ⊢
    exact CVRs.at hr.2 f c h
  | [], _ :: _, hr, _, _, _ => by simp only [CVRs] at hr
  | _ :: _, [], hr, _, _, _ => by simp only [CVRs] at hr
theorem CVRs.len {w : World} {X : Nat → Prop} : ∀ {cs : List CV} {rs : List Value}, CVRs w X cs rs → cs.length = rs.length
  | [], [], _ => rfl
  | c0 :: cs, r :: rs, hr => by
    simp only [CVRs] at hr
    simp only [List.length_cons, CVRs.len hr.2]
  | [], _ :: _, hr => by simp only [CVRs] at hr
  | _ :: _, [], hr => by simp only [CVRs] at hr
theorem ret_ofF {P : Program} {f : FuncId} {args : List DV} (hent : CanEnter P f) (h : FnC P f args (bD true)) (vs : Array Value) (w : World) (hg : Glo w) (hv : DVRs w (fun _ => False) args vs.toList) : Calls P f vs w (Ret (.bool true) w) := by
  have := h.calls hent w (fun _ => False) vs.toList hg (fun _ h => h.elim) hv
  refine Calls.mono (by simpa using this) ?_
  rintro e w' ⟨v, rfl, hr, hb⟩
  simp only [DVR] at hr
  cases hr
  exact ⟨rfl, hb⟩
section
variable {H : Type} {enc : TypeId × Value → H} {P : Program} {W : World}
/-- a slice, cell by cell -/
theorem slice_cells {t e : TypeId} (ht : P.underlying t = some (.slice e)) (hpos : 0 < P.cellsOf e) (Q : List CV → Prop)
    (hel : ∀ n cs x, DataW.trod enc P W 0 (fun _ => true) true n e cs = some x → ∃ el : List CV, CVRs W (fun _ => False) el cs ∧ Q el)
    {fuel : Nat} {v : Value} {x : DataW H × List MemPlace} (hsp : ∀ a c, v = .slice (some a) 0 c → a.spot = none) (h : DataW.trod enc P W 0 (fun _ => true) true fuel t [v] = some x) :
    ∃ els : List (List CV), CVR W (fun _ => False) (.vs els) v ∧ (∀ el ∈ els, Q el) ∧ els.length ≤ maxLen := by
  rcases Go.Deep.open_slice ht h with ⟨h0, _⟩ | ⟨a, len, cap, m, n, D, Pl, hv, hb, hl, hm, hmm, _, hx⟩
  · simp only [List.cons.injEq, and_true] at h0
    subst h0
    exact ⟨[], .nil _, by simp, Nat.zero_le _⟩
  · simp only [List.cons.injEq, and_true] at hv
    subst hv
    have hmm : m = cap := by simpa using hmm
    subst hmm
    have each : ∀ i, i < len → ∃ q : List CV × List Value, W.cells? 0 (a.add (i * P.cellsOf e)) (P.cellsOf e) = some q.2 ∧ CVRs W (fun _ => False) q.1 q.2 ∧ Q q.1 := fun i hi => by
      obtain ⟨cs', h1, h2⟩ := hx i (by omega)
      obtain ⟨el, h3, h4⟩ := hel _ _ _ h2
      exact ⟨(el, cs'), h1, h3, h4⟩
    obtain ⟨q, hq⟩ := Go.Deep.choose_lt each
    have hl1 : ((List.range len).map fun i => (q i).1).length = len := by simp
    have hin : ∀ (i : Nat) (el : List CV), ((List.range len).map fun i => (q i).1)[i]? = some el → i < len ∧ el = (q i).1 := fun i el hi => by
      by_cases h : i < len
      · rw [List.getElem?_map, List.getElem?_range h] at hi
        simp only [Option.map_some, Option.some.injEq] at hi
        exact ⟨h, hi.symm⟩
      · rw [List.getElem?_eq_none (by simp; omega)] at hi
        cases hi
    have hlen : ∀ i, i < len → (q i).1.length = P.cellsOf e ∧ (q i).2.length = P.cellsOf e := fun i hi => by
      obtain ⟨h1, h2, _⟩ := hq i hi
      obtain ⟨_, h3, _⟩ := World.cells?_some h1
      exact ⟨by rw [CVRs.len h2, h3], h3⟩
    refine ⟨(List.range len).map fun i => (q i).1, ?_, ?_, by rw [hl1]; omega⟩
    · have hspot : a.spot = none := by
        by_cases h0 : len = 0
        · subst h0; exact hsp a m rfl
        · obtain ⟨h1, _, _⟩ := hq 0 (by omega)
          obtain ⟨_, h3, h4⟩ := World.cells?_some h1
          have h5 := h4 0 hpos
          rw [List.getElem?_eq_getElem (by omega)] at h5
          have := World.cell?_spot h5
          simpa [Addr.add] using this
      obtain ⟨b, o, spot⟩ := a
      have hspot : spot = none := hspot
      subst hspot
      have hc := CVR.vs (w := W) (X := fun _ => False) ((List.range len).map fun i => (q i).1) b o (P.cellsOf e) m (fun i f => ((q i).2[f]?).getD default)
        (fun el hel => by
          simp only [List.mem_map, List.mem_range] at hel
          obtain ⟨i, hi, rfl⟩ := hel
          exact (hlen i hi).1)
        (by rw [hl1]; exact hl)
        (fun i el hi f cv hf => by
          obtain ⟨hj, rfl⟩ := hin i el hi
          have hf2 : f < P.cellsOf e := by
            rw [← (hlen i hj).1]
            exact (List.getElem?_eq_some_iff.1 hf).1
          obtain ⟨h1, h2, _⟩ := hq i hj
          obtain ⟨_, h3, h4⟩ := World.cells?_some h1
          have h5 := h4 f hf2
          rw [Go.WideShapes.add_plain, Go.WideShapes.add_plain, List.getElem?_eq_getElem (by omega)] at h5
          refine ⟨fun h => h, ?_⟩
          rw [h5, List.getElem?_eq_getElem (by omega)]; rfl)
        (fun i el hi f cv hf => by
          obtain ⟨hj, rfl⟩ := hin i el hi
          obtain ⟨_, h2, _⟩ := hq i hj
          obtain ⟨r, hr, hv⟩ := h2.at f cv hf
          rw [hr]; exact hv)
      rwa [hl1] at hc
    · intro el hel
      simp only [List.mem_map, List.mem_range] at hel
      obtain ⟨i, hi, rfl⟩ := hel
      exact (hq i hi).2.2
theorem slice_arg {t e : TypeId} (ht : P.underlying t = some (.slice e)) (hpos : 0 < P.cellsOf e) (Q : List CV → Prop)
    (hel : ∀ n cs x, DataW.trod enc P W 0 (fun _ => true) true n e cs = some x → ∃ el : List CV, CVRs W (fun _ => False) el cs ∧ Q el)
    {v : Value} {d : DataW H} {ps : List MemPlace} (hval : Value.okWide P W .any 0 t v) (h : DataW.Trod enc P W 0 (fun _ => true) true t v d ps) :
    ∃ els : List (List CV), CVR W (fun _ => False) (.vs els) v ∧ (∀ el ∈ els, Q el) ∧ els.length ≤ maxLen := by
  obtain ⟨fuel, h⟩ := h
  unfold Value.okWide at hval
  rw [ht] at hval
  simp only [] at hval
  have hc : v.cells.toList = [v] := by
    cases v <;> first | rfl | (exfalso; unfold Cell.okWide Cell.ok at hval; rw [ht] at hval; exact hval)
  rw [hc] at h
  refine slice_cells ht hpos Q hel (fun a c e => ?_) h
  subst e
  unfold Cell.okWide Cell.ok at hval
  rw [ht] at hval
  exact hval.2.2.2.1
/-- the cells of a value of three fields -/
theorem val_cells {t : TypeId} {f0 f1 f2 : Field} (ht : P.underlying t = some (.struct #[f0, f1, f2])) (ct : P.cellsOf t = 3) (o0 : f0.offset = 0) (o1 : f1.offset = 1) (o2 : f2.offset = 2)
    (c0 : P.cellsOf f0.type = 1) (c1 : P.cellsOf f1.type = 1) (c2 : P.cellsOf f2.type = 1) (h0 : P.underlying f0.type = some (.int .i64)) (h1 : P.underlying f1.type = some (.int .i64)) (h2 : P.underlying f2.type = some .string)
    (n : Nat) (cs : List Value) (x : DataW H × List MemPlace) (h : DataW.trod enc P W 0 (fun _ => true) true n t cs = some x) :
    ∃ el : List CV, CVRs W (fun _ => False) el cs ∧ ∃ v : V3, el = [.v (.int .i64 v.1), .v (.int .i64 v.2.1), .v (.string (bs v.2.2))] ∧ I64 v.1 ∧ I64 v.2.1 ∧ v.2.2.length ≤ maxLen := by
  obtain ⟨xs, k, _, _, hl, hxl, hf⟩ := DataW.trod_struct ht h
  rw [ct] at hl
  match cs, hl, xs, hxl with
  | [a, b, c], _, [y0, y1, y2], _ =>
    have g0 := hf 0 f0 rfl
    have g1 := hf 1 f1 rfl
    have g2 := hf 2 f2 rfl
    simp [o0, o1, o2, c0, c1, c2] at g0 g1 g2
    obtain ⟨z0, e0, _, w0⟩ := DataW.trod_int h0 g0
    obtain ⟨z1, e1, _, w1⟩ := DataW.trod_int h1 g1
    obtain ⟨s, e2, _, w2⟩ := DataW.trod_string h2 g2
    simp only [List.cons.injEq, and_true] at e0 e1 e2
    subst e0 e1 e2
    refine ⟨[.v (.int .i64 z0), .v (.int .i64 z1), .v (.string s)], ?_, (z0, z1, s.data.toList), ?_, wf_i64 w0, wf_i64 w1, w2⟩
    · simp only [CVRs]
      exact ⟨.v _ rfl, .v _ rfl, .v _ rfl, trivial⟩
    · show _ = [_, _, CV.v (.string (bs s.data.toList))]
      rw [← bs_of s]
end
end Go.Proofs.Ytdgjcdhomfhfpaa
namespace Go.Proofs.Ytdgjcdhomfhfpaa
open Go.RowKit Go.ChangeShapes Go.WideShapes Go.IntWalk
set_option linter.unusedSimpArgs false
set_option linter.unusedVariables false
section
variable {H : Type} {enc : TypeId × Value → H} {P : Program} {W : World}
/-- a slice, cell by cell; of an empty one that has no room no cell is looked at -/
theorem slice_cells0 {t e : TypeId} (ht : P.underlying t = some (.slice e)) (hpos : 0 < P.cellsOf e) (Q : List CV → Prop)
    (hel : ∀ n cs x, DataW.trod enc P W 0 (fun _ => true) true n e cs = some x → ∃ el : List CV, CVRs W (fun _ => False) el cs ∧ Q el)
    {fuel : Nat} {v : Value} {x : DataW H × List MemPlace} (h : DataW.trod enc P W 0 (fun _ => true) true fuel t [v] = some x) :
    ∃ els : List (List CV), CVR W (fun _ => False) (.vs els) v ∧ (∀ el ∈ els, Q el) ∧ els.length ≤ maxLen := by
  rcases Go.Deep.open_slice ht h with ⟨h0, _⟩ | ⟨a, len, cap, m, n, D, Pl, hv, hb, hl, hm, hmm, _, hx⟩
  · simp only [List.cons.injEq, and_true] at h0
    subst h0
    exact ⟨[], .nil _, by simp, Nat.zero_le _⟩
  · simp only [List.cons.injEq, and_true] at hv
    subst hv
    have hmm : m = cap := by simpa using hmm
    subst hmm
    by_cases hc0 : m = 0
    · subst hc0
      have : len = 0 := by omega
      subst this
      exact ⟨[], .nil _, by simp, Nat.zero_le _⟩
    · refine slice_cells ht hpos Q hel (fun a' c e => ?_) h
      simp only [Value.slice.injEq, Option.some.injEq] at e
      obtain ⟨rfl, _, _⟩ := e
      obtain ⟨cs', h1, _⟩ := hx 0 (by omega)
      obtain ⟨_, h3, h4⟩ := World.cells?_some h1
      have h5 := h4 0 hpos
      rw [List.getElem?_eq_getElem (by omega)] at h5
      have := World.cell?_spot h5
      simpa [Addr.add] using this
/-- the cells of a key -/
theorem key_cells {t : TypeId} {f0 f1 f2 : Field} (ht : P.underlying t = some (.struct #[f0, f1, f2])) (ct : P.cellsOf t = 3) (o0 : f0.offset = 0) (o1 : f1.offset = 1) (o2 : f2.offset = 2)
    (c0 : P.cellsOf f0.type = 1) (c1 : P.cellsOf f1.type = 1) (c2 : P.cellsOf f2.type = 1) (h0 : P.underlying f0.type = some (.int .i64)) (h1 : P.underlying f1.type = some (.int .i64)) (h2 : P.underlying f2.type = some .bool)
    (n : Nat) (cs : List Value) (x : DataW H × List MemPlace) (h : DataW.trod enc P W 0 (fun _ => true) true n t cs = some x) :
    ∃ el : List CV, CVRs W (fun _ => False) el cs ∧ ∃ k : K3, el = [.v (.int .i64 k.1), .v (.int .i64 k.2.1), .v (.bool k.2.2)] := by
  obtain ⟨xs, k, _, _, hl, hxl, hf⟩ := DataW.trod_struct ht h
  rw [ct] at hl
  match cs, hl, xs, hxl with
  | [a, b, c], _, [y0, y1, y2], _ =>
    have g0 := hf 0 f0 rfl
    have g1 := hf 1 f1 rfl
    have g2 := hf 2 f2 rfl
    simp [o0, o1, o2, c0, c1, c2] at g0 g1 g2
    obtain ⟨z0, e0, _, w0⟩ := DataW.trod_int h0 g0
    obtain ⟨z1, e1, _, w1⟩ := DataW.trod_int h1 g1
    obtain ⟨s, e2, _⟩ := DataW.trod_bool h2 g2
    simp only [List.cons.injEq, and_true] at e0 e1 e2
    subst e0 e1 e2
    refine ⟨[.v (.int .i64 z0), .v (.int .i64 z1), .v (.bool s)], ?_, (z0, z1, s), rfl⟩
    simp only [CVRs]
    exact ⟨.v _ rfl, .v _ rfl, .v _ rfl, trivial⟩
end
def ValOk (v : V3) : Prop := I64 v.1 ∧ I64 v.2.1 ∧ v.2.2.length ≤ maxLen
def ValsOk (L : List V3) : Prop := L.length ≤ maxLen ∧ ∀ v ∈ L, ValOk v
theorem vals_of : ∀ {els : List (List CV)}, (∀ el ∈ els, ∃ v : V3, el = [.v (.int .i64 v.1), .v (.int .i64 v.2.1), .v (.string (bs v.2.2))] ∧ I64 v.1 ∧ I64 v.2.1 ∧ v.2.2.length ≤ maxLen) →
    ∃ L : List V3, els = vc L ∧ ∀ v ∈ L, ValOk v
  | [], _ => ⟨[], rfl, by simp⟩
  | el :: els, h => by
    obtain ⟨v, rfl, hv⟩ := h el (by simp)
    obtain ⟨L, rfl, hL⟩ := vals_of (els := els) fun e he => h e (by simp [he])
    refine ⟨v :: L, rfl, fun u hu => ?_⟩
    rcases List.mem_cons.1 hu with rfl | hu
    · exact hv
    · exact hL u hu
theorem rows_of : ∀ {els : List (List CV)}, (∀ el ∈ els, ∃ L : List V3, el = [.vs (vc L)] ∧ ValsOk L) → ∃ LL : List (List V3), els = rcL LL ∧ ∀ L ∈ LL, ValsOk L
  | [], _ => ⟨[], rfl, by simp⟩
  | el :: els, h => by
    obtain ⟨v, rfl, hv⟩ := h el (by simp)
    obtain ⟨L, rfl, hL⟩ := rows_of (els := els) fun e he => h e (by simp [he])
    refine ⟨v :: L, rfl, fun u hu => ?_⟩
    rcases List.mem_cons.1 hu with rfl | hu
    · exact hv
    · exact hL u hu
theorem keys_of : ∀ {els : List (List CV)}, (∀ el ∈ els, ∃ k : K3, el = [.v (.int .i64 k.1), .v (.int .i64 k.2.1), .v (.bool k.2.2)]) → ∃ K : List K3, els = kc K
  | [], _ => ⟨[], rfl⟩
  | el :: els, h => by
    obtain ⟨v, rfl⟩ := h el (by simp)
    obtain ⟨K, rfl⟩ := keys_of (els := els) fun e he => h e (by simp [he])
    exact ⟨v :: K, rfl⟩
set_option maxRecDepth 100000 in
theorem val_trod {H : Type} {enc : TypeId × Value → H} {W : World} (n : Nat) (cs : List Value) (x : DataW H × List MemPlace) (h : DataW.trod enc Try.prog W 0 (fun _ => true) true n 38 cs = some x) :
    ∃ el : List CV, CVRs W (fun _ => False) el cs ∧ ∃ v : V3, el = [.v (.int .i64 v.1), .v (.int .i64 v.2.1), .v (.string (bs v.2.2))] ∧ I64 v.1 ∧ I64 v.2.1 ∧ v.2.2.length ≤ maxLen :=
  val_cells Try.underlying38 (by kernel_rfl) rfl rfl rfl (by kernel_rfl) (by kernel_rfl) (by kernel_rfl) Try.underlying3 Try.underlying2 Try.underlying9 n cs x h
set_option maxRecDepth 100000 in
theorem vals_arg {H : Type} {enc : TypeId × Value → H} {W : World} {v : Value} {d : DataW H} {ps : List MemPlace} (hval : Value.okWide Try.prog W .any 0 34 v) (h : DataW.Trod enc Try.prog W 0 (fun _ => true) true 34 v d ps) :
    ∃ L : List V3, CVR W (fun _ => False) (.vs (vc L)) v ∧ (∀ v ∈ L, ValOk v) ∧ L.length ≤ maxLen := by
  obtain ⟨els, h1, h2, h3⟩ := slice_arg Try.underlying34 (of_decide_eq_true (by kernel_rfl)) _ (fun n cs x h => val_trod n cs x h) hval h
  obtain ⟨L, rfl, hL⟩ := vals_of h2
  exact ⟨L, h1, hL, by rwa [vc_len] at h3⟩
set_option maxRecDepth 100000 in
theorem keys_arg {H : Type} {enc : TypeId × Value → H} {W : World} {v : Value} {d : DataW H} {ps : List MemPlace} (hval : Value.okWide Try.prog W .any 0 22 v) (h : DataW.Trod enc Try.prog W 0 (fun _ => true) true 22 v d ps) :
    ∃ K : List K3, CVR W (fun _ => False) (.vs (kc K)) v := by
  obtain ⟨els, h1, h2, h3⟩ := slice_arg Try.underlying22 (of_decide_eq_true (by kernel_rfl)) _ (key_cells Try.underlying55 (by kernel_rfl) rfl rfl rfl (by kernel_rfl) (by kernel_rfl) (by kernel_rfl) Try.underlying3 Try.underlying3 Try.underlying4) hval h
  obtain ⟨K, rfl⟩ := keys_of h2
  exact ⟨K, h1⟩
set_option maxRecDepth 100000 in
theorem row_trod {H : Type} {enc : TypeId × Value → H} {W : World} (n : Nat) (cs : List Value) (x : DataW H × List MemPlace) (h : DataW.trod enc Try.prog W 0 (fun _ => true) true n 34 cs = some x) :
    ∃ el : List CV, CVRs W (fun _ => False) el cs ∧ ∃ L : List V3, el = [.vs (vc L)] ∧ ValsOk L := by
  have hone : ∃ v, cs = [v] := by
    rcases Go.Deep.open_slice Try.underlying34 h with ⟨h0, _⟩ | ⟨a, len, cap, m, n, D, Pl, hv, _⟩
    · exact ⟨_, h0⟩
    · exact ⟨_, hv⟩
  obtain ⟨v, rfl⟩ := hone
  obtain ⟨els, h1, h2, h3⟩ := slice_cells0 Try.underlying34 (of_decide_eq_true (by kernel_rfl)) _ (fun n cs x h => val_trod n cs x h) h
  obtain ⟨L, rfl, hL⟩ := vals_of h2
  refine ⟨[.vs (vc L)], ?_, L, rfl, by rwa [vc_len] at h3, hL⟩
  simp only [CVRs]
  exact ⟨h1, trivial⟩
set_option maxRecDepth 100000 in
theorem rows_arg {H : Type} {enc : TypeId × Value → H} {W : World} {v : Value} {d : DataW H} {ps : List MemPlace} (hval : Value.okWide Try.prog W .any 0 23 v) (h : DataW.Trod enc Try.prog W 0 (fun _ => true) true 23 v d ps) :
    ∃ LL : List (List V3), CVR W (fun _ => False) (.vs (rcL LL)) v ∧ (∀ L ∈ LL, ValsOk L) ∧ LL.length ≤ maxLen := by
  obtain ⟨els, h1, h2, h3⟩ := slice_arg Try.underlying23 (of_decide_eq_true (by kernel_rfl)) _ (fun n cs x h => row_trod n cs x h) hval h
  obtain ⟨LL, rfl, hL⟩ := rows_of h2
  exact ⟨LL, h1, hL, by rwa [rcL_len] at h3⟩
theorem vs_D {w : World} {c : List (List CV)} {v : Value} (h : CVR w (fun _ => False) (.vs c) v) : DVR w (fun _ => False) (.c (.vs c)) v := by
  simp only [DVR]; exact h
end Go.Proofs.Ytdgjcdhomfhfpaa
