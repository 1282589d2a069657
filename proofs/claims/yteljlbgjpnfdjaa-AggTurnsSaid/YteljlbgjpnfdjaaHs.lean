/- Aggregates: plain laws: the order of values, repeated values, the average between the least and the greatest. No condition. -/
import Derived.Test.YteljlbgjpnfdjaaGz
namespace Go.Proofs.Yteljlbgjpnfdjaa
open Go.RowKit Go.IntWalk
set_option linter.unusedSimpArgs false
set_option linter.unusedVariables false

/-- values that are the same by order are the same -/
theorem cmp0_eq {a b : V3} (ha : checkV a = 0) (hb : checkV b = 0) (h : cmpV a b 0 = 0) : a = b := by
  have can : ∀ v : V3, checkV v = 0 → ¬ (v.1 < 0 ∨ 3 < v.1 ∨ (v.1 ≠ 1 ∧ v.2.1 ≠ 0) ∨ (v.1 < 2 ∧ v.2.2 ≠ [])) := fun v hv hn => by
    unfold checkV at hv
    rw [if_pos hn] at hv
    exact absurd hv (by decide)
  have ca := can a ha
  have cb := can b hb
  obtain ⟨ka, na, sa⟩ := a
  obtain ⟨kb, nb, sb⟩ := b
  simp only [cmpV] at h ca cb
  have ci : ∀ x y : Int, cmpI x y = 0 → x = y := fun x y h => by
    unfold cmpI at h
    split at h
    · cases h
    · split at h
      · cases h
      · omega
  by_cases hk : ka = kb
  · subst hk
    rw [if_neg (fun h => h rfl)] at h
    by_cases h1 : ka = 1
    · subst h1
      rw [if_pos rfl] at h
      have e := ci _ _ h
      have s1 : sa = [] := Classical.byContradiction fun e => ca (.inr (.inr (.inr ⟨by omega, e⟩)))
      have s2 : sb = [] := Classical.byContradiction fun e => cb (.inr (.inr (.inr ⟨by omega, e⟩)))
      rw [e, s1, s2]
    · rw [if_neg h1] at h
      have n1 : na = 0 := Classical.byContradiction fun e => ca (.inr (.inr (.inl ⟨h1, e⟩)))
      have n2 : nb = 0 := Classical.byContradiction fun e => cb (.inr (.inr (.inl ⟨h1, e⟩)))
      by_cases h2 : ka = 2
      · subst h2
        rw [if_pos rfl, if_neg (by decide)] at h
        rw [n1, n2, ob_eq _ _ h]
      · rw [if_neg h2] at h
        by_cases h3 : ka = 3
        · subst h3
          rw [if_pos rfl] at h
          rw [n1, n2, ob_eq _ _ h]
        · have h0 : ka < 2 := by
            have : ¬ 3 < ka := fun e => ca (.inr (.inl e))
            omega
          have s1 : sa = [] := Classical.byContradiction fun e => ca (.inr (.inr (.inr ⟨h0, e⟩)))
          have s2 : sb = [] := Classical.byContradiction fun e => cb (.inr (.inr (.inr ⟨h0, e⟩)))
          rw [n1, n2, s1, s2]
  · rw [if_pos hk] at h
    exact absurd (ci _ _ h) hk
theorem any_mem {K : List V3} {v : V3} (hK : ∀ x ∈ K, checkV x = 0) (hv : checkV v = 0) : (K.any fun x => cmpV x v 0 == 0) = true ↔ v ∈ K := by
  rw [List.any_eq_true]
  constructor
  · rintro ⟨x, hx, h⟩
    have := cmp0_eq (hK x hx) hv (by simpa using h)
    rw [← this]
    exact hx
  · intro h
    exact ⟨v, h, by simpa using (fineO_cmpV 0).refl v⟩
/-- what is kept of values that may be -/
def kStep (d : Bool) (K : List V3) (v : V3) : List V3 := if v.1 = 0 then K else if d = true ∧ (K.any fun x => cmpV x v 0 == 0) = true then K else K ++ [v]
def kAll (d : Bool) (l : List V3) : List V3 := l.foldl (kStep d) []
def Fine (num : Bool) (l : List V3) : Prop := ∀ v ∈ l, checkV v = 0 ∧ (num = true → v.1 = 0 ∨ v.1 = 1)
theorem fine_at {num : Bool} {l : List V3} (h : Fine num l) (i : Nat) (hi : i < l.length) : checkV (l.getD i nul) = 0 ∧ (num = true → (l.getD i nul).1 = 0 ∨ (l.getD i nul).1 = 1) := by
  rw [List.getD_eq_getElem?_getD, List.getElem?_eq_getElem hi]
  exact h _ (List.getElem_mem hi)
theorem addL_step {num d : Bool} {K : List V3} {v : V3} (h : checkV v = 0) (hn : num = true → v.1 = 0 ∨ v.1 = 1) : addL num d K v = (kStep d K v, 0) := by
  unfold addL kStep
  rw [if_neg (by simpa using h)]
  by_cases h0 : v.1 = 0
  · rw [if_pos h0, if_pos h0]
  · rw [if_neg h0, if_neg h0, if_neg (by rintro ⟨a, b⟩; rcases hn a with c | c; exact h0 c; exact b c)]
    split <;> rfl
theorem stL_fine {num d : Bool} {l : List V3} (h : Fine num l) : ∀ i, i ≤ l.length → stL num d l i = (kAll d (l.take i), 0)
  | 0, _ => rfl
  | i + 1, hi => by
    have h1 := stL_fine (d := d) h i (by omega)
    obtain ⟨c1, c2⟩ := fine_at h i (by omega)
    rw [stL_up h1, addL_step c1 c2, take_up (by omega)]
    simp [kAll]
theorem ofL_fine {num d : Bool} {E : List V3 → V3 × Int} {l : List V3} (h : Fine num l) : ofL num E d l = E (kAll d l) := by
  have := stL_fine (d := d) h l.length (Nat.le_refl _)
  rw [List.take_length] at this
  exact ofL_end this
theorem kStep_mem {d : Bool} {K : List V3} {v : V3} (hK : ∀ x ∈ K, checkV x = 0) (hv : checkV v = 0) (x : V3) : x ∈ kStep d K v ↔ x ∈ K ∨ (x = v ∧ v.1 ≠ 0) := by
  unfold kStep
  by_cases h0 : v.1 = 0
  · rw [if_pos h0]; simp [h0]
  · rw [if_neg h0]
    split
    · rename_i h
      have hm := (any_mem hK hv).1 h.2
      constructor
      · exact .inl
      · rintro (h | ⟨rfl, _⟩)
        · exact h
        · exact hm
    · simp [h0]
theorem kfold_mem (d : Bool) : ∀ (l K : List V3), (∀ x ∈ l, checkV x = 0) → (∀ x ∈ K, checkV x = 0) → ∀ x, x ∈ l.foldl (kStep d) K ↔ x ∈ K ∨ (x ∈ l ∧ x.1 ≠ 0)
  | [], K, _, _, x => by simp
  | v :: l, K, hl, hK, x => by
    have hv := hl v (by simp)
    have hK' : ∀ y ∈ kStep d K v, checkV y = 0 := fun y hy => by
      rcases (kStep_mem hK hv y).1 hy with h | ⟨rfl, _⟩
      · exact hK y h
      · exact hv
    rw [List.foldl_cons, kfold_mem d l _ (fun y hy => hl y (by simp [hy])) hK', kStep_mem hK hv]
    constructor
    · rintro ((h | ⟨rfl, h⟩) | ⟨h, h2⟩)
      · exact .inl h
      · exact .inr ⟨by simp, h⟩
      · exact .inr ⟨by simp [h], h2⟩
    · rintro (h | ⟨h, h2⟩)
      · exact .inl (.inl h)
      · rcases List.mem_cons.1 h with rfl | h
        · exact .inl (.inr ⟨rfl, h2⟩)
        · exact .inr ⟨h, h2⟩
theorem kAll_mem (d : Bool) (l : List V3) (hl : ∀ x ∈ l, checkV x = 0) (x : V3) : x ∈ kAll d l ↔ x ∈ l ∧ x.1 ≠ 0 := by
  unfold kAll
  rw [kfold_mem d l [] hl (fun x h => by simp at h)]
  simp
theorem kfold_nodup : ∀ (l K : List V3), (∀ x ∈ l, checkV x = 0) → (∀ x ∈ K, checkV x = 0) → K.Nodup → (l.foldl (kStep true) K).Nodup
  | [], K, _, _, h => h
  | v :: l, K, hl, hK, h => by
    have hv := hl v (by simp)
    rw [List.foldl_cons]
    refine kfold_nodup l _ (fun y hy => hl y (by simp [hy])) (fun y hy => ?_) ?_
    · rcases (kStep_mem hK hv y).1 hy with h | ⟨rfl, _⟩
      · exact hK y h
      · exact hv
    · unfold kStep
      split
      · exact h
      · split
        · exact h
        · rename_i h1 h2
          have : v ∉ K := fun hm => h2 ⟨rfl, (any_mem hK hv).2 hm⟩
          rw [List.nodup_append]
          refine ⟨h, by simp, ?_⟩
          intro a ha b hb e
          rw [List.mem_singleton] at hb
          subst e hb
          exact this ha
theorem kfold_false : ∀ (l K : List V3), l.foldl (kStep false) K = K ++ l.filter (fun v => v.1 ≠ 0)
  | [], K => by simp
  | v :: l, K => by
    rw [List.foldl_cons, kfold_false l]
    unfold kStep
    by_cases h : v.1 = 0
    · rw [if_pos h]; simp [h]
    · rw [if_neg h, if_neg (by simp)]; simp [h]
theorem kAll_false (l : List V3) : kAll false l = l.filter (fun v => v.1 ≠ 0) := by
  unfold kAll
  rw [kfold_false]
  simp
/-- turned round, what is kept is the same but for its order -/
theorem kAll_rev (d : Bool) (l : List V3) (hl : ∀ x ∈ l, checkV x = 0) : (kAll d l.reverse).Perm (kAll d l) := by
  cases d
  · rw [kAll_false, kAll_false, List.filter_reverse]
    exact List.reverse_perm _
  · have hr : ∀ x ∈ l.reverse, checkV x = 0 := fun x hx => hl x (List.mem_reverse.1 hx)
    refine (List.perm_ext_iff_of_nodup (kfold_nodup _ _ hr (fun x h => by simp at h) List.nodup_nil) (kfold_nodup _ _ hl (fun x h => by simp at h) List.nodup_nil)).2 fun x => ?_
    have h1 := kAll_mem true l.reverse hr x
    have h2 := kAll_mem true l hl x
    unfold kAll at h1 h2
    rw [h1, h2, List.mem_reverse]
/-- each twice: a distinct one is the same -/
theorem kAll_twice (l : List V3) (hl : ∀ x ∈ l, checkV x = 0) : kAll true (l ++ l) = kAll true l := by
  have : ∀ (m K : List V3), (∀ x ∈ m, checkV x = 0) → (∀ x ∈ K, checkV x = 0) → (∀ x ∈ m, x.1 ≠ 0 → x ∈ K) → m.foldl (kStep true) K = K := by
    intro m
    induction m with
    | nil => intro K _ _ _; rfl
    | cons v m ih =>
      intro K hm hK hin
      have e : kStep true K v = K := by
        unfold kStep
        by_cases h : v.1 = 0
        · rw [if_pos h]
        · rw [if_neg h, if_pos ⟨rfl, (any_mem hK (hm v (by simp))).2 (hin v (by simp) h)⟩]
      rw [List.foldl_cons, e]
      exact ih K (fun x hx => hm x (by simp [hx])) hK (fun x hx => hin x (by simp [hx]))
  unfold kAll
  rw [List.foldl_append]
  have hm := kAll_mem true l hl
  unfold kAll at hm
  exact this l _ hl (fun x hx => hl x ((hm x).1 hx).1) (fun x hx h => (hm x).2 ⟨hx, h⟩)
/- results, whatever the order -/
theorem sumN_cons (v : V3) (K : List V3) : sumN (v :: K) = v.2.1 + sumN K := by
  have : ∀ (K : List V3) (a : Int), K.foldl (fun s v => s + v.2.1) a = a + K.foldl (fun s v => s + v.2.1) 0 := by
    intro K
    induction K with
    | nil => intro a; simp
    | cons b K ih => intro a; rw [List.foldl_cons, List.foldl_cons, ih, ih (0 + b.2.1)]; omega
  unfold sumN
  rw [List.foldl_cons, this]
  omega
theorem sumN_perm {K L : List V3} (h : K.Perm L) : sumN K = sumN L := by
  induction h with
  | nil => rfl
  | cons x _ ih => rw [sumN_cons, sumN_cons, ih]
  | swap x y l => simp only [sumN_cons]; omega
  | trans _ _ a b => rw [a, b]
theorem best_least (mx : Bool) (K : List V3) : ∀ x ∈ K, (mx = false → cmpV (bestL mx K) x 0 ≤ 0) ∧ (mx = true → 0 ≤ cmpV (bestL mx K) x 0) := by
  have hO := fineO_cmpV 0
  have key : ∀ n (K : List V3), K.length = n → ∀ x ∈ K, (mx = false → cmpV (bestL mx K) x 0 ≤ 0) ∧ (mx = true → 0 ≤ cmpV (bestL mx K) x 0) := by
    intro n
    induction n with
    | zero => intro K h x hx; rw [List.length_eq_zero_iff.1 h] at hx; simp at hx
    | succ n ih =>
      intro K h x hx
      have hne : K ≠ [] := fun e => by rw [e] at h; simp at h
      obtain ⟨M, v, rfl⟩ : ∃ M v, K = M ++ [v] := ⟨K.dropLast, K.getLast hne, (List.dropLast_concat_getLast hne).symm⟩
      have hM : M.length = n := by simp at h; exact h
      rw [best_put]
      rcases List.mem_append.1 hx with hx | hx
      · have i1 := ih M hM x hx
        split
        · rename_i hc
          rcases hc with rfl | ⟨rfl, hc⟩ | ⟨rfl, hc⟩
          · simp at hx
          · refine ⟨fun _ => hO.trans v (bestL false M) x (by omega) (i1.1 rfl), fun h => by cases h⟩
          · refine ⟨(fun h => by cases h), fun _ => ?_⟩
            have s1 := hO.swap (bestL true M) v
            have s2 := hO.swap x (bestL true M)
            have s3 := hO.swap x v
            have j1 := i1.2 rfl
            have := hO.trans x (bestL true M) v (by have := hO.swap (bestL true M) x; omega) (by omega)
            omega
        · exact i1
      · rw [List.mem_singleton.1 hx]
        have hr := hO.refl v
        split
        · exact ⟨fun _ => by omega, fun _ => by omega⟩
        · rename_i hc
          have s := hO.swap v (bestL mx M)
          refine ⟨fun hm => ?_, fun hm => ?_⟩
          · have : ¬ cmpV v (bestL mx M) 0 < 0 := fun h => hc (.inr (.inl ⟨hm, h⟩))
            omega
          · have : ¬ 0 < cmpV v (bestL mx M) 0 := fun h => hc (.inr (.inr ⟨hm, h⟩))
            omega
  exact key K.length K rfl
theorem best_perm (mx : Bool) {K L : List V3} (h : K.Perm L) (hK : ∀ x ∈ K, checkV x = 0) : bestL mx K = bestL mx L := by
  by_cases h0 : K = []
  · subst h0
    rw [List.nil_perm.1 h]
  · have h1 : L ≠ [] := fun e => by subst e; exact h0 (List.perm_nil.1 h)
    have mK := best_mem mx K h0
    have mL := best_mem mx L h1
    have a := best_least mx K _ (h.mem_iff.2 mL)
    have b := best_least mx L _ (h.mem_iff.1 mK)
    have hO := fineO_cmpV 0
    have s := hO.swap (bestL mx K) (bestL mx L)
    refine cmp0_eq (hK _ mK) (hK _ (h.mem_iff.2 mL)) ?_
    cases mx
    · have := a.1 rfl; have := b.1 rfl; omega
    · have := a.2 rfl; have := b.2 rfl; omega
theorem perm_nil_iff {K L : List V3} (h : K.Perm L) : K = [] ↔ L = [] := by
  constructor
  · rintro rfl; exact List.nil_perm.1 h
  · rintro rfl; exact List.perm_nil.1 h
theorem endC_perm {K L : List V3} (h : K.Perm L) : endC K = endC L := by unfold endC; rw [h.length_eq]
theorem endS_perm (t : Bool) {K L : List V3} (h : K.Perm L) : endS t K = endS t L := by
  unfold endS
  rw [sumN_perm h]
  by_cases h0 : K = []
  · rw [if_pos h0, if_pos ((perm_nil_iff h).1 h0)]
  · rw [if_neg h0, if_neg (fun e => h0 ((perm_nil_iff h).2 e))]
theorem endA_perm {K L : List V3} (h : K.Perm L) : endA K = endA L := by
  unfold endA
  rw [sumN_perm h, h.length_eq]
  by_cases h0 : K = []
  · rw [if_pos h0, if_pos ((perm_nil_iff h).1 h0)]
  · rw [if_neg h0, if_neg (fun e => h0 ((perm_nil_iff h).2 e))]
theorem endB_perm (mx : Bool) {K L : List V3} (h : K.Perm L) (hK : ∀ x ∈ K, checkV x = 0) : endB mx K = endB mx L := by unfold endB; rw [best_perm mx h hK]
/-- the average lies between -/
theorem sum_between (a b : Int) : ∀ K : List V3, (∀ x ∈ K, a ≤ x.2.1 ∧ x.2.1 ≤ b) → a * (K.length : Int) ≤ sumN K ∧ sumN K ≤ b * (K.length : Int)
  | [], _ => by simp [sumN]
  | v :: K, h => by
    have h1 := sum_between a b K (fun x hx => h x (by simp [hx]))
    have h2 := h v (by simp)
    rw [sumN_cons, List.length_cons, Int.natCast_add, Int.mul_add, Int.mul_add]
    omega
theorem avg_between {S n a b : Int} (hn : 0 < n) (h1 : a * n ≤ S) (h2 : S ≤ b * n) : a ≤ S.tdiv n ∧ S.tdiv n ≤ b := by
  have hd := Int.mul_tdiv_add_tmod S n
  have t1 := Int.lt_tmod_of_pos S hn
  have t2 := Int.tmod_lt_of_pos S hn
  generalize S.tdiv n = T at *
  generalize S.tmod n = r at *
  refine ⟨?_, ?_⟩
  · by_cases h : a ≤ T
    · exact h
    · have := Int.mul_le_mul_of_nonneg_right (show T + 1 ≤ a by omega) (Int.le_of_lt hn)
      rw [Int.add_mul, Int.mul_comm T n] at this
      omega
  · by_cases h : T ≤ b
    · exact h
    · have := Int.mul_le_mul_of_nonneg_right (show b + 1 ≤ T by omega) (Int.le_of_lt hn)
      rw [Int.add_mul, Int.mul_comm T n] at this
      omega
end Go.Proofs.Yteljlbgjpnfdjaa
