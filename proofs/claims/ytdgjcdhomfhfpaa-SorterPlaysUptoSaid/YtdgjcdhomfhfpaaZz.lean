/- The parts of Go's stable sort over rows that are not looked into: a predicate says what a row is. Conditions: texts, rows and keys that a machine can hold. Printed by gen_sortq.py. slices.Clone of a row of values: a copy in memory of the call's own. Conditions: at most 2^20 values. Sort and Unique of package order hand back rows in new memory. Conditions: at most 2^20 rows of at most 2^20 values, texts and keys that a machine can hold. -/
import Derived.Test.YtdgjcdhomfhfpaaAbZ
import Derived.Test.YtdgjcdhomfhfpaaOz
import Derived.Test.YtdgjcdhomfhfpaaBase
import Derived.OwnWalk
import Derived.Deep.LoopGhost
import Derived.Lib.SliceRun
import Derived.Shelf.RegionOpenPlain
import Derived.Lib.Walk
namespace Go.Proofs.Ytdgjcdhomfhfpaa
open Go.RowKit Go.IntWalk
set_option linter.unusedSimpArgs false
set_option linter.unusedVariables false

/-- keys; what a row is; and that two such rows can be compared -/
structure KQ where
  K : List K3
  Q : List V3 → World → Value → Prop
  hc : ∀ a b, SzR a → SzR b → K.length ≤ Lim → FnC Try.prog 33 [.c (.sem (Q a)), .c (.sem (Q b)), .box [.vs (kc K)] 0] (iD (cmpR a b K))
def rE (Q : List V3 → World → Value → Prop) (N : Nat) (f : Nat → List V3) : List (List CV) := (List.range N).map fun k => [.sem (Q (f k))]
section
variable {Q : List V3 → World → Value → Prop}
theorem rE_len (N : Nat) (f : Nat → List V3) : (rE Q N f).length = N := by simp [rE]
theorem rE_sz (N : Nat) (f : Nat → List V3) : ∀ el ∈ rE Q N f, el.length = 1 := by
  intro el h
  simp only [rE, List.mem_map] at h
  obtain ⟨v, _, rfl⟩ := h
  rfl
theorem rE_get (N : Nat) (f : Nat → List V3) (i : Nat) (h : i < N) : (rE Q N f).getD i [] = [.sem (Q (f i))] := by simp [rE, h]
theorem rE_k (N : Nat) (f : Nat → List V3) (i : Int) (h0 : 0 ≤ i) (h : i < N) : [12] = ((((rE Q N f).getD i.toNat []).drop 0).take 1).map kindC := by rw [rE_get N f _ (by omega)]; rfl
theorem rE_0 (N : Nat) (f : Nat → List V3) (i : Int) (h0 : 0 ≤ i) (h : i < N) : cellAt (rE Q N f) i 0 = .sem (Q (f i.toNat)) := by simp only [cellAt]; rw [rE_get N f _ (by omega)]; rfl
theorem rE_set (N : Nat) (f : Nat → List V3) (j : Nat) (x : List V3) (h : j < N) : (rE Q N f).set j (overL ((rE Q N f).getD j []) 0 [.sem (Q x)]) = rE Q N (updF f j x) := by
  rw [rE_get N f j h]
  apply List.ext_getElem?
  intro i
  by_cases hi : i < N
  · by_cases e : i = j
    · subst e
      rw [List.getElem?_set_self (by rw [rE_len]; exact h)]
      simp [rE, updF, hi, overL]
    · rw [List.getElem?_set_ne (fun h => e h.symm)]
      simp [rE, updF, hi, e]
  · rw [List.getElem?_eq_none (by rw [List.length_set, rE_len]; omega), List.getElem?_eq_none (by rw [rE_len]; omega)]
theorem rE_take (N : Nat) (f : Nat → List V3) (n : Nat) (h : n = N) : (rE Q N f).take n = rE Q N f := by
  exact List.take_of_length_le (by rw [rE_len]; omega)
theorem rE_congr {N : Nat} {f g : Nat → List V3} (h : ∀ k, k < N → f k = g k) : rE Q N f = rE Q N g := by
  unfold rE
  apply List.map_congr_left
  intro k hk
  rw [h k (List.mem_range.1 hk)]
end
theorem q_swapRange (K : KQ) (N : Nat) (f : Nat → List V3) (a b n : Nat) (hN : N ≤ Lim) (h1 : a + n ≤ b) (h2 : b + n ≤ N) :
    FnM Try.prog rowM 62 [.c (.vs (rE K.Q N f)), iD a, iD b, iD n, closK K.K] (.c (.vs (rE K.Q N (swrF f a b n)))) := by
  refine z62_row_33 (rE K.Q N f) a b n [[.vs (kc K.K)]] (fun _ => by rw [rE_len, rE_len]) ?_
  have hm : Lim = 4611686018427387903 := rfl
  rw [rE_len]
  refine ⟨fun x i m => ∃ I : Nat, i = I ∧ I ≤ n ∧ x = rE K.Q N (swrF f a b I) ∧ m = n - I, ⟨_, 0, rfl, by omega, rE_congr fun k _ => by unfold swrF; rw [if_neg (by omega), if_neg (by omega)], rfl⟩, ?_⟩
  rintro m x i ⟨I, rfl, hI, rfl, rfl⟩
  rw [rE_len]
  refine ⟨fun hi => ?_, fun hi => ?_⟩
  · have e1 : IntKind.wrap .i64 ((b : Int) + I) = ((b + I : Nat) : Int) := by rw [i64_in _ (by omega)]; omega
    have e2 : IntKind.wrap .i64 ((a : Int) + I) = ((a + I : Nat) : Int) := by rw [i64_in _ (by omega)]; omega
    rw [e1, e2]
    refine ⟨by omega, rE_k _ _ _ (by omega) (by omega), by omega, rE_k _ _ _ (by omega) (by omega), by omega, by omega, fun x7 hx7 => ?_⟩
    rw [rE_0 _ _ _ (by omega) (by omega), Int.toNat_natCast, Int.toNat_natCast, rE_set _ _ _ _ (by omega)] at hx7
    subst hx7
    rw [rE_len]
    refine ⟨by omega, by omega, fun x8 hx8 => ?_⟩
    rw [rE_0 _ _ _ (by omega) (by omega), Int.toNat_natCast, Int.toNat_natCast, rE_set _ _ _ _ (by omega)] at hx8
    subst hx8
    refine ⟨n - (I + 1), by omega, I + 1, by rw [i64_in _ (by omega)]; omega, by omega, rE_congr fun k _ => ?_, rfl⟩
    simp only [updF, swrF]
    (repeat' split) <;> first | rfl | (congr 1; omega) | omega
  · obtain rfl : I = n := by omega
    rfl
theorem q_rotate (K : KQ) (N : Nat) (f : Nat → List V3) (a m b : Nat) (hN : N ≤ Lim) (h1 : a < m) (h2 : m < b) (h3 : b ≤ N) :
    FnM Try.prog rowM 60 [.c (.vs (rE K.Q N f)), iD a, iD m, iD b, closK K.K] (.c (.vs (rE K.Q N (rotF f a m b)))) := by
  refine z60_row_33 (rE K.Q N f) a m b [[.vs (kc K.K)]] (fun _ => by rw [rE_len, rE_len]) ?_
  have hm : Lim = 4611686018427387903 := rfl
  rw [rE_len]
  refine ⟨fun x i j k => ∃ (I J : Nat) (f' : Nat → List V3), i = I ∧ j = J ∧ 1 ≤ I ∧ 1 ≤ J ∧ I ≤ m - a ∧ J ≤ b - m ∧ x = rE K.Q N f' ∧ rotF f' (m - I) m (m + J) = rotF f a m b ∧ k = I + J, ⟨_, m - a, b - m, f, by rw [i64_in _ (by omega)]; omega, by rw [i64_in _ (by omega)]; omega, by omega, by omega, by omega, by omega, rfl, by rw [show m - (m - a) = a by omega, show m + (b - m) = b by omega], rfl⟩, ?_⟩
  rintro k x i j ⟨I, J, f', rfl, rfl, hI1, hJ1, hI, hJ, rfl, hf, rfl⟩
  rw [rE_len]
  have et : (rE K.Q N f').take (N : Int).toNat = rE K.Q N f' := rE_take N f' _ (by omega)
  rw [et]
  have e1 : IntKind.wrap .i64 ((m : Int) - I) = ((m - I : Nat) : Int) := by rw [i64_in _ (by omega)]; omega
  rw [e1]
  refine ⟨fun hne => ⟨fun hlt => ⟨by omega, by omega, by omega, _, q_swapRange K N f' (m - I) m J hN (by omega) (by omega), ?_⟩, fun hlt => ⟨by omega, by omega, by omega, ?_⟩⟩, fun he => ⟨by omega, by omega, by omega, ?_⟩⟩
  · refine ⟨(I - J) + J, by omega, I - J, J, _, by rw [i64_in _ (by omega)]; omega, rfl, by omega, by omega, by omega, by omega, rfl, ?_, rfl⟩
    rw [← hf]
    funext k
    simp only [rotF, swrF]
    (repeat' split) <;> first | rfl | (congr 1; omega) | omega
  · have e2 : IntKind.wrap .i64 (IntKind.wrap .i64 ((m : Int) + J) - I) = ((m + J - I : Nat) : Int) := by
      rw [i64_in ((m : Int) + J) (by omega), i64_in _ (by omega)]; omega
    rw [e2]
    refine ⟨_, q_swapRange K N f' (m - I) (m + J - I) I hN (by omega) (by omega), I + (J - I), by omega, I, J - I, _, rfl, by rw [i64_in _ (by omega)]; omega, by omega, by omega, by omega, by omega, rfl, ?_, rfl⟩
    rw [← hf]
    funext k
    simp only [rotF, swrF]
    (repeat' split) <;> first | rfl | (congr 1; omega) | omega
  · have he : I = J := by omega
    subst he
    refine ⟨_, q_swapRange K N f' (m - I) m I hN (by omega) (by omega), ?_⟩
    congr 3
    rw [← hf]
    funext k
    simp only [rotF, swrF]
    (repeat' split) <;> first | rfl | (congr 1; omega) | omega
theorem q_insSort (K : KQ) (N : Nat) (f g : Nat → List V3) (a b : Nat) (hK : K.K.length ≤ Lim) (hN : N ≤ Lim) (hab : a ≤ b) (hb : b ≤ N) (hz : ∀ k, SzR (f k)) (hm : Mv (cR K.K) f g a b) (hs : Asc (cR K.K) g a b) :
    FnM Try.prog rowM 53 [.c (.vs (rE K.Q N f)), iD a, iD b, closK K.K] (.c (.vs (rE K.Q N g))) := by
  refine z53_row_33 (rE K.Q N f) a b [[.vs (kc K.K)]] (fun _ => by rw [rE_len, rE_len]) ?_
  have hL : Lim = 4611686018427387903 := rfl
  have hF := fineO_cmpR K.K
  rw [rE_len]
  refine ⟨fun x i k => ∃ (I : Nat) (f' : Nat → List V3), i = I ∧ a + 1 ≤ I ∧ (I ≤ b ∨ (I = a + 1 ∧ b = a)) ∧ x = rE K.Q N f' ∧ Mv (cR K.K) f f' a b ∧ Asc (cR K.K) f' a I ∧ k = b - I, ⟨_, a + 1, f, by rw [i64_in _ (by omega)]; omega, Nat.le_refl _, by omega, rfl, Mv.refl _ _ _, fun i j h1 h2 h3 => by omega, rfl⟩, ?_⟩
  rintro k x i ⟨I, f', rfl, hI1, hI2, rfl, hm', hs', rfl⟩
  refine ⟨fun hi => ?_, fun hi => ?_⟩
  · refine ⟨fun x j k => ∃ (J : Nat) (f2 : Nat → List V3), j = J ∧ a ≤ J ∧ J ≤ I ∧ x = rE K.Q N f2 ∧ Mv (cR K.K) f f2 a b ∧ Asc (cR K.K) f2 a J ∧ Asc (cR K.K) f2 J (I + 1) ∧ (∀ p q, a ≤ p → p < J → J < q → q < I + 1 → cR K.K (f2 p) (f2 q) ≤ 0) ∧ k = J + 1, ⟨_, I, f', rfl, by omega, Nat.le_refl _, rfl, hm', hs', fun i j h1 h2 h3 => by omega, fun p q h1 h2 h3 h4 => by omega, rfl⟩, ?_⟩
    rintro k x j ⟨J, f2, rfl, hJ1, hJ2, rfl, hm2, hsl, hsr, hx, rfl⟩
    have e1 : a < J → IntKind.wrap .i64 ((J : Int) - 1) = ((J - 1 : Nat) : Int) := fun h => by rw [i64_in _ (by omega)]; omega
    refine ⟨fun h => by omega, fun h => rE_k _ _ _ (by omega) (by omega), fun h => by rw [e1 (by omega)]; omega, fun h => by rw [e1 (by omega)]; exact rE_k _ _ _ (by omega) (by omega), cmpR (f2 J) (f2 (J - 1)) K.K, fun h => ?_, fun h => ?_, fun h => ?_⟩
    · rw [e1 (by omega), rE_0 _ _ _ (by omega) (by omega), rE_0 _ _ _ (by omega) (by omega), Int.toNat_natCast, Int.toNat_natCast]
      exact K.hc _ _ (hm2.szr hF hz _) (hm2.szr hF hz _) hK
    · obtain ⟨h1, h2⟩ := h
      have hJ0 : a < J := by omega
      rw [e1 hJ0]
      refine ⟨by omega, rE_k _ _ _ (by omega) (by omega), by omega, rE_k _ _ _ (by omega) (by omega), by omega, by rw [rE_len]; omega, fun x9 hx9 => ?_⟩
      rw [rE_0 _ _ _ (by omega) (by omega), Int.toNat_natCast, Int.toNat_natCast, rE_set _ _ _ _ (by omega)] at hx9
      subst hx9
      refine ⟨by omega, by rw [rE_len]; omega, fun x10 hx10 => ?_⟩
      rw [rE_0 _ _ _ (by omega) (by omega), Int.toNat_natCast, Int.toNat_natCast, rE_set _ _ _ _ (by omega)] at hx10
      subst hx10
      have hJ' : J - 1 + 1 = J := by omega
      have hne : cR K.K (f2 (J - 1)) (f2 (J - 1 + 1)) ≠ 0 := by
        rw [hJ']
        have := hF.swap (f2 (J - 1)) (f2 J)
        show cmpR (f2 (J - 1)) (f2 J) K.K ≠ 0
        omega
      have hlt : cR K.K (f2 J) (f2 (J - 1)) < 0 := h2
      refine ⟨J - 1 + 1, by omega, J - 1, swF f2 (J - 1), rfl, by omega, by omega, rE_congr fun k _ => ?_, hm2.trans ((Mv.swap hF f2 (J - 1) hne).wide (by omega) (by omega) (by omega)), fun p q g1 g2 g3 => ?_, fun p q g1 g2 g3 => ?_, fun p q g1 g2 g3 g4 => ?_, rfl⟩
      · simp only [updF, swF, hJ']
      · simp only [swF]
        rw [if_neg (by omega), if_neg (by omega), if_neg (by omega), if_neg (by omega)]
        exact hsl p q g1 g2 (by omega)
      · simp only [swF, hJ']
        by_cases c1 : p = J - 1
        · rw [if_pos c1]
          by_cases c2 : q = J
          · rw [if_neg (by omega), if_pos c2]; exact Int.le_of_lt hlt
          · rw [if_neg (by omega), if_neg c2]; exact hsr J q (Nat.le_refl _) (by omega) g3
        · rw [if_neg c1, if_neg (show ¬ q = J - 1 by omega), if_neg (show ¬ q = J by omega)]
          by_cases c2 : p = J
          · rw [if_pos c2]; exact hx (J - 1) q (by omega) (by omega) (by omega) g3
          · rw [if_neg c2]; exact hsr p q (by omega) g2 g3
      · simp only [swF, hJ']
        rw [if_neg (show ¬ p = J - 1 by omega), if_neg (show ¬ p = J by omega), if_neg (show ¬ q = J - 1 by omega)]
        by_cases c2 : q = J
        · rw [if_pos c2]; exact hsl p (J - 1) g1 g2 (by omega)
        · rw [if_neg c2]; exact hx p q g1 (by omega) (by omega) g4
    · refine ⟨b - (I + 1), by omega, I + 1, f2, by rw [i64_in _ (by omega)]; omega, by omega, by omega, rfl, hm2, fun p q g1 g2 g3 => ?_, rfl⟩
      by_cases c1 : q < J
      · exact hsl p q g1 g2 c1
      · by_cases c2 : J ≤ p
        · exact hsr p q c2 g2 g3
        · by_cases c3 : J < q
          · exact hx p q g1 (by omega) c3 g3
          · obtain rfl : q = J := by omega
            have h0 : ¬ cR K.K (f2 q) (f2 (q - 1)) < 0 := fun h3 => h ⟨by omega, h3⟩
            have h5 := hF.swap (f2 (q - 1)) (f2 q)
            have h6 : cR K.K (f2 (q - 1)) (f2 q) ≤ 0 := by
              show cmpR (f2 (q - 1)) (f2 q) K.K ≤ 0
              have h7 : ¬ cmpR (f2 q) (f2 (q - 1)) K.K < 0 := h0
              omega
            exact hF.trans _ _ _ (hsl.le hF g1 (show p ≤ q - 1 by omega) (by omega)) h6
  · have : f' = g := hm'.uniq hF hm (hs'.sub (Nat.le_refl _) (by omega)) hs
    rw [this]

set_option maxHeartbeats 8000000 in
theorem q_symMerge (K : KQ) (hK : K.K.length ≤ Lim) (N : Nat) (hN : N ≤ Lim) : ∀ (n : Nat) (f g : Nat → List V3) (a m b : Nat), b - a ≤ n → a < m → m < b → b ≤ N → (∀ k, SzR (f k)) → Asc (cR K.K) f a m → Asc (cR K.K) f m b → Mv (cR K.K) f g a b → Asc (cR K.K) g a b →
    FnM Try.prog rowM 54 [.c (.vs (rE K.Q N f)), iD a, iD m, iD b, closK K.K] (.c (.vs (rE K.Q N g)))
  | 0, f, g, a, m, b, hn, h1, h2, h3, hz, s1, s2, hm, hs => by omega
  | n + 1, f, g, a, m, b, hn, h1, h2, h3, hz, s1, s2, hm, hs => by
    have hF := fineO_cmpR K.K
    have ih := q_symMerge K hK N hN n
    refine z54_row_33 (rE K.Q N f) a m b [[.vs (kc K.K)]] (fun _ => by rw [rE_len, rE_len]) ?_
    have hL : Lim = 4611686018427387903 := rfl
    have w1 : IntKind.wrap .i64 ((m : Int) - a) = ((m - a : Nat) : Int) := by rw [i64_in _ (by omega)]; omega
    have w2 : IntKind.wrap .i64 ((b : Int) - m) = ((b - m : Nat) : Int) := by rw [i64_in _ (by omega)]; omega
    rw [rE_len, w1, w2]
    refine ⟨fun hA => ?_, fun hA => ⟨fun hB => ?_, fun hB => ?_⟩⟩
    · -- one row on the left
      have hma : m = a + 1 := by omega
      subst hma
      obtain ⟨s, g1, g2, g3, g4⟩ := turns (fun k => decide (cR K.K (f k) (f a) < 0)) (b - (a + 1)) (a + 1) fun i j k1 k2 k3 hj => by
        simp only [decide_eq_true_eq] at hj ⊢
        have e1 := s2.le hF k1 k2 (by omega)
        have e2 := hF.trans _ _ _ e1 (Int.le_of_lt hj)
        have e3 : cR K.K (f i) (f a) ≤ 0 := e2
        by_cases e4 : cR K.K (f i) (f a) = 0
        · exfalso
          have z := hF.eq0 (a := f i) (b := f a) (c := f j) e4
          have y : cmpR (f j) (f a) K.K < 0 := hj
          have x := hF.swap (f a) (f j)
          have e1' : cmpR (f i) (f j) K.K ≤ 0 := e1
          omega
        · omega
      simp only [decide_eq_true_eq, decide_eq_false_iff_not] at g3 g4
      have hsb : s ≤ b := by omega
      refine ⟨fun i j k => ∃ I J : Nat, i = I ∧ j = J ∧ a + 1 ≤ I ∧ I ≤ s ∧ s ≤ J ∧ J ≤ b ∧ k = J - I, ⟨_, a + 1, b, rfl, rfl, Nat.le_refl _, g1, hsb, Nat.le_refl _, rfl⟩, ?_⟩
      rintro k i j ⟨I, J, rfl, rfl, i1, i2, i3, i4, rfl⟩
      rw [half_in I J (by omega)]
      refine ⟨fun hi => ?_, fun hi => ?_⟩
      · have hIJ : I < J := by omega
        refine ⟨by omega, rE_k _ _ _ (by omega) (by omega), by omega, rE_k _ _ _ (by omega) (by omega), ?_⟩
        rw [rE_0 _ _ _ (by omega) (by omega), rE_0 _ _ _ (by omega) (by omega), Int.toNat_natCast, Int.toNat_natCast]
        refine ⟨_, K.hc _ _ (hz _) (hz _) hK, fun h => ?_, fun h => ?_⟩
        · refine ⟨J - ((I + J) / 2 + 1), by omega, (I + J) / 2 + 1, J, by rw [i64_in _ (by omega)]; omega, rfl, by omega, ?_, i3, i4, rfl⟩
          by_cases hh : (I + J) / 2 + 1 ≤ s
          · exact hh
          · exact absurd h (g4 ((I + J) / 2) (by omega) (by omega))
        · refine ⟨(I + J) / 2 - I, by omega, I, (I + J) / 2, rfl, rfl, i1, i2, ?_, by omega, rfl⟩
          by_cases hh : s ≤ (I + J) / 2
          · exact hh
          · exact absurd (g3 ((I + J) / 2) (by omega) (by omega)) h
      · obtain rfl : I = s := by omega
        have w3 : IntKind.wrap .i64 ((I : Int) - 1) = ((I - 1 : Nat) : Int) := by rw [i64_in _ (by omega)]; omega
        rw [w3]
        refine ⟨fun x i k => ∃ M : Nat, i = M ∧ a ≤ M ∧ M ≤ I - 1 ∧ x = rE K.Q N (rotF f a (a + 1) (M + 1)) ∧ k = I - M, ⟨_, a, rfl, Nat.le_refl _, by omega, by rw [rotF_left f (.inr rfl)], rfl⟩, ?_⟩
        rintro k x i ⟨M, rfl, m1, m2, rfl, rfl⟩
        refine ⟨fun hi => ?_, fun hi => ?_⟩
        · have w4 : IntKind.wrap .i64 ((M : Int) + 1) = ((M + 1 : Nat) : Int) := by rw [i64_in _ (by omega)]; omega
          rw [w4]
          refine ⟨by omega, rE_k _ _ _ (by omega) (by omega), by omega, rE_k _ _ _ (by omega) (by omega), by omega, by rw [rE_len]; omega, fun x9 hx9 => ?_⟩
          rw [rE_0 _ _ _ (by omega) (by omega), Int.toNat_natCast, Int.toNat_natCast, rE_set _ _ _ _ (by omega)] at hx9
          subst hx9
          refine ⟨by omega, by rw [rE_len]; omega, fun x10 hx10 => ?_⟩
          rw [rE_0 _ _ _ (by omega) (by omega), Int.toNat_natCast, Int.toNat_natCast, rE_set _ _ _ _ (by omega)] at hx10
          subst hx10
          refine ⟨I - (M + 1), by omega, M + 1, rfl, by omega, by omega, rE_congr fun k _ => ?_, rfl⟩
          simp only [updF, rotF]
          (repeat' split) <;> first | rfl | (congr 1; omega) | omega
        · have hM : M + 1 = I := by omega
          rw [hM]
          have hmv : Mv (cR K.K) f (rotF f a (a + 1) I) a b := (Mv.rot hF f (by omega) (by omega) fun p q q1 q2 q3 q4 => by
            obtain rfl : p = a := by omega
            have e1 : cmpR (f q) (f p) K.K < 0 := g3 q q3 q4
            have e2 := hF.swap (f p) (f q)
            show cmpR (f p) (f q) K.K ≠ 0
            omega).wide (Nat.le_refl _) (by omega) hsb
          have : rotF f a (a + 1) I = g := by
            refine hmv.uniq hF hm (fun p q q1 q2 q3 => ?_) hs
            have key : ∀ k, rotF f a (a + 1) I k = if k < I - 1 ∧ a ≤ k then f (k + 1) else if k = I - 1 then f a else f k := fun k => by
              simp only [rotF]
              (repeat' split) <;> first | rfl | (congr 1; omega) | omega
            rw [key p, key q]
            by_cases c1 : q < I - 1
            · rw [if_pos ⟨by omega, by omega⟩, if_pos ⟨c1, by omega⟩]
              exact s2 _ _ (by omega) (by omega) (by omega)
            · rw [if_neg (show ¬ (q < I - 1 ∧ a ≤ q) from fun h => c1 h.1)]
              by_cases c2 : q = I - 1
              · rw [if_pos c2, if_pos ⟨by omega, q1⟩]
                exact Int.le_of_lt (g3 _ (by omega) (by omega))
              · rw [if_neg c2]
                by_cases c3 : p < I - 1
                · rw [if_pos ⟨c3, q1⟩]
                  exact s2 _ _ (by omega) (by omega) q3
                · rw [if_neg (fun h => c3 h.1)]
                  by_cases c4 : p = I - 1
                  · rw [if_pos c4]
                    have e1 : ¬ cmpR (f q) (f a) K.K < 0 := g4 q (by omega) (by omega)
                    have e2 := hF.swap (f a) (f q)
                    show cmpR (f a) (f q) K.K ≤ 0
                    omega
                  · rw [if_neg c4]
                    exact s2 _ _ (by omega) q2 q3
          rw [this]
    · -- one row on the right
      have hmb : b = m + 1 := by omega
      subst hmb
      obtain ⟨s, g1, g2, g3, g4⟩ := turns (fun k => decide (¬ cR K.K (f m) (f k) < 0)) (m - a) a fun i j k1 k2 k3 hj => by
        simp only [decide_eq_true_eq] at hj ⊢
        have e1 := s1.le hF k1 k2 (by omega)
        have e2 := hF.swap (f m) (f j)
        have e3 := hF.swap (f m) (f i)
        have hj' : ¬ cmpR (f m) (f j) K.K < 0 := hj
        have e4 := hF.trans (f i) (f j) (f m) e1 (by omega)
        show ¬ cmpR (f m) (f i) K.K < 0
        omega
      simp only [decide_eq_true_eq, decide_eq_false_iff_not, Classical.not_not] at g3 g4
      have hsm : s ≤ m := by omega
      refine ⟨fun i j k => ∃ I J : Nat, i = I ∧ j = J ∧ a ≤ I ∧ I ≤ s ∧ s ≤ J ∧ J ≤ m ∧ k = J - I, ⟨_, a, m, rfl, rfl, Nat.le_refl _, g1, hsm, Nat.le_refl _, rfl⟩, ?_⟩
      rintro k i j ⟨I, J, rfl, rfl, i1, i2, i3, i4, rfl⟩
      rw [half_in I J (by omega)]
      refine ⟨fun hi => ?_, fun hi => ?_⟩
      · have hIJ : I < J := by omega
        refine ⟨by omega, rE_k _ _ _ (by omega) (by omega), by omega, rE_k _ _ _ (by omega) (by omega), ?_⟩
        rw [rE_0 _ _ _ (by omega) (by omega), rE_0 _ _ _ (by omega) (by omega), Int.toNat_natCast, Int.toNat_natCast]
        refine ⟨_, K.hc _ _ (hz _) (hz _) hK, fun h => ?_, fun h => ?_⟩
        · refine ⟨J - ((I + J) / 2 + 1), by omega, (I + J) / 2 + 1, J, by rw [i64_in _ (by omega)]; omega, rfl, by omega, ?_, i3, i4, rfl⟩
          by_cases hh : (I + J) / 2 + 1 ≤ s
          · exact hh
          · exact absurd (g4 ((I + J) / 2) (by omega) (by omega)) h
        · refine ⟨(I + J) / 2 - I, by omega, I, (I + J) / 2, rfl, rfl, i1, i2, ?_, by omega, rfl⟩
          by_cases hh : s ≤ (I + J) / 2
          · exact hh
          · exact absurd (g3 ((I + J) / 2) (by omega) (by omega)) h
      · obtain rfl : I = s := by omega
        refine ⟨fun x i k => ∃ M : Nat, i = M ∧ I ≤ M ∧ M ≤ m ∧ x = rE K.Q N (rotF f M m (m + 1)) ∧ k = M + 1, ⟨_, m, rfl, hsm, Nat.le_refl _, by rw [rotF_left f (.inl rfl)], rfl⟩, ?_⟩
        rintro k x i ⟨M, rfl, m1, m2, rfl, rfl⟩
        refine ⟨fun hi => ?_, fun hi => ?_⟩
        · have w4 : IntKind.wrap .i64 ((M : Int) - 1) = ((M - 1 : Nat) : Int) := by rw [i64_in _ (by omega)]; omega
          rw [w4]
          refine ⟨by omega, rE_k _ _ _ (by omega) (by omega), by omega, rE_k _ _ _ (by omega) (by omega), by omega, by rw [rE_len]; omega, fun x9 hx9 => ?_⟩
          rw [rE_0 _ _ _ (by omega) (by omega), Int.toNat_natCast, Int.toNat_natCast, rE_set _ _ _ _ (by omega)] at hx9
          subst hx9
          refine ⟨by omega, by rw [rE_len]; omega, fun x10 hx10 => ?_⟩
          rw [rE_0 _ _ _ (by omega) (by omega), Int.toNat_natCast, Int.toNat_natCast, rE_set _ _ _ _ (by omega)] at hx10
          subst hx10
          refine ⟨M - 1 + 1, by omega, M - 1, rfl, by omega, by omega, rE_congr fun k _ => ?_, rfl⟩
          simp only [updF, rotF]
          (repeat' split) <;> first | rfl | (congr 1; omega) | omega
        · obtain rfl : M = I := by omega
          have hmv : Mv (cR K.K) f (rotF f M m (m + 1)) a (m + 1) := (Mv.rot hF f (by omega) (by omega) fun p q q1 q2 q3 q4 => by
            obtain rfl : q = m := by omega
            have e1 : cmpR (f q) (f p) K.K < 0 := g4 p q1 (by omega)
            have e2 := hF.swap (f p) (f q)
            show cmpR (f p) (f q) K.K ≠ 0
            omega).wide (by omega) (by omega) (Nat.le_refl _)
          have : rotF f M m (m + 1) = g := by
            refine hmv.uniq hF hm (fun p q q1 q2 q3 => ?_) hs
            have key : ∀ k, rotF f M m (m + 1) k = if k = M then f m else if M < k ∧ k ≤ m then f (k - 1) else f k := fun k => by
              simp only [rotF]
              (repeat' split) <;> first | rfl | (congr 1; omega) | omega
            rw [key p, key q]
            by_cases c1 : q < M
            · rw [if_neg (by omega), if_neg (by omega), if_neg (by omega), if_neg (by omega)]
              exact s1 _ _ q1 q2 (by omega)
            · by_cases c2 : q = M
              · rw [if_pos c2, if_neg (by omega), if_neg (by omega)]
                have e1 : ¬ cmpR (f m) (f p) K.K < 0 := g3 p q1 (by omega)
                have e2 := hF.swap (f m) (f p)
                show cmpR (f p) (f m) K.K ≤ 0
                omega
              · rw [if_neg c2, if_pos (show M < q ∧ q ≤ m by omega)]
                by_cases c3 : p = M
                · rw [if_pos c3]
                  exact Int.le_of_lt (g4 _ (by omega) (by omega))
                · rw [if_neg c3]
                  by_cases c4 : M < p
                  · rw [if_pos (by omega)]
                    exact s1 _ _ (by omega) (by omega) (by omega)
                  · rw [if_neg (by omega)]
                    exact s1.le hF q1 (by omega) (by omega)
          rw [this]
    · -- both sides have more rows
      obtain ⟨s, hc⟩ := cross_exists hF h1 h2 s1 s2
      obtain ⟨R1, R2, R3, R4, R5⟩ := hc.rot hF h1 h2 s1 s2 |>.2
      have R0 := (hc.rot hF h1 h2 s1 s2).1
      obtain ⟨r1, r2, r3, r4, r5, r6⟩ := cross_rng h1 h2
      have hlo := hc.lo
      have hhi := hc.hi
      have hse := r6 s hlo hhi
      generalize hd : (a + b) / 2 = d at *
      have hda : a < d := by omega
      have hdb : d < b := by omega
      generalize hf1 : rotF f s m (d + m - s) = f1 at *
      have hz1 : ∀ k, SzR (f1 k) := R0.szr hF hz
      obtain ⟨g1, m1, t1⟩ := srt_exists hF f1 a (d - a)
      rw [show a + (d - a) = d by omega] at m1 t1
      obtain ⟨g2, m2, t2⟩ := srt_exists hF g1 d (b - d)
      rw [show d + (b - d) = b by omega] at m2 t2
      have hz2 : ∀ k, SzR (g1 k) := m1.szr hF hz1
      obtain ⟨m3, t3⟩ := Asc.join hF (Nat.le_of_lt hda) (Nat.le_of_lt hdb) m1 m2 t1 t2 R5
      have hgg : g2 = g := (R0.trans m3).uniq hF hm t3 hs
      have wn : IntKind.wrap .i64 ((d : Int) + m) = ((d + m : Nat) : Int) := by rw [i64_in _ (by omega)]; omega
      have wp : IntKind.wrap .i64 (((d + m : Nat) : Int) - 1) = ((d + m - 1 : Nat) : Int) := by rw [i64_in _ (by omega)]; omega
      have wl : IntKind.wrap .i64 (((d + m : Nat) : Int) - b) = ((d + m : Nat) : Int) - b := i64_in _ (by omega)
      have we : IntKind.wrap .i64 (((d + m : Nat) : Int) - s) = ((d + m - s : Nat) : Int) := by rw [i64_in _ (by omega)]; omega
      have hR : ((s : Int) < m ∧ (m : Int) < ((d + m - s : Nat) : Int)) → FnM Try.prog rowM 60 [.c (.vs (rE K.Q N f)), iD s, iD m, iD ((d + m - s : Nat) : Int), closK K.K] (.c (.vs (rE K.Q N f1))) := fun h => by
        rw [← hf1]
        exact q_rotate K N f s m (d + m - s) hN (by omega) (by omega) (by omega)
      have hR' : ¬ ((s : Int) < m ∧ (m : Int) < ((d + m - s : Nat) : Int)) → f = f1 := fun h => by
        rw [← hf1]
        exact (rotF_left f (by omega)).symm
      have hA2 : ((a : Int) < s ∧ (s : Int) < d) → FnM Try.prog rowM 54 [.c (.vs (rE K.Q N f1)), iD a, iD s, iD d, closK K.K] (.c (.vs (rE K.Q N g1))) := fun h =>
        ih f1 g1 a s d (by omega) (by omega) (by omega) (by omega) hz1 R1 R2 m1 t1
      have hA' : ¬ ((a : Int) < s ∧ (s : Int) < d) → f1 = g1 := fun h =>
        (Mv.refl f1 a d).uniq hF m1 (by
          by_cases c1 : s = a
          · subst c1; exact R2
          · obtain rfl : s = d := by omega
            exact R1) t1
      have hB2 : ((d : Int) < ((d + m - s : Nat) : Int) ∧ ((d + m - s : Nat) : Int) < b) → FnM Try.prog rowM 54 [.c (.vs (rE K.Q N g1)), iD d, iD ((d + m - s : Nat) : Int), iD b, closK K.K] (.c (.vs (rE K.Q N g2))) := fun h =>
        ih g1 g2 d (d + m - s) b (by omega) (by omega) (by omega) h3 hz2 (fun p q q1 q2 q3 => by
          rw [m1.out p (.inr q1), m1.out q (.inr (by omega))]
          exact R3 p q q1 q2 q3) (fun p q q1 q2 q3 => by
          rw [m1.out p (.inr (by omega)), m1.out q (.inr (by omega))]
          exact R4 p q q1 q2 q3) m2 t2
      have hB' : ¬ ((d : Int) < ((d + m - s : Nat) : Int) ∧ ((d + m - s : Nat) : Int) < b) → g1 = g2 := fun h =>
        (Mv.refl g1 d b).uniq hF m2 (by
          by_cases c1 : d + m - s = d
          · rw [c1] at R4
            exact fun p q q1 q2 q3 => by
              rw [m1.out p (.inr q1), m1.out q (.inr (by omega))]
              exact R4 p q q1 q2 q3
          · have c2 : d + m - s = b := by omega
            rw [c2] at R3
            exact fun p q q1 q2 q3 => by
              rw [m1.out p (.inr q1), m1.out q (.inr (by omega))]
              exact R3 p q q1 q2 q3) t2
      have et : ∀ f : Nat → List V3, (rE K.Q N f).take (N : Int).toNat = rE K.Q N f := fun f => rE_take N f _ (by omega)
      have hcb := hc.below
      have hca := hc.above
      simp only [hd] at hcb hca
      rw [half_in a b (by omega), hd, wn, wp, wl]
      refine ⟨fun hc1 => ?_, fun hc1 => ?_⟩
      all_goals
        refine ⟨fun i j k => ∃ I J : Nat, i = I ∧ j = J ∧ lo0 a m b ≤ I ∧ I ≤ s ∧ s ≤ J ∧ J ≤ hi0 a m b ∧ k = J - I, ⟨_, lo0 a m b, hi0 a m b, by unfold lo0; rw [hd]; split <;> omega, by unfold hi0; rw [hd]; split <;> omega, Nat.le_refl _, hlo, hhi, Nat.le_refl _, rfl⟩, ?_⟩
        rintro k i j ⟨I, J, rfl, rfl, i1, i2, i3, i4, rfl⟩
        rw [half_in I J (by omega)]
        refine ⟨fun hi => ?_, fun hi => ?_⟩
        · have hIJ : I < J := by omega
          have hq := r5 ((I + J) / 2) (by omega) (by omega)
          have wq : IntKind.wrap .i64 (((d + m - 1 : Nat) : Int) - (((I + J) / 2 : Nat) : Int)) = ((d + m - 1 - (I + J) / 2 : Nat) : Int) := by rw [i64_in _ (by omega)]; omega
          rw [wq]
          refine ⟨by omega, rE_k _ _ _ (by omega) (by omega), by omega, rE_k _ _ _ (by omega) (by omega), ?_⟩
          rw [rE_0 _ _ _ (by omega) (by omega), rE_0 _ _ _ (by omega) (by omega), Int.toNat_natCast, Int.toNat_natCast]
          refine ⟨_, K.hc _ _ (hz _) (hz _) hK, fun h => ?_, fun h => ?_⟩
          · refine ⟨J - ((I + J) / 2 + 1), by omega, (I + J) / 2 + 1, J, by rw [i64_in _ (by omega)]; omega, rfl, by omega, ?_, i3, i4, rfl⟩
            by_cases hh : (I + J) / 2 + 1 ≤ s
            · exact hh
            · exact absurd (hca ((I + J) / 2) (by omega) (by omega)) h
          · refine ⟨(I + J) / 2 - I, by omega, I, (I + J) / 2, rfl, rfl, i1, i2, ?_, by omega, rfl⟩
            by_cases hh : s ≤ (I + J) / 2
            · exact hh
            · exact absurd (hcb ((I + J) / 2) (by omega) (by omega)) h
        · obtain rfl : I = s := by omega
          rw [we]
          refine ⟨fun q1 => ⟨_, hR q1, ?_⟩, fun q1 => ?_⟩
          · rw [rE_len, et]
            refine ⟨fun q2 => ⟨Int.le_refl _, Int.le_refl _, Int.le_refl _, _, hA2 q2, ?_⟩, fun q2 => ?_⟩
            · rw [rE_len, et]
              refine ⟨fun q3 => ⟨Int.le_refl _, Int.le_refl _, Int.le_refl _, _, hB2 q3, by rw [hgg]⟩, fun q3 => by rw [hB' q3, hgg]⟩
            · have hA2' := hA' q2
              rw [hA2']
              refine ⟨fun q3 => ⟨Int.le_refl _, Int.le_refl _, Int.le_refl _, _, hB2 q3, by rw [hgg]⟩, fun q3 => by rw [hB' q3, hgg]⟩
          · have hR2 := hR' q1
            rw [hR2]
            refine ⟨fun q2 => ⟨_, hA2 q2, ?_⟩, fun q2 => ?_⟩
            · rw [rE_len, et]
              refine ⟨fun q3 => ⟨Int.le_refl _, Int.le_refl _, Int.le_refl _, _, hB2 q3, by rw [hgg]⟩, fun q3 => by rw [hB' q3, hgg]⟩
            · have hA2' := hA' q2
              rw [hA2']
              refine ⟨fun q3 => ⟨_, hB2 q3, by rw [hgg]⟩, fun q3 => by rw [hB' q3, hgg]⟩
theorem q_stable (K : KQ) (N : Nat) (f g : Nat → List V3) (hK : K.K.length ≤ Lim) (hN : N ≤ 1152921504606846976) (hz : ∀ k, SzR (f k)) (hm : Mv (cR K.K) f g 0 N) (hs : Asc (cR K.K) g 0 N) :
    FnM Try.prog rowM 44 [.c (.vs (rE K.Q N f)), iD N, closK K.K] (.c (.vs (rE K.Q N g))) := by
  refine z44_row_33 (rE K.Q N f) N [[.vs (kc K.K)]] (fun _ => by rw [rE_len, rE_len]) ?_
  have hL : Lim = 4611686018427387903 := rfl
  have hF := fineO_cmpR K.K
  have et : ∀ f : Nat → List V3, (rE K.Q N f).take (N : Int).toNat = rE K.Q N f := fun f => rE_take N f _ (by omega)
  rw [rE_len]
  refine ⟨fun x i j k => ∃ (q : Nat) (f' : Nat → List V3), i = ((q * 20 : Nat) : Int) ∧ j = ((q * 20 + 20 : Nat) : Int) ∧ q * 20 ≤ N ∧ x = rE K.Q N f' ∧ Mv (cR K.K) f f' 0 N ∧ (∀ p, p < q → Asc (cR K.K) f' (p * 20) ((p + 1) * 20)) ∧ k = N + 20 - q * 20, ⟨_, 0, f, rfl, rfl, by omega, rfl, Mv.refl _ _ _, fun p h => by omega, rfl⟩, ?_⟩
  rintro k x i j ⟨q, f', rfl, rfl, hq, rfl, hm', hb', rfl⟩
  rw [rE_len, et]
  have hz' := hm'.szr hF hz
  refine ⟨fun hi => ⟨Int.le_refl _, Int.le_refl _, Int.le_refl _, ?_⟩, fun hi => ⟨Int.le_refl _, Int.le_refl _, Int.le_refl _, ?_⟩⟩
  · obtain ⟨g', m1, t1⟩ := srt_exists hF f' (q * 20) 20
    refine ⟨_, q_insSort K N f' g' (q * 20) (q * 20 + 20) hK (by omega) (by omega) (by omega) hz' m1 t1, N + 20 - (q + 1) * 20, by omega, q + 1, g', by congr 1; omega, by rw [i64_in _ (by omega)]; omega, by omega, rfl, hm'.trans (m1.wide (by omega) (by omega) (by omega)), fun p hp => ?_, rfl⟩
    by_cases c1 : p < q
    · intro a b h1 h2 h3
      rw [m1.out a (.inl (by omega)), m1.out b (.inl (by omega))]
      exact hb' p c1 a b h1 h2 h3
    · obtain rfl : p = q := by omega
      exact t1.sub (Nat.le_refl _) (by omega)
  · obtain ⟨g', m1, t1⟩ := srt_exists hF f' (q * 20) (N - q * 20)
    rw [show q * 20 + (N - q * 20) = N by omega] at m1 t1
    refine ⟨_, q_insSort K N f' g' (q * 20) N hK (by omega) hq (Nat.le_refl _) hz' m1 t1, ?_⟩
    have m2 : Mv (cR K.K) f g' 0 N := hm'.trans (m1.wide (by omega) (by omega) (Nat.le_refl _))
    have b2 : Blk (cR K.K) g' 20 N := fun p => by
      by_cases c1 : p < q
      · intro a b h1 h2 h3
        rw [m1.out a (.inl (by omega)), m1.out b (.inl (by omega))]
        exact hb' p c1 a b h1 h2 (by omega)
      · exact t1.sub (by omega) (by omega)
    refine ⟨fun x j k => ∃ (B : Nat) (f2 : Nat → List V3), j = B ∧ 1 ≤ B ∧ B ≤ 2 * N + 20 ∧ x = rE K.Q N f2 ∧ Mv (cR K.K) f f2 0 N ∧ Blk (cR K.K) f2 B N ∧ k = N - B, ⟨_, 20, g', rfl, by omega, by omega, rfl, m2, b2, rfl⟩, ?_⟩
    rintro k x j ⟨B, f2, rfl, hB1, hB2, rfl, m3, b3, rfl⟩
    have hz2 := m3.szr hF hz
    refine ⟨fun hi => ?_, fun hi => ?_⟩
    · have hBN : B < N := by omega
      have w2 : IntKind.wrap .i64 ((2 : Int) * B) = ((2 * B : Nat) : Int) := by rw [i64_in _ (by omega)]; omega
      have w3 : IntKind.wrap .i64 ((B : Int) * 2) = ((2 * B : Nat) : Int) := by rw [i64_in _ (by omega)]; omega
      rw [w2, w3]
      refine ⟨fun x i j k => ∃ (p A : Nat) (f3 : Nat → List V3), A = p * (2 * B) ∧ i = A ∧ j = ((A + 2 * B : Nat) : Int) ∧ A ≤ N ∧ x = rE K.Q N f3 ∧ Mv (cR K.K) f f3 0 N ∧ (∀ p', p' < p → Asc (cR K.K) f3 (p' * (2 * B)) ((p' + 1) * (2 * B))) ∧ (∀ k, A ≤ k → f3 k = f2 k) ∧ k = N - A, ⟨_, 0, 0, f2, by omega, rfl, by congr 1; omega, by omega, rfl, m3, fun p' h => by omega, fun _ _ => rfl, rfl⟩, ?_⟩
      rintro k x i j ⟨p, A, f3, hA, rfl, rfl, hAN, rfl, m4, b4, same, rfl⟩
      have hz3 := m4.szr hF hz
      rw [rE_len, et]
      have w4 : IntKind.wrap .i64 ((A : Int) + B) = ((A + B : Nat) : Int) := by rw [i64_in _ (by omega)]; omega
      have w5 : IntKind.wrap .i64 (((A + 2 * B : Nat) : Int) + ((2 * B : Nat) : Int)) = ((A + 2 * B + 2 * B : Nat) : Int) := by rw [i64_in _ (by omega)]; omega
      rw [w4, w5]
      have hA0 : 2 * p * B = A := by rw [hA, Nat.mul_comm 2 p, Nat.mul_assoc]
      have hA1 : (2 * p + 1) * B = A + B := by rw [Nat.add_mul, hA0]; omega
      have hA2 : (2 * p + 1 + 1) * B = A + 2 * B := by rw [Nat.add_mul, hA1]; omega
      have l1 : Asc (cR K.K) f3 A (min (A + B) N) := by
        have := b3 (2 * p)
        rw [hA0, hA1] at this
        intro a b h1 h2 h3
        rw [same a h1, same b (by omega)]
        exact this a b h1 h2 h3
      have l2 : Asc (cR K.K) f3 (A + B) (min (A + 2 * B) N) := by
        have := b3 (2 * p + 1)
        rw [hA1, hA2] at this
        intro a b h1 h2 h3
        rw [same a (by omega), same b (by omega)]
        exact this a b h1 h2 h3
      have lowp : ∀ p', p' < p → (p' + 1) * (2 * B) ≤ A := fun p' h => by
        rw [hA]
        exact Nat.mul_le_mul_right _ h
      have nxt : (p + 1) * (2 * B) = A + 2 * B := by rw [Nat.add_mul, ← hA]; omega
      -- what is left sorted, in blocks twice as great
      have done : ∀ f4 : Nat → List V3, Mv (cR K.K) f3 f4 A N → Asc (cR K.K) f4 A N → N < A + 2 * B → Blk (cR K.K) f4 (2 * B) N := fun f4 m5 t5 hlast p' => by
        by_cases c1 : p' < p
        · have := lowp p' c1
          intro a b h1 h2 h3
          rw [m5.out a (.inl (by omega)), m5.out b (.inl (by omega))]
          exact b4 p' c1 a b h1 h2 (by omega)
        · have c2 : A ≤ p' * (2 * B) := by
            rw [hA]
            exact Nat.mul_le_mul_right _ (by omega)
          exact t5.sub c2 (by omega)
      refine ⟨fun hj => ⟨Int.le_refl _, Int.le_refl _, Int.le_refl _, ?_⟩, fun hj => ⟨fun hm' => ⟨Int.le_refl _, Int.le_refl _, Int.le_refl _, ?_⟩, fun hm' => ?_⟩⟩
      · obtain ⟨g5, m5, t5⟩ := srt_exists hF f3 A (2 * B)
        refine ⟨_, q_symMerge K hK N (by omega) _ f3 g5 A (A + B) (A + 2 * B) (Nat.le_refl _) (by omega) (by omega) (by omega) hz3 (l1.sub (Nat.le_refl _) (by omega)) (l2.sub (Nat.le_refl _) (by omega)) m5 t5, N - (A + 2 * B), by omega, p + 1, A + 2 * B, g5, nxt.symm, rfl, rfl, by omega, rfl, m4.trans (m5.wide (by omega) (by omega) (by omega)), fun p' hp' => ?_, fun k hk => ?_, rfl⟩
        · by_cases c1 : p' < p
          · have := lowp p' c1
            intro a b h1 h2 h3
            rw [m5.out a (.inl (by omega)), m5.out b (.inl (by omega))]
            exact b4 p' c1 a b h1 h2 h3
          · obtain rfl : p' = p := by omega
            rw [nxt, ← hA]
            exact t5
        · rw [m5.out k (.inr hk)]
          exact same k (by omega)
      · obtain ⟨g5, m5, t5⟩ := srt_exists hF f3 A (N - A)
        rw [show A + (N - A) = N by omega] at m5 t5
        exact ⟨_, q_symMerge K hK N (by omega) _ f3 g5 A (A + B) N (Nat.le_refl _) (by omega) (by omega) (by omega) hz3 (l1.sub (Nat.le_refl _) (by omega)) (l2.sub (Nat.le_refl _) (by omega)) m5 t5, N - 2 * B, by omega, 2 * B, g5, rfl, by omega, by omega, rfl, m4.trans (m5.wide (by omega) hAN (Nat.le_refl _)), done g5 m5 t5 (by omega), rfl⟩
      · exact ⟨N - 2 * B, by omega, 2 * B, f3, rfl, by omega, by omega, rfl, m4, done f3 (Mv.refl _ _ _) (l1.sub (Nat.le_refl _) (by omega)) (by omega), rfl⟩
    · have := b3 0
      rw [show 0 * B = 0 by omega, show (0 + 1) * B = B by omega] at this
      rw [m3.uniq hF hm (this.sub (Nat.le_refl _) (by omega)) hs]
theorem q_sortStable (K : KQ) (N : Nat) (f g : Nat → List V3) (hK : K.K.length ≤ Lim) (hN : N ≤ 1152921504606846976) (hz : ∀ k, SzR (f k)) (hm : Mv (cR K.K) f g 0 N) (hs : Asc (cR K.K) g 0 N) :
    FnM Try.prog rowM 32 [.c (.vs (rE K.Q N f)), closK K.K] (.c (.vs (rE K.Q N g))) := by
  refine z32_row_33 (rE K.Q N f) [[.vs (kc K.K)]] (fun _ => by rw [rE_len, rE_len]) ?_
  rw [rE_len]
  exact ⟨_, q_stable K N f g hK hN hz hm hs, rfl⟩

end Go.Proofs.Ytdgjcdhomfhfpaa
namespace Go.Proofs.Ytdgjcdhomfhfpaa
open Go.RowKit Go.IntWalk Go.Lib
set_option linter.unusedSimpArgs false
set_option linter.unusedVariables false

abbrev zVal : Value := .agg #[.int .i64 0, .int .i64 0, .string ⟨#[]⟩]
theorem iVal : (Try.prog.info? 38).map (fun i => (i.zero, i.size, i.bytes)) = some (some zVal, 3, 32) := by kernel_rfl
set_option maxHeartbeats 2000000 in
set_option maxRecDepth 100000 in
theorem clone_own (ad : Addr) (n c : Nat) (news : List Value) (w : World) (hl : news.length = n * 3) (hn : n ≤ maxLen) (hbig : n * 32 ≤ 140737488355328)
    (hc : ∀ j u, news[j]? = some u → w.cell? (ad.add j) = some u) (h1 : ∀ u ∈ news, u.oneCell' = true) :
    Calls Try.prog 25 #[.slice (some ad) n c] w fun e w' => ∃ v', e = .returned v' ∧ w'.ownsRow w.heap.size 38 3 v' n news ∧ Below w.heap.size w w' := by
  have mixed := mixedAbZ
  have t22 := Try.underlying34
  obtain ⟨i0, hi, hz0, hz1, hz2⟩ := info_parts iVal
  have q22 : ∀ (w : World) (a : Option Addr) (n c n' c' : Nat), (binOp .eql 34 (.slice a n c) (.slice none n' c')).run Try.prog w = .ok (.bool a.isNone) w := fun w a n c n' c' => Lib.run_eql_slice_nil w _ _ a n c n' c' t22
  have A : Aside (∀ j u, news[j]? = some u → w.cell? (ad.add j) = some u) := hc
  clear hc
  go_enter Try.func25, Try.ntmps25
  go_wp2_with (at_builtin; refine wpList_append_own _ rfl _ _ 34 rfl w.heap.size 38 i0 zVal 3 32 t22 hi hz0 hz1 hz2 rfl (by decide) _ _ _ rfl (World.ownsRow_made w #[] 0 (Nat.le_refl _) (Nat.zero_le _) (by simp)) ad n c news rfl ?qc1 ?qc2 ?qc3 ?qc4 ?qc5 ?qc6 ?_)
  case qc1 => exact hl
  case qc2 =>
    intro j u hj
    exact Lib.cell?_alloc_some _ (A.out j u hj)
  case qc3 => exact h1
  case qc4 => rw [Nat.zero_add]; exact hn
  case qc5 => rw [Nat.zero_add]; exact hbig
  case qc6 => simp
  intro v' w1 hown hgrow hnil
  go_wp2
  go_ret
  refine ⟨v', rfl, by simpa using hown, ?_⟩
  exact ((Below.refl _ w).alloc (Nat.le_refl _) _).grown hgrow (by simp) (by intro k hk; simp [Value.ownBlock] at hk; omega)
set_option maxHeartbeats 1000000 in
theorem clone_nil (n c : Nat) (w : World) : Calls Try.prog 25 #[.slice none n c] w fun e w' => e = .returned (.slice none 0 0) ∧ w' = w := by
  have mixed := mixedAbZ
  have t22 := Try.underlying34
  have q22 : ∀ (w : World) (a : Option Addr) (n c n' c' : Nat), (binOp .eql 34 (.slice a n c) (.slice none n' c')).run Try.prog w = .ok (.bool a.isNone) w := fun w a n c n' c' => Lib.run_eql_slice_nil w _ _ a n c n' c' t22
  go_enter Try.func25, Try.ntmps25
  go_wp2
  go_ret
  exact ⟨rfl, rfl⟩

/- rows as they lie -/
def cellsV (v : V3) : List Value := [.int .i64 v.1, .int .i64 v.2.1, .string (bs v.2.2)]
def cellsL (L : List V3) : List Value := L.flatMap cellsV
theorem cellsL_len (L : List V3) : (cellsL L).length = L.length * 3 := by
  induction L with
  | nil => rfl
  | cons v L ih => simp only [cellsL, List.flatMap_cons, List.length_append] at ih ⊢; rw [ih]; simp [cellsV]; omega
theorem cellsL_get : ∀ (L : List V3) (j : Nat), (cellsL L)[j]? = (L[j / 3]?).bind fun v => (cellsV v)[j % 3]?
  | [], j => by simp [cellsL]
  | v :: L, j => by
    show (cellsV v ++ cellsL L)[j]? = _
    have h3 : (cellsV v).length = 3 := rfl
    by_cases h : j < 3
    · rw [List.getElem?_append_left (by omega), show j / 3 = 0 by omega, show j % 3 = j by omega]
      simp
    · rw [List.getElem?_append_right (by omega), h3, cellsL_get L (j - 3), show j / 3 = (j - 3) / 3 + 1 by omega, show j % 3 = (j - 3) % 3 by omega]
      simp
theorem cellsL_one (L : List V3) : ∀ u ∈ cellsL L, u.oneCell' = true := by
  intro u hu
  simp only [cellsL, List.mem_flatMap, cellsV, List.mem_cons, List.not_mem_nil, or_false] at hu
  obtain ⟨v, _, rfl | rfl | rfl⟩ := hu <;> rfl
/-- what a row is in memory of lo and beyond -/
def RowAt (lo : Nat) (L : List V3) (w : World) (r : Value) : Prop := w.ownsRow lo 38 3 r L.length (cellsL L)
/-- a row to be read; the memory has at least lo blocks -/
def RowQ (lo : Nat) (L : List V3) (w : World) (r : Value) : Prop := CVR w (fun _ => False) (.vs (vc L)) r ∧ lo ≤ w.heap.size
theorem vc_cell {L : List V3} {i : Nat} {v : V3} (h : L[i]? = some v) : (vc L)[i]? = some [.v (.int .i64 v.1), .v (.int .i64 v.2.1), .v (.string (bs v.2.2))] := by simp [vc, h]
/-- a row that reads as values, by its cells -/
theorem cells_of_cv {w : World} {X : Nat → Prop} {L : List V3} {b o sz : Nat} {g : Nat → Nat → Value} (hsz : ∀ el ∈ vc L, el.length = sz)
    (hcell : ∀ (i : Nat) (el : List CV), (vc L)[i]? = some el → ∀ (f : Nat) (cv : CV), el[f]? = some cv → ¬ X b ∧ w.cell? ⟨b, o + i * sz + f, none⟩ = some (g i f))
    (hval : ∀ (i : Nat) (el : List CV), (vc L)[i]? = some el → ∀ (f : Nat) (cv : CV), el[f]? = some cv → CVR w X cv (g i f)) :
    ∀ j u, (cellsL L)[j]? = some u → ¬ X b ∧ w.cell? ⟨b, o + j, none⟩ = some u := by
  intro j u hj
  rw [cellsL_get] at hj
  cases hv : L[j / 3]? with
  | none => rw [hv] at hj; cases hj
  | some v =>
    rw [hv] at hj
    simp only [Option.bind_some] at hj
    have he := vc_cell hv
    have h3 : sz = 3 := by
      have := hsz _ (List.mem_of_getElem? he)
      simpa using this.symm
    subst h3
    have hm : j % 3 < 3 := Nat.mod_lt _ (by omega)
    have hj2 : o + j / 3 * 3 + j % 3 = o + j := by omega
    generalize j % 3 = f at hj hm hj2
    have fin : ∀ x : Value, [CV.v (.int .i64 v.1), .v (.int .i64 v.2.1), .v (.string (bs v.2.2))][f]? = some (.v x) → u = x → ¬ X b ∧ w.cell? ⟨b, o + j, none⟩ = some u := fun x hx hu => by
      obtain ⟨h1, h2⟩ := hcell _ _ he f _ hx
      have h4 := hval _ _ he f _ hx
      cases h4
      rw [← hj2, h2, hu]
      exact ⟨h1, rfl⟩
    match f, hm with
    | 0, _ => simp only [cellsV, List.getElem?_cons_zero, Option.some.injEq] at hj; exact fin _ rfl hj.symm
    | 1, _ => simp only [cellsV, List.getElem?_cons_succ, List.getElem?_cons_zero, Option.some.injEq] at hj; exact fin _ rfl hj.symm
    | 2, _ => simp only [cellsV, List.getElem?_cons_succ, List.getElem?_cons_zero, Option.some.injEq] at hj; exact fin _ rfl hj.symm
/-- such a row, read -/
theorem RowAt.read {lo : Nat} {L : List V3} {w : World} {r : Value} (h : RowAt lo L w r) : CVR w (fun _ => False) (.vs (vc L)) r := by
  obtain ⟨hlen, ⟨rfl, h0⟩ | ⟨g, cap, cur, rfl, hlo, hg, hcap, hmax, hsz, htake⟩⟩ := h
  · rw [List.length_eq_zero_iff.1 h0]
    exact .nil _
  · have hl : (vc L).length = L.length := vc_len L
    rw [← hl]
    have hc : ∀ j u, (cellsL L)[j]? = some u → cur[j]? = some u := fun j u hj => by
      rw [← htake, List.getElem?_take] at hj
      split at hj
      · simpa using hj
      · cases hj
    refine .vs (vc L) g 0 3 cap (fun i f => cur.getD (i * 3 + f) (.bool false)) (vc_sz L) (by omega) (fun i el hi f cv hf => ?_) (fun i el hi f cv hf => ?_)
    all_goals
      obtain ⟨v, hv⟩ : ∃ v, L[i]? = some v := by
        cases h : L[i]? with
        | none => rw [List.getElem?_eq_none (by rw [vc_len]; exact List.getElem?_eq_none_iff.1 h)] at hi; cases hi
        | some v => exact ⟨v, rfl⟩
      rw [vc_cell hv] at hi
      simp only [Option.some.injEq] at hi
      subst hi
      have key : ∀ f, f < 3 → (cellsL L)[i * 3 + f]? = (cellsV v)[f]? := fun f hf => by
        rw [cellsL_get, show (i * 3 + f) / 3 = i by omega, hv, show (i * 3 + f) % 3 = f by omega]
        rfl
      have hf3 : f < 3 := (List.getElem?_eq_some_iff.1 hf).1
      obtain ⟨u, hu⟩ : ∃ u, (cellsV v)[f]? = some u := ⟨_, List.getElem?_eq_getElem (by simpa [cellsV] using hf3)⟩
      have hcu := hc _ u ((key f hf3).trans hu)
    · refine ⟨fun h => h, ?_⟩
      rw [cell_of_row w g _ cur _ (0, 0) hg, Nat.zero_add, hcu]
      simp [Array.getD_eq_getD_getElem?, hcu]
    · have e : cur.getD (i * 3 + f) (.bool false) = u := by simp [Array.getD_eq_getD_getElem?, hcu]
      rw [e]
      match f, hf3 with
      | 0, _ => simp [cellsV] at hu hf; subst hu hf; exact .v _ rfl
      | 1, _ => simp [cellsV] at hu hf; subst hu hf; exact .v _ rfl
      | 2, _ => simp [cellsV] at hu hf; subst hu hf; exact .v _ rfl
theorem RowAt.lo {lo : Nat} {L : List V3} {w : World} {r : Value} (h : RowAt lo L w r) {lo' : Nat} (hl : lo' ≤ lo) : RowAt lo' L w r := by
  obtain ⟨h1, h2 | ⟨g, cap, cur, h3, h4, h5⟩⟩ := h
  · exact ⟨h1, .inl h2⟩
  · exact ⟨h1, .inr ⟨g, cap, cur, h3, Nat.le_trans hl h4, h5⟩⟩
theorem RowAt.keep {lo : Nat} {L : List V3} {w w' : World} {r : Value} (h : RowAt lo L w r) (hk : ∀ b, lo ≤ b → b < w.heap.size → w'.heap[b]? = w.heap[b]?) : RowAt lo L w' r := by
  obtain ⟨h1, h2 | ⟨g, cap, cur, h3, h4, h5, h6⟩⟩ := h
  · exact ⟨h1, .inl h2⟩
  · exact ⟨h1, .inr ⟨g, cap, cur, h3, h4, by rw [hk g h4 (Array.getElem?_eq_some_iff.1 h5).1]; exact h5, h6⟩⟩
theorem RowAt.one {lo : Nat} {L : List V3} {w : World} {r : Value} (h : RowAt lo L w r) : r.oneCell' = true := by
  obtain ⟨_, ⟨rfl, _⟩ | ⟨_, _, _, rfl, _⟩⟩ := h <;> rfl
/-- one argument -/
theorem DVRs_one {w : World} {X : Nat → Prop} {d : DV} {vs : List Value} (h : DVRs w X [d] vs) : ∃ v, vs = [v] ∧ DVR w X d v := by
  match vs, h with
  | [v], h => simp only [DVRs, and_true] at h; exact ⟨v, rfl, h⟩
  | [], h => simp [DVRs] at h
  | _ :: _ :: _, h => simp [DVRs] at h
theorem DVR_sem {w : World} {X : Nat → Prop} {Q : World → Value → Prop} {v : Value} (h : DVR w X (.c (.sem Q)) v) : Q w v := by
  simp only [DVR] at h
  cases h with
  | sem _ _ _ hq => exact hq w (Nat.le_refl _) (fun _ _ _ => rfl)
theorem canClone : CanEnter Try.prog 25 := canEnter_of Try.func25 (by kernel_rfl) (by kernel_rfl)
theorem c_cloneQ (lo : Nat) (L : List V3) (hL : L.length ≤ 1048576) : FnC Try.prog 25 [.c (.sem (RowQ lo L))] (.c (.sem (RowAt lo L))) := by
  refine FnC.of canClone fun w X vs hg hx hd => ?_
  obtain ⟨v, rfl, hv⟩ := DVRs_one hd
  obtain ⟨hr, hlo⟩ := DVR_sem hv
  have fin : ∀ (e : Ending) (w' : World) (v' : Value), e = .returned v' → w'.ownsRow w.heap.size 38 3 v' L.length (cellsL L) → Below w.heap.size w w' → ∃ v, e = .returned v ∧ DVR w' X (.c (.sem (RowAt lo L))) v ∧ Below w.heap.size w w' := fun e w' v' he ho hb => by
    refine ⟨v', he, ?_, hb⟩
    have ho : RowAt w.heap.size L w' v' := ho
    simp only [DVR]
    refine .sem _ _ ho.one (fun w2 hs ha => (ho.keep (fun b h1 h2 => ha b (fun hX => ?_) h2)).lo hlo)
    have := hx b hX
    omega
  have hmax : maxLen = 9223372036854775807 := by decide +kernel
  rcases CVR_inv hr with ⟨hnil, a, rfl⟩ | ⟨b, o, sz, c, g, rfl, hsz, hc, hcell, hval⟩
  · have hL0 : L = [] := by
      have := vc_len L
      rw [hnil] at this
      exact List.length_eq_zero_iff.1 this.symm
    subst hL0
    cases a with
    | none =>
      refine (clone_nil 0 0 w).mono ?_
      rintro e w' ⟨he, rfl⟩
      exact fin e w' _ he ⟨rfl, .inl ⟨rfl, rfl⟩⟩ (Below.refl _ _)
    | some ad =>
      refine (clone_own ad 0 0 [] w rfl (Nat.zero_le _) (by omega) (by simp) (by simp)).mono ?_
      rintro e w' ⟨v', he, ho, hb⟩
      exact fin e w' v' he ho hb
  · rw [vc_len] at hc ⊢
    refine (clone_own ⟨b, o, none⟩ L.length c (cellsL L) w (cellsL_len L) (by omega) (by omega) (fun j u hj => ?_) (cellsL_one L)).mono ?_
    · rw [Addr.add_lit]
      exact (cells_of_cv hsz hcell hval j u hj).2
    · rintro e w' ⟨v', he, ho, hb⟩
      exact fin e w' v' he ho hb
end Go.Proofs.Ytdgjcdhomfhfpaa
namespace Go.Proofs.Ytdgjcdhomfhfpaa
open Go.RowKit Go.IntWalk
set_option linter.unusedSimpArgs false
set_option linter.unusedVariables false

/-- other arguments that say more; a result that is no matter of memory -/
theorem FnC.says {P : Program} {f : FuncId} {args args' : List DV} {x : Value} (h : ∀ w X vs, DVRs w X args' vs → DVRs w (fun _ => False) args vs) (hF : FnC P f args (.c (.v x))) : FnC P f args' (.c (.v x)) := by
  intro w X vs hg hx hd
  have key : ∀ (e : Ending) (w' : World), (∃ v, e = .returned v ∧ DVR w' (fun _ => False) (.c (.v x)) v ∧ Below w.heap.size w w') → ∃ v, e = .returned v ∧ DVR w' X (.c (.v x)) v ∧ Below w.heap.size w w' := by
    rintro e w' ⟨v, he, hr, hb⟩
    refine ⟨v, he, ?_, hb⟩
    simp only [DVR] at hr ⊢
    cases hr with
    | v _ h1 => exact .v _ h1
  rcases hF w (fun _ => False) vs hg (fun _ h => h.elim) (h w X vs hd) with ⟨h1, h2⟩ | ⟨v, w', h1, h2⟩
  · exact .inl ⟨h1, h2.mono fun e w' hr => key e w' hr⟩
  · exact .inr ⟨v, w', h1, key _ _ h2⟩
theorem DVR_vs {w : World} {c : List (List CV)} {v : Value} (h : CVR w (fun _ => False) (.vs c) v) : DVR w (fun _ => False) (.c (.vs c)) v := by
  simp only [DVR]; exact h
theorem c_lessQ (lo : Nat) (K : List K3) (a b : List V3) (ha : SzR a) (hb : SzR b) (hK : K.length ≤ Lim) : FnC Try.prog 33 [.c (.sem (RowAt lo a)), .c (.sem (RowAt lo b)), .box [.vs (kc K)] 0] (iD (cmpR a b K)) := by
  refine FnC.says (fun w X vs hd => ?_) (c_less a b K ha hb hK)
  match vs, hd with
  | [x, y, z], hd =>
    simp only [DVRs, and_true] at hd ⊢
    obtain ⟨h1, h2, h3⟩ := hd
    refine ⟨DVR_vs (DVR_sem h1).read, DVR_vs (DVR_sem h2).read, ?_⟩
    simp only [DVR] at h3 ⊢
    exact h3.mono fun _ h => h.elim
  | [], h => simp [DVRs] at h
  | [_], h => simp [DVRs] at h
  | [_, _], h => simp [DVRs] at h
  | _ :: _ :: _ :: _ :: _, h => simp [DVRs] at h
/- rows that a predicate tells of -/
def rS (Q : List V3 → World → Value → Prop) (LL : List (List V3)) : List (List CV) := LL.map fun L => [.sem (Q L)]
section
variable {Q : List V3 → World → Value → Prop}
theorem rS_len (LL : List (List V3)) : (rS Q LL).length = LL.length := by simp [rS]
theorem rS_sz (LL : List (List V3)) : ∀ el ∈ rS Q LL, el.length = 1 := by
  intro el h
  simp only [rS, List.mem_map] at h
  obtain ⟨v, _, rfl⟩ := h
  rfl
theorem rS_get (LL : List (List V3)) (i : Nat) (h : i < LL.length) : (rS Q LL).getD i [] = [.sem (Q (LL.getD i []))] := by simp [rS, h]
theorem rS_k (LL : List (List V3)) (i : Int) (h0 : 0 ≤ i) (h : i < LL.length) : [12] = ((((rS Q LL).getD i.toNat []).drop 0).take 1).map kindC := by rw [rS_get LL _ (by omega)]; rfl
theorem rS_0 (LL : List (List V3)) (i : Int) (h0 : 0 ≤ i) (h : i < LL.length) : cellAt (rS Q LL) i 0 = .sem (Q (LL.getD i.toNat [])) := by simp only [cellAt]; rw [rS_get LL _ (by omega)]; rfl
theorem rS_rE (LL : List (List V3)) : rS Q LL = rE Q LL.length (fun k => LL.getD k []) := by
  apply List.ext_getElem?
  intro i
  by_cases hi : i < LL.length
  · simp [rS, rE, hi]
  · rw [List.getElem?_eq_none (by rw [rS_len]; omega), List.getElem?_eq_none (by rw [rE_len]; omega)]
theorem rS_seg (N : Nat) (g : Nat → List V3) : rS Q (seg g 0 N) = rE Q N g := by simp [rS, seg, rE]
theorem rS_app (A B : List (List V3)) : rS Q A ++ rS Q B = rS Q (A ++ B) := by simp [rS]
end
theorem c_sortQ (lo : Nat) (LL : List (List V3)) (K : List K3) (hl : RowsOk LL) (hK : K.length ≤ Lim) : FnC Try.prog 19 [.c (.vs (rS (RowQ lo) LL)), .c (.vs (kc K))] (.c (.vs (rS (RowAt lo) (sortL K LL)))) := by
  refine z19 (rS (RowQ lo) LL) (kc K) ?_
  have hl1 := hl.1
  rw [rS_len]
  refine ⟨by omega, by omega, fun x2 hx2 => ?_⟩
  have hx2 : x2 = rS (RowAt lo) [] := hx2
  subst hx2
  refine ⟨fun x i k => ∃ I : Nat, i = I ∧ I ≤ LL.length ∧ x = rS (RowAt lo) (LL.take I) ∧ k = LL.length - I, ⟨_, 0, rfl, by omega, rfl, rfl⟩, ?_⟩
  rintro k x i ⟨I, rfl, hI, rfl, rfl⟩
  rw [rS_len]
  refine ⟨fun hi => ?_, fun hi => ?_⟩
  · refine ⟨by omega, rS_sz LL, rS_k LL _ (by omega) hi, ?_⟩
    rw [rS_0 LL _ (by omega) hi, Int.toNat_natCast]
    refine ⟨rS (RowAt lo) [LL.getD I []], c_cloneQ lo _ (hl.at I).1, fun x6 hx6 => ?_⟩
    have hx6 : x6 = rS (RowAt lo) [LL.getD I []] := hx6
    subst hx6
    rw [rS_len]
    have e1 : (LL.take I).length = I := by rw [List.length_take]; omega
    have e2 : [LL.getD I []].length = 1 := rfl
    rw [e1, e2]
    refine ⟨by omega, fun x7 hx7 => ?_⟩
    rw [rS_app] at hx7
    subst hx7
    refine ⟨LL.length - (I + 1), by omega, I + 1, by rw [i64_in _ (by omega)]; omega, by omega, ?_, rfl⟩
    rw [List.take_succ_eq_append_getElem (by omega), List.getD_eq_getElem?_getD, List.getElem?_eq_getElem (by omega)]
    rfl
  · have e : I = LL.length := by omega
    subst e
    rw [List.take_length]
    intro x5 hx5
    subst hx5
    have sp := sortF_spec K (fun k => LL.getD k []) LL.length
    have hsz : ∀ k, SzR (LL.getD k []) := fun k => (hl.at k).sz
    have := q_sortStable ⟨K, RowAt lo, fun a b ha hb hk => c_lessQ lo K a b ha hb hk⟩ LL.length (fun k => LL.getD k []) _ hK (by omega) hsz sp.1 sp.2
    rw [← rS_rE] at this
    refine ⟨_, this, by rw [rE_len]; exact Int.le_refl _, ?_⟩
    rw [Int.toNat_natCast, rE_take _ _ _ rfl]
    unfold sortL
    rw [rS_seg]
end Go.Proofs.Ytdgjcdhomfhfpaa
