/- A symbolic run of Go code: a region that draws its order and whose last operation waits for all the others. No condition. -/
import Derived.Test.YtdgjcdhomfhfpaaAbU
namespace Go.Proofs.Ytdgjcdhomfhfpaa
open Go.RowKit
set_option linter.unusedSimpArgs false
set_option linter.unusedVariables false

section
variable {P : Program} {ops : Array Oper} {Q Q' : Exit → Act → World → Prop}
theorem letsOut_mono (hQ : ∀ e a w, e ≠ Exit.normal → Q' e a w → Q e a w) (h : LetsOut Q') : LetsOut Q := by
  obtain ⟨a, w, h⟩ := h
  exact ⟨a, w, hQ _ _ _ (by intro h; cases h) h⟩
theorem oper_monoQ (hQ : ∀ e a w, e ≠ Exit.normal → Q' e a w → Q e a w) {o : Oper} {a : Act} {w : World} {K K' : Act → World → Prop} (hK : ∀ a w, K a w → K' a w) (h : o.wp P a w K Q') : o.wp P a w K' Q := by
  refine Oper.wp_mono hK ?_
  unfold Oper.wp at *
  generalize (execOp a.eval o).run P w = r at *
  cases r with
  | ok n w' =>
    cases n <;> simp only [Oper.upon] at h ⊢ <;>
      first
        | exact h
        | exact Calls.mono h (fun e w'' he => by
            cases e
            · exact he
            · exact hQ _ _ _ (by intro h; cases h) he
            · exact letsOut_mono hQ he)
  | halt x w' => cases x <;> simp only [Oper.upon] at h ⊢ <;> first | exact hQ _ _ _ (by intro h; cases h) h | exact h

theorem all_ready {L : Array Bool} (h : ∀ i, i < ops.size → L.getD i false = true) : Region.ready .any ops L = [] := by
  rw [List.eq_nil_iff_forall_not_mem]
  intro j hj
  obtain ⟨hjf, o, ho, _⟩ := mem_ready.1 hj
  have h1 := h j (Array.getElem?_eq_some_iff.1 ho).1
  by_cases hjs : j < L.size
  · simp [Array.getD_eq_getD_getElem?, hjs] at h1 hjf
    rw [h1] at hjf; cases hjf
  · simp [Array.getD_eq_getD_getElem?, Array.getElem?_eq_none (Nat.le_of_not_lt hjs)] at hjf
theorem all_done {L : Array Bool} (h : ∀ i, i < ops.size → L.getD i false = true) {a : Act} {w : World} (hq : Q .normal a w) : ∀ fuel, wpAny P .any ops Q fuel L a w
  | 0 => ⟨all_ready h, hq⟩
  | _ + 1 => ⟨fun _ => hq, fun i hi => by rw [all_ready h] at hi; cases hi⟩

theorem pop_at {i : Nat} (h : i < ops.size - 1) : ops.pop[i]? = ops[i]? := by
  rw [Array.getElem?_pop, if_pos h]
theorem peel_any {n : Nat} {o : Oper} (hsz : ops.size = n + 1) (ho : ops[n]? = some o) (hlow : ∀ (i : Nat) (o' : Oper), ops[i]? = some o' → ∀ e ∈ o'.after, binds1 e = true → e.on < i)
    (hgu : ∀ (i : Nat) (o' : Oper), i < n → ops[i]? = some o' → ∀ g b, o'.guard = some (g, b) → g < n)
    (hcov : ∀ D : Nat → Prop, (∀ i, D i → ∀ o, ops[i]? = some o → ∀ e ∈ o.after, binds1 e = true → D e.on) → (∀ e ∈ o.after, binds1 e = true → D e.on) → ∀ j, j < n → D j)
    (hQ : ∀ e a w, e ≠ Exit.normal → Q' e a w → Q e a w) (hN : ∀ a w, Q' .normal a w → wpOp P ops Q n (Q .normal) a w) :
    ∀ (fuel : Nat) (L' L : Array Bool) (a : Act) (w : World), L'.size = n → L.size = n + 1 → (∀ j, j < n → L[j]? = L'[j]?) → L[n]? = some false → L'.count false ≤ fuel →
      (∀ i, L.getD i false = true → ∀ o, ops[i]? = some o → ∀ e ∈ o.after, binds1 e = true → L.getD e.on false = true) → wpAny P .any ops.pop Q' fuel L' a w → wpAny P .any ops Q (fuel + 1) L a w := by
  have hlt : ∀ {i : Nat} {o : Oper}, ops[i]? = some o → i < n + 1 := fun hi => by
    have := (Array.getElem?_eq_some_iff.1 hi).1
    omega
  have hget : ∀ {L' L : Array Bool}, (∀ j, j < n → L[j]? = L'[j]?) → ∀ j b, j < n → L.getD j b = L'.getD j b := fun h j b hj => by
    simp only [Array.getD_eq_getD_getElem?, h j hj]
  have hps : ops.pop.size = n := by simp [hsz]
  have hfin : ∀ (f : Nat) (L' L : Array Bool) (a : Act) (w : World), L'.size = n → L.size = n + 1 → (∀ j, j < n → L[j]? = L'[j]?) → L[n]? = some false → (∀ j, j < n → L'.getD j false = true) → Q' .normal a w → wpAny P .any ops Q (f + 1) L a w := by
    intro f L' L a w hs' hs hj hn hall hq
    have hall2 : ∀ j, j < n → L.getD j false = true := fun j h => by rw [hget hj j false h]; exact hall j h
    refine ⟨fun hr => ?_, fun i hi => ?_⟩
    · have : n ∈ Region.ready .any ops L := mem_ready.2 ⟨by simp [Array.getD_eq_getD_getElem?, hn], o, ho, fun e he hb => hall2 _ (hlow n o ho e he hb)⟩
      rw [hr] at this; cases this
    · obtain ⟨hif, o', ho', _⟩ := mem_ready.1 hi
      have hin : i = n := by
        have h1 := hlt ho'
        by_cases h : i < n
        · exfalso
          have h2 := hall2 i h
          have h3 : i < L.size := by omega
          simp [Array.getD_eq_getD_getElem?, h3] at h2 hif
          rw [h2] at hif; cases hif
        · omega
      subst hin
      refine wpOp_mono (fun a w hq => all_done (fun j hj => ?_) hq f) (hN a w hq)
      rw [getD_set_iffD L i j (by omega)]
      by_cases h : j = i
      · exact .inr h
      · exact .inl (hall2 j (by omega))
  intro fuel
  induction fuel with
  | zero =>
    intro L' L a w hs' hs hj hn hc hcl h
    have hall := listed_allD L' (by omega)
    exact hfin 0 L' L a w hs' hs hj hn (fun j hjn => hall j (by omega)) h.2
  | succ fuel ih =>
    intro L' L a w hs' hs hj hn hc hcl h
    obtain ⟨h0, h1⟩ := h
    by_cases hall : ∀ j, j < n → L'.getD j false = true
    · exact hfin _ L' L a w hs' hs hj hn hall (h0 (all_ready fun i hi => hall i (by omega)))
    refine ⟨fun hr => ?_, fun i hi => ?_⟩
    · exfalso
      refine hall fun j hjn => ?_
      by_cases hj' : L'.getD j false = true
      · exact hj'
      · exfalso
        have hjs : j < L'.size := by omega
        have hjf : L'.getD j true = false := by simpa [Array.getD_eq_getD_getElem?, hjs] using hj'
        obtain ⟨m, hm, hmf, hml⟩ := unlisted_minD L' ⟨j, hjs, hjf⟩
        have hmn : m < n := by omega
        obtain ⟨om, hom⟩ : ∃ om, ops[m]? = some om := ⟨ops[m]'(by omega), Array.getElem?_eq_getElem _⟩
        have : m ∈ Region.ready .any ops L := mem_ready.2 ⟨by rw [hget hj m true hmn]; exact hmf, om, hom, fun e he hb => by
          have h3 := hlow m om hom e he hb
          rw [hget hj _ false (by omega)]
          exact hml _ h3⟩
        rw [hr] at this; cases this
    · obtain ⟨hif, o', ho', hed⟩ := mem_ready.1 hi
      have hin : i < n := by
        have h2 := hlt ho'
        by_cases h : i < n
        · exact h
        · exfalso
          obtain rfl : i = n := by omega
          obtain rfl : o' = o := Option.some.inj (ho'.symm.trans ho)
          exact hall fun j hjn => by
            rw [← hget hj j false hjn]
            exact hcov (fun j => L.getD j false = true) hcl (fun e he hb => hed e he hb) j hjn
      have hop : ops.pop[i]? = some o' := by rw [pop_at (by omega)]; exact ho'
      have hr' : i ∈ Region.ready .any ops.pop L' := mem_ready.2 ⟨by rw [← hget hj i true hin]; exact hif, o', hop, fun e he hb => by
        have h3 := hlow i o' ho' e he hb
        rw [← hget hj _ false (by omega)]
        exact hed e he hb⟩
      have h2 := h1 i hr'
      have hse := fun j => getD_set_iffD L i j (by omega)
      have hif' : L'.getD i true = false := by rw [← hget hj i true hin]; exact hif
      have hcs := count_setD L' i (by omega) hif'
      have hih : ∀ a w, wpAny P .any ops.pop Q' fuel (L'.setIfInBounds i true) a w → wpAny P .any ops Q (fuel + 1) (L.setIfInBounds i true) a w := fun a w h => by
        refine ih (L'.setIfInBounds i true) (L.setIfInBounds i true) a w (by simpa using hs') (by simpa using hs) (fun j hjn => ?_) ?_ (by omega) (fun j hjl oj hoj e he hb => ?_) h
        · by_cases e : j = i
          · subst e
            rw [Array.getElem?_setIfInBounds_self_of_lt (by omega), Array.getElem?_setIfInBounds_self_of_lt (by omega)]
          · rw [Array.getElem?_setIfInBounds_ne (Ne.symm e), Array.getElem?_setIfInBounds_ne (Ne.symm e)]
            exact hj j hjn
        · rw [Array.getElem?_setIfInBounds_ne (by omega)]
          exact hn
        · refine (hse _).2 (.inl ?_)
          rcases (hse j).1 hjl with h | rfl
          · exact hcl j h oj hoj e he hb
          · obtain rfl : oj = o' := Option.some.inj (hoj.symm.trans ho')
            exact hed e he hb
      have hy : Region.wanted o' (yielded ops.pop a.tmps) = Region.wanted o' (yielded ops a.tmps) := by
        unfold Region.wanted
        cases hg : o'.guard with
        | none => rfl
        | some x =>
          obtain ⟨g, b⟩ := x
          simp only [yielded]
          rw [pop_at (by have := hgu i o' hin ho' g b hg; omega)]
      unfold wpOp at h2 ⊢
      rw [hop] at h2
      rw [ho']
      simp only [hy] at h2 ⊢
      split
      · rename_i hw
        rw [if_pos hw] at h2
        exact h2.imp (oper_monoQ hQ hih) (fun h => ⟨h.1, letsOut_mono hQ h.2⟩)
      · rename_i hw
        rw [if_neg hw] at h2
        exact hih _ _ h2

/-- what holds behind all but the last -/
def lastQ (P : Program) (ops : Array Oper) (o : Oper) (Q : Exit → Act → World → Prop) : Exit → Act → World → Prop
  | .normal, a, w => wpList P ops Q [o] a w
  | e, a, w => Q e a w
theorem peel_sound (hm : P.follows .mixedOrders = true) {B : FuncId → Option Func} {o : Oper} (hp : peelD B ops = some o) {id : Nat} {a : Act} {w : World} (h : wpDraw P ops.pop (lastQ P ops o Q) a w) : (Code.region id ops true).wp P Q a w := by
  unfold peelD at hp
  split at hp
  · cases hp
  rename_i o' hb
  cases hc : o'.guard.isNone && isInvB B o'.op && peelOK ops
  · rw [hc] at hp; cases hp
  rw [hc] at hp
  simp only [cond_true, Option.some.injEq] at hp
  subst hp
  simp only [Bool.and_eq_true] at hc
  have hok := hc.2
  unfold peelOK at hok
  rw [Bool.and_eq_true, Bool.and_eq_true] at hok
  obtain ⟨⟨hE, hbits⟩, hg⟩ := hok
  obtain ⟨n, hsz⟩ : ∃ n, ops.size = n + 1 := ⟨ops.size - 1, by
    rw [Array.back?_eq_getElem?] at hb
    have := (Array.getElem?_eq_some_iff.1 hb).1
    omega⟩
  rw [Array.back?_eq_getElem?, hsz] at hb
  simp only [Nat.add_sub_cancel] at hb
  rw [hsz] at hbits hg
  simp only [Nat.add_sub_cancel, List.all_eq_true, List.mem_range] at hbits
  simp only [Nat.add_sub_cancel] at hg
  have hanc := ancs_ok (ops := ops) ops.toList [] (by simp) (fun i j h => by simp [getN] at h)
  refine wp_region_any hm ?_
  have hps : ops.pop.size = n := by simp [hsz]
  unfold wpDraw at h
  rw [hps] at h
  rw [hsz]
  refine peel_any hsz hb (okE_spec hE).low (fun i o'' hi ho'' g b hgd => ?_) (fun D hD hDo j hj => Reach.closed hD (hanc n j (hbits j hj)) fun o1 ho1 => ?_) (Q' := lastQ P ops o' Q) (fun e a w hne hq => ?_) (fun a w hq => ?_) n _ _ a _ (by simp) (by simp) (fun j hj => ?_) ?_ (by simp) (fun i hi => absurd hi (none_listedD _ _)) h
  · rw [Array.all_eq_true] at hg
    have h1 : i < ops.pop.size := by omega
    have h2 := hg i h1
    have h3 : ops.pop[i] = o'' := by
      have h4 : ops.pop[i]? = some o'' := by rw [pop_at (by omega)]; exact ho''
      rw [Array.getElem?_eq_getElem h1] at h4
      exact Option.some.inj h4
    rw [h3, hgd] at h2
    simpa [Nat.blt_eq] using h2
  · obtain rfl : o1 = o' := Option.some.inj (ho1.symm.trans hb)
    exact hDo
  · cases e <;> first | exact absurd rfl hne | exact hq
  · simp only [lastQ, wpList] at hq
    unfold wpOp
    rw [hb]
    exact hq
  · rw [Array.getElem?_replicate, Array.getElem?_replicate, if_pos (by omega), if_pos hj]
  · rw [Array.getElem?_replicate, if_pos (by omega)]
end
end Go.Proofs.Ytdgjcdhomfhfpaa
