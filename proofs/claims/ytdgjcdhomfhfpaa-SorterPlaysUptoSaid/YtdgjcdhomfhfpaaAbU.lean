/- A symbolic run of Go code: regions that draw their order, the law. No condition. -/
import Derived.Test.YtdgjcdhomfhfpaaAbS
namespace Go.Proofs.Ytdgjcdhomfhfpaa
open Go.RowKit
set_option linter.unusedSimpArgs false
set_option linter.unusedVariables false

theorem getD_set_iffD (l : Array Bool) (i j : Nat) (h : i < l.size) : (l.setIfInBounds i true).getD j false = true ↔ l.getD j false = true ∨ j = i := by
  by_cases e : j = i
  · subst e; simp [Array.getD_eq_getD_getElem?, h]
  · simp [Array.getD_eq_getD_getElem?, Array.getElem?_setIfInBounds_ne (Ne.symm e), e]
theorem count_setD (l : Array Bool) (i : Nat) (h : i < l.size) (hf : l.getD i true = false) : (l.setIfInBounds i true).count false + 1 = l.count false := by
  have hv : l[i] = false := by simpa [Array.getD_eq_getD_getElem?, h] using hf
  rw [Array.setIfInBounds_def, dif_pos h, Array.count_set]
  have hpos : 0 < l.count false := Array.count_pos_iff.2 (by rw [← hv]; exact Array.getElem_mem h)
  simp [hv]
  omega
theorem listed_allD (l : Array Bool) (h : l.count false = 0) (i : Nat) (hi : i < l.size) : l.getD i false = true := by
  have hn : false ∉ l := by
    intro hm
    have := Array.count_pos_iff.2 hm
    omega
  have : l[i] ≠ false := fun e => hn (by rw [← e]; exact Array.getElem_mem hi)
  simpa [Array.getD_eq_getD_getElem?, hi] using this
theorem unlisted_minD (l : Array Bool) (h : ∃ i, i < l.size ∧ l.getD i true = false) : ∃ i, i < l.size ∧ l.getD i true = false ∧ ∀ j, j < i → l.getD j false = true := by
  obtain ⟨i, hi, hf⟩ := h
  induction i using Nat.strongRecOn with
  | _ i ih =>
    by_cases hm : ∀ j, j < i → l.getD j false = true
    · exact ⟨i, hi, hf, hm⟩
    · simp only [Classical.not_forall] at hm
      obtain ⟨j, hj, hjf⟩ := hm
      have hjs : j < l.size := by omega
      exact ih j hj hjs (by simpa [Array.getD_eq_getD_getElem?, hjs] using hjf)
theorem none_listedD (n i : Nat) : ¬ (Array.replicate n false).getD i false = true := by
  rw [Array.getD_eq_getD_getElem?, Array.getElem?_replicate]
  split <;> simp

section
variable {P : Program} {T : Tab} {w0 : Base} {X : Nat → Prop} {Fin : Nu → Ex → St → Prop} {Ag : Nu → Nat → List D → Prop} {ops : Array Oper} {s : Nat → St} {ev : Nat → Ev}

/-- objects before the region, and room for those to come -/
def holes (s : Nat → St) (N : Nat) : List Ob := (s 0).L ++ List.replicate ((s N).L.length - (s 0).L.length) ⟨0, .hole⟩

/-- The operations of D are done: what is known. -/
structure DSt (ops : Array Oper) (s : Nat → St) (ev : Nat → Ev) (D : Nat → Prop) (S : St) : Prop where
  G : S.G = (s 0).G
  Flen : S.F.length = (s 0).F.length
  Llen : S.L.length = (s ops.size).L.length
  Frest : ∀ t, t < (s 0).F.length → (∀ j o, D j → ops[j]? = some o → o.dst ≠ some t) → getL S.F t = getL (s 0).F t
  Fown : ∀ j o t, D j → ops[j]? = some o → o.dst = some t → t < (s 0).F.length → getL S.F t = (ev j).v
  Lrest : ∀ id, (∀ j ob, D j → (ev j).up ≠ some (id, ob)) → getO S.L id = getO (holes s ops.size) id
  Lown : ∀ j id ob, D j → (ev j).up = some (id, ob) → (∀ k ob', D k → j < k → (ev k).up ≠ some (id, ob')) → getO S.L id = some ob

/-- One more operation. -/
theorem dst_step (hT : TOK P T) (L : Lex T ops s ev) {ν : Nu} (hE : ∀ i, i < ops.size → EvOK P ν (ev i)) {D : Nat → Prop} (hDN : ∀ j, D j → j < ops.size) (hcl : ∀ i, D i → ∀ o, ops[i]? = some o → ∀ e ∈ o.after, binds1 e = true → D e.on)
    {S : St} {σ : List Pl} {a : Act} {w : World} (hR : Rel w0 X ν S σ a w) (hS : DSt ops s ev D S) {i : Nat} {o : Oper} (ho : ops[i]? = some o) (hni : ¬ D i) (hrd : ∀ e ∈ o.after, binds1 e = true → D e.on) {D' : Nat → Prop} (hD' : ∀ j, D' j ↔ D j ∨ j = i)
    {K : Act → World → Prop} {Q : Exit → Act → World → Prop} (hK : ∀ (S' : St) (σ' : List Pl) (r : Value) (w' : World), DSt ops s ev D' S' → Rel w0 X ν S' σ' (a.put o.dst r) w' → K (a.put o.dst r) w') :
    if Region.wanted o (yielded ops a.tmps) = true then o.wp P a w K Q else K (a.put o.dst undef) w := by
  have hi : i < ops.size := (Array.getElem?_eq_some_iff.1 ho).1
  obtain ⟨⟨_, hst⟩, hnext⟩ := L.step i o ho
  have hlow := L.edges.low
  have hlowi : ∀ {j : Nat}, Reach ops i j → j < i := fun h => h.lt hlow
  have hrdi : ∀ {j : Nat}, Reach ops i j → D j := fun h => h.closed hcl (fun o' ho' e he hb => by
    obtain rfl : o' = o := Option.some.inj (ho'.symm.trans ho)
    exact hrd e he hb)
  have hnoti : ∀ {k : Nat}, D k → ¬ Reach ops k i := fun hk h => hni (h.closed hcl (fun o' ho' e he hb => hcl _ hk o' ho' e he hb))
  -- a writer of D that comes later in the text than an operation that looks at the object: there is none
  have later : ∀ {k id : Nat} {ob : Ob}, D k → i < k → (ev k).up = some (id, ob) → (id ∈ (ev i).touch ∨ ∃ ob, (ev i).up = some (id, ob)) → False := fun {k id ob} hk hlt hu ht => by
    rcases L.order k id ob i (hDN k hk) hi (by omega) hu ht with h | h
    · have := hlowi h; omega
    · exact hnoti hk h
  have earlier : ∀ {j id : Nat} {ob : Ob}, j < i → (ev j).up = some (id, ob) → id ∈ (ev i).touch → D j := fun {j id ob} hlt hu ht => by
    rcases L.order j id ob i (by omega) hi (by omega) hu (.inl ht) with h | h
    · exact hrdi h
    · have := h.lt hlow; omega
  have hsl : ∀ t ∈ o.looksAt ops, getL S.F t = getL (s i).F t := fun t ht => by
    by_cases htl : t < (s 0).F.length
    · by_cases hw : ∃ (j : Nat) (oj : Oper), ops[j]? = some oj ∧ oj.dst = some t
      · obtain ⟨j, oj, hj, hd⟩ := hw
        have uniq : i ≤ j → ¬ D j → getL S.F t = getL (s i).F t := fun hij hnD => by
          rw [hS.Frest t htl fun j' o' hj' h hd' => hnD (by rw [← L.edges.apart j' j o' oj t h hj hd' hd]; exact hj'),
            L.F_rest i (by omega) t fun j' o' hj' h hd' => by
              have := L.edges.apart j' j o' oj t h hj hd' hd
              omega]
        rcases L.edges.deps i o t j oj ho ht hj hd with ⟨e, he, hb, hon⟩ | hij | ⟨hlt, e, he, hb, hon⟩
        · have hDj := hrd e he hb
          have hji := hlow i o ho e he hb
          rw [hon] at hDj hji
          rw [hS.Fown j oj t hDj hj hd htl, L.F_own i (by omega) j oj t hji hj hd htl]
        · exact uniq (by omega) (by rw [← hij]; exact hni)
        · refine uniq (by omega) fun hDj => hni ?_
          have := hcl j hDj oj hj e he hb
          rwa [hon] at this
      · have hno : ∀ (j : Nat) (o' : Oper), ops[j]? = some o' → o'.dst ≠ some t := fun j o' h1 h2 => hw ⟨j, o', h1, h2⟩
        rw [hS.Frest t htl fun j o' _ h => hno j o' h, L.F_rest i (by omega) t fun j o' _ h => hno j o' h]
    · rw [getL_out S.F t (by rw [hS.Flen]; exact Nat.le_of_not_lt htl), getL_out (s i).F t (by rw [L.F_len i (by omega)]; exact Nat.le_of_not_lt htl)]
  have hob : ∀ id ∈ (ev i).touch, ∀ ob, getO (s i).L id = some ob → getO S.L id = some ob := fun id hid ob hob => by
    by_cases hw : ∃ j, j < i ∧ ∃ ob', (ev j).up = some (id, ob')
    · obtain ⟨j, hj, ⟨ob', hu⟩, hlast⟩ := last_below (fun j => ∃ ob', (ev j).up = some (id, ob')) i hw
      have h1 := L.L_own id i (by omega) j ob' hj hu fun k ob'' h1 h2 h3 => hlast k h1 h2 ⟨ob'', h3⟩
      rw [h1] at hob
      rw [← hob]
      refine hS.Lown j id ob' (earlier hj hu hid) hu fun k ob'' hk hjk hu' => ?_
      rcases Nat.lt_trichotomy k i with h | h | h
      · exact hlast k hjk h ⟨ob'', hu'⟩
      · subst h; exact hni hk
      · exact later hk h hu' (.inl hid)
    · have h1 := L.L_rest id i (by omega) fun j ob' hj hu => hw ⟨j, hj, ob', hu⟩
      rw [h1] at hob
      rw [hS.Lrest id fun k ob' hk hu => ?_]
      · unfold holes
        rw [getO_append, if_pos (getO_lt _ _ _ hob)]
        exact hob
      · rcases Nat.lt_trichotomy k i with h | h | h
        · exact hw ⟨k, h, ob', hu⟩
        · subst h; exact hni hk
        · exact later hk h hu (.inl hid)
  have hfr : ∀ ob, (ev i).up = some ((s i).L.length, ob) → getO S.L (s i).L.length = some ⟨0, .hole⟩ := fun ob hu => by
    rw [hS.Lrest _ fun k ob' hk hu' => ?_]
    · unfold holes
      have h1 := L.L_mono (i := 0) i (by omega) (by omega)
      have h2 := (L.up_le hi hu).2
      have h3 := L.L_mono (i := i + 1) ops.size (by omega) (by omega)
      rw [getO_append, if_neg (by omega)]
      exact getO_replicate _ _ _ (by omega)
    · rcases Nat.lt_trichotomy k i with h | h | h
      · have h1 := (L.up_le (hDN k hk) hu').2
        have h2 := L.L_mono (i := k + 1) i (by omega) (by omega)
        omega
      · subst h; exact hni hk
      · exact later hk h hu' (.inr ⟨ob, hu⟩)
  refine stepD_run hT hR hst (hE i hi) hsl hob hfr fun S' σ' r w' ⟨hF', hG'⟩ hL' hR' => hK S' σ' r w' ?_ hR'
  have hDD : ∀ {j}, D j → D' j := fun h => (hD' _).2 (.inl h)
  have hDi : D' i := (hD' _).2 (.inr rfl)
  refine { G := hG'.trans hS.G, Flen := by rw [hF', put_length]; exact hS.Flen, Llen := ?_, Frest := ?_, Fown := ?_, Lrest := ?_, Lown := ?_ }
  · rw [hL']
    split
    · exact hS.Llen
    · rw [setO_len]; exact hS.Llen
  · intro t ht hn
    rw [hF', getL_put, if_neg (fun h => hn i o hDi ho h.1)]
    exact hS.Frest t ht fun j o' hj => hn j o' (hDD hj)
  · intro j oj t hj hoj hd ht
    rw [hF', getL_put]
    by_cases e : j = i
    · subst e
      obtain rfl : oj = o := Option.some.inj (hoj.symm.trans ho)
      rw [if_pos ⟨hd, by rw [hS.Flen]; exact ht⟩]
    · rw [if_neg (fun h => e (L.edges.apart j i oj o t hoj ho hd h.1))]
      exact hS.Fown j oj t (((hD' j).1 hj).resolve_right e) hoj hd ht
  · intro id hn
    have h1 := hS.Lrest id fun j ob hj => hn j ob (hDD hj)
    rw [hL']
    cases hu : (ev i).up with
    | none => exact h1
    | some x =>
      obtain ⟨j, ob⟩ := x
      have : id ≠ j := fun e => hn i ob hDi (by rw [hu, e])
      simp only [getO_set, if_neg (fun h : id = j ∧ j < S.L.length => this h.1)]
      exact h1
  · intro j id ob hj hu hlast
    rw [hL']
    by_cases e : j = i
    · subst e
      rw [hu]
      have h2 := (L.up_le hi hu).2
      have h3 := L.L_mono (i := j + 1) ops.size (by omega) (by omega)
      have h4 := hS.Llen
      simp only [getO_set, true_and]
      rw [if_pos (by omega)]
    · have hDj := ((hD' j).1 hj).resolve_right e
      have h1 := hS.Lown j id ob hDj hu fun k ob' hk => hlast k ob' (hDD hk)
      cases hui : (ev i).up with
      | none => exact h1
      | some x =>
        obtain ⟨j', ob'⟩ := x
        have hne : id ≠ j' := fun e' => by
          subst e'
          rcases Nat.lt_trichotomy j i with h | h | h
          · exact hlast i ob' hDi h hui
          · exact e h
          · exact later hDj h hu (.inr ⟨ob', hui⟩)
        simp only [getO_set, if_neg (fun h : id = j' ∧ j' < S.L.length => hne h.1)]
        exact h1

/-- All done: the state at the end of the order of the text. -/
theorem dst_end (L : Lex T ops s ev) {D : Nat → Prop} (hall : ∀ i, i < ops.size → D i) (hDN : ∀ j, D j → j < ops.size) {S : St} (hS : DSt ops s ev D S) (hn : S.n = (s ops.size).n) : S = s ops.size := by
  have hF : S.F = (s ops.size).F := by
    refine ext_getL _ _ (by rw [hS.Flen, L.F_len _ (Nat.le_refl _)]) fun t ht => ?_
    rw [hS.Flen] at ht
    by_cases hw : ∃ (j : Nat) (oj : Oper), ops[j]? = some oj ∧ oj.dst = some t
    · obtain ⟨j, oj, hj, hd⟩ := hw
      have hlt := (Array.getElem?_eq_some_iff.1 hj).1
      rw [hS.Fown j oj t (hall j hlt) hj hd ht, L.F_own _ (Nat.le_refl _) j oj t hlt hj hd ht]
    · have hno : ∀ (j : Nat) (o' : Oper), ops[j]? = some o' → o'.dst ≠ some t := fun j o' h1 h2 => hw ⟨j, o', h1, h2⟩
      rw [hS.Frest t ht fun j o' _ h => hno j o' h, L.F_rest _ (Nat.le_refl _) t fun j o' _ h => hno j o' h]
  have hL : S.L = (s ops.size).L := by
    refine ext_getO _ _ hS.Llen fun id hid => ?_
    rw [hS.Llen] at hid
    by_cases hw : ∃ j, j < ops.size ∧ ∃ ob', (ev j).up = some (id, ob')
    · obtain ⟨j, hj, ⟨ob', hu⟩, hlast⟩ := last_below (fun j => ∃ ob', (ev j).up = some (id, ob')) _ hw
      rw [L.L_own id _ (Nat.le_refl _) j ob' hj hu fun k ob'' h1 h2 h3 => hlast k h1 h2 ⟨ob'', h3⟩]
      exact hS.Lown j id ob' (hall j hj) hu fun k ob'' hk h1 h3 => hlast k h1 (hDN k hk) ⟨ob'', h3⟩
    · rw [L.L_rest id _ (Nat.le_refl _) fun j ob hj hu => hw ⟨j, hj, ob, hu⟩, hS.Lrest id fun j ob hj hu => hw ⟨j, hDN j hj, ob, hu⟩]
      unfold holes
      have : id < (s 0).L.length := by
        by_cases h : id < (s 0).L.length
        · exact h
        · obtain ⟨j, ob, hj, hu⟩ := L.L_new id _ (Nat.le_refl _) (by omega) hid
          exact absurd ⟨j, hj, ob, hu⟩ hw
      rw [getO_append, if_pos this]
  have hG : S.G = (s ops.size).G := by rw [hS.G, L.G_same _ (Nat.le_refl _)]
  cases S
  cases hs : s ops.size
  rw [hs] at hF hL hn hG
  simp only at hF hL hn hG
  subst hF hL hn hG
  rfl

theorem any_sound (hT : TOK P T) (L : Lex T ops s ev) {ν : Nu} (hE : ∀ i, i < ops.size → EvOK P ν (ev i)) (hν : ν.length = (s ops.size).n) {Q : Exit → Act → World → Prop}
    (hQ : ∀ (σ : List Pl) (a : Act) (w : World), Rel w0 X ν (s ops.size) σ a w → Q .normal a w) :
    ∀ (fuel : Nat) (listed : Array Bool) (S : St) (σ : List Pl) (a : Act) (w : World), listed.size = ops.size → listed.count false ≤ fuel → (∀ i, listed.getD i false = true → ∀ o, ops[i]? = some o → ∀ e ∈ o.after, binds1 e = true → listed.getD e.on false = true) →
      Rel w0 X ν S σ a w → DSt ops s ev (fun i => listed.getD i false = true) S → wpAny P .any ops Q fuel listed a w := by
  have hlt : ∀ {i : Nat} {o : Oper}, ops[i]? = some o → i < ops.size := fun hi => (Array.getElem?_eq_some_iff.1 hi).1
  have hDN : ∀ (listed : Array Bool), listed.size = ops.size → ∀ j, listed.getD j false = true → j < ops.size := fun listed hsz j hj => by
    by_cases h : j < listed.size
    · omega
    · simp [Array.getD_eq_getD_getElem?, Array.getElem?_eq_none (Nat.le_of_not_lt h)] at hj
  have hend : ∀ (listed : Array Bool) (S : St) (σ : List Pl) (a : Act) (w : World), listed.size = ops.size → (∀ i, i < ops.size → listed.getD i false = true) → Rel w0 X ν S σ a w → DSt ops s ev (fun i => listed.getD i false = true) S → Q .normal a w := fun listed S σ a w hsz hall hR hS => by
    have := dst_end L hall (hDN listed hsz) hS (by rw [← hR.n]; exact hν)
    rw [this] at hR
    exact hQ σ a w hR
  intro fuel
  induction fuel with
  | zero =>
    intro listed S σ a w hsz hc hcl hR hS
    have hall := listed_allD listed (by omega)
    refine ⟨?_, hend listed S σ a w hsz (fun i hi => hall i (by omega)) hR hS⟩
    rw [List.eq_nil_iff_forall_not_mem]
    intro j hj
    obtain ⟨hjf, o, ho, _⟩ := mem_ready.1 hj
    have h1 := hall j (by have := hlt ho; omega)
    have hjs : j < listed.size := by have := hlt ho; omega
    simp [Array.getD_eq_getD_getElem?, hjs] at h1 hjf
    rw [h1] at hjf; cases hjf
  | succ fuel ih =>
    intro listed S σ a w hsz hc hcl hR hS
    refine ⟨fun hr => ?_, fun i hi => ?_⟩
    · refine hend listed S σ a w hsz (fun j hj => ?_) hR hS
      by_cases hj' : listed.getD j false = true
      · exact hj'
      · exfalso
        have hjs : j < listed.size := by omega
        have hjf : listed.getD j true = false := by simpa [Array.getD_eq_getD_getElem?, hjs] using hj'
        obtain ⟨m, hm, hmf, hml⟩ := unlisted_minD listed ⟨j, hjs, hjf⟩
        obtain ⟨o, ho⟩ : ∃ o, ops[m]? = some o := ⟨ops[m]'(by omega), Array.getElem?_eq_getElem _⟩
        have : m ∈ Region.ready .any ops listed := mem_ready.2 ⟨hmf, o, ho, fun e he hb => hml _ (L.edges.low m o ho e he hb)⟩
        rw [hr] at this; cases this
    · obtain ⟨hif, o, ho, hall⟩ := mem_ready.1 hi
      have his : i < listed.size := by have := hlt ho; omega
      have hcs := count_setD listed i his hif
      have hif' : ¬ listed.getD i false = true := by
        intro hh
        simp [Array.getD_eq_getD_getElem?, his] at hh hif
        rw [hh] at hif; cases hif
      have hsz' : (listed.setIfInBounds i true).size = ops.size := by simpa using hsz
      have hset := fun j => getD_set_iffD listed i j his
      have hcl' : ∀ j, (listed.setIfInBounds i true).getD j false = true → ∀ o, ops[j]? = some o → ∀ e ∈ o.after, binds1 e = true → (listed.setIfInBounds i true).getD e.on false = true := fun j hj o' ho' e he hb => by
        refine (hset _).2 (.inl ?_)
        rcases (hset j).1 hj with hj | rfl
        · exact hcl j hj o' ho' e he hb
        · obtain rfl : o' = o := Option.some.inj (ho'.symm.trans ho)
          exact hall e he hb
      have := dst_step hT L hE (D := fun i => listed.getD i false = true) (hDN listed hsz) hcl hR hS ho hif' (fun e he hb => hall e he hb) (D' := fun j => (listed.setIfInBounds i true).getD j false = true) hset
        (K := wpAny P .any ops Q fuel (listed.setIfInBounds i true)) (Q := Q) fun S' σ' r w' hS' hR' => ih _ S' σ' _ w' hsz' (by omega) hcl' hR' hS'
      unfold wpOp
      rw [ho]
      simp only
      split
      · rename_i hw
        rw [if_pos hw] at this
        exact .inl this
      · rename_i hw
        rw [if_neg hw] at this
        exact this

theorem Rel.holes {ν : Nu} {S : St} {a : Act} {w : World} : ∀ (n : Nat) {σ : List Pl} {L : List Ob}, Rel w0 X ν { S with L := L } σ a w → ∃ σ', Rel w0 X ν { S with L := L ++ List.replicate n ⟨0, .hole⟩ } σ' a w
  | 0, σ, L, h => ⟨σ, by simpa using h⟩
  | n + 1, σ, L, h => by
    obtain ⟨σ', h'⟩ := Rel.holes (S := S) n (L := L ++ [⟨0, .hole⟩]) h.hole
    exact ⟨σ', by simpa [List.replicate_succ] using h'⟩
theorem Rel.drewn {ν : Nu} {S : St} {σ : List Pl} {a : Act} {w : World} (h : Rel w0 X ν S σ a w) : Rel w0 X ν S σ a w.drew := h.turn (Turn.drew w)

/-- the operations of a region in whatever order -/
def wpDraw (P : Program) (ops : Array Oper) (Q : Exit → Act → World → Prop) (a : Act) (w : World) : Prop := wpAny P .any ops Q ops.size (Array.replicate ops.size false) a { w with drawn := w.drawn + 1 }
/-- A region whose operations, in the order of the text, come to these. -/
theorem evs_sound (hT : TOK P T) {k : St → Tr} {Q : Exit → Act → World → Prop}
    (hK : ∀ (ν' : Nu) (S' : St) (σ' : List Pl) (a' : Act) (w' : World), den P Fin Ag ν' (k S') → Rel w0 X ν' S' σ' a' w' → Q .normal a' w') {ν : Nu} {S S' : St} {σ : List Pl} {a : Act} {w : World} {evs : List Ev}
    (hch : ChainE T ops ops.toList S evs S') (hok : S.ok = true) (hbD : okD ops evs = true) {ds : Nu} (hd : den P Fin Ag (ν ++ ds) (k S')) (hlen : (ν ++ ds).length = S'.n) (hE : ∀ e ∈ evs, EvOK P (ν ++ ds) e) (hR : Rel w0 X ν S σ a w) : wpDraw P ops Q a w := by
  unfold okD at hbD
  simp only [Bool.and_eq_true] at hbD
  obtain ⟨s, ev, h0, hN, hel, hev, hstep⟩ := chain_fun _ _ _ _ hch
  have hN : s ops.size = S' := by simpa using hN
  have hel : evs.length = ops.size := by simpa using hel
  have hevs : ∀ i, i < ops.size → evs[i]? = some (ev i) := fun i hi => by
    have h1 : evs[i]? = some (evs[i]'(by omega)) := List.getElem?_eq_getElem _
    rw [h1, hev i _ h1]
  have hedge := okE_spec hbD.1
  have L : Lex T ops s ev := by
    refine ⟨fun i o ho => hstep i o (by simpa using ho), hedge, fun k id ob i hk hi hne hu ht => ?_⟩
    have h1 := okM_spec evs 0 hbD.2 k (ev k) id ob (hevs k hk) hu
    have h2 := okM1_spec evs 0 h1 i (ev i) (hevs i hi) (by omega) ht
    have hanc := ancs_ok (ops := ops) ops.toList [] (by simp) (fun i j h => by simp [getN] at h)
    simp only [Nat.zero_add] at h2
    exact h2.imp (hanc _ _) (hanc _ _)
  unfold wpDraw
  have hR1 := (hR.more hok ds).drewn
  have hz : ({ S with n := S.n + ds.length } : St) = { ({ S with n := S.n + ds.length } : St) with L := S.L } := rfl
  obtain ⟨σ', hR2⟩ := Rel.holes (S := { S with n := S.n + ds.length }) ((s ops.size).L.length - S.L.length) hR1
  have hmono := L.L_mono (i := 0) ops.size (by omega) (Nat.le_refl _)
  rw [h0] at hmono
  refine any_sound hT L (fun i hi => hE _ (List.mem_of_getElem? (hevs i hi))) (by rw [hN]; exact hlen) (fun σ a w hR => hK _ _ σ a w (by rw [hN]; exact hd) hR) ops.size _ _ σ' a _ (by simp) (by simp) (fun i hi => absurd hi (none_listedD _ _)) hR2 ?_
  refine { G := by rw [h0], Flen := by rw [h0], Llen := by simp; omega, Frest := fun t _ _ => by rw [h0], Fown := fun j o t hj => absurd hj (none_listedD _ _), Lrest := fun id _ => by unfold Go.Proofs.Ytdgjcdhomfhfpaa.holes; rw [h0], Lown := fun j id ob hj => absurd hj (none_listedD _ _) }
/-- A region that draws its order, some slots taken to be known. -/
theorem runD1_sound (hT : TOK P T) {k : St → Tr} {Q : Exit → Act → World → Prop} {Kn : List (Nat × Bool)}
    (hK : ∀ (ν' : Nu) (S' : St) (σ' : List Pl) (a' : Act) (w' : World), den P Fin Ag ν' (k S') → Rel w0 X ν' S' σ' a' w' → Q .normal a' w') {ν : Nu} {S : St} {σ : List Pl} {a : Act} {w : World}
    (hd : den P Fin Ag ν (match chainD T Kn ops ops.toList S with | some (evs, S') => bif S.ok && okD ops evs then treeD evs (k S') else .fail 5 | none => .fail 12)) (hR : Rel w0 X ν S σ a w) : wpDraw P ops Q a w := by
  split at hd
  rotate_left
  · simp [den] at hd
  rename_i evs S' hch
  cases hb : S.ok && okD ops evs
  · rw [hb] at hd; simp [den] at hd
  rw [hb] at hd
  simp only [Bool.and_eq_true] at hb
  simp only [cond_true] at hd
  obtain ⟨ds, hd, hlen, hE⟩ := treeD_facts _ _ _ _ ν _ hch hR.n hd
  exact evs_sound hT hK (chainE_of _ _ _ _ hch) hb.1 hb.2 hd hlen hE hR
theorem runDF_sound (hT : TOK P T) {k : St → Tr} {Q : Exit → Act → World → Prop} {fk : List Nat}
    (hK : ∀ (ν' : Nu) (S' : St) (σ' : List Pl) (a' : Act) (w' : World), den P Fin Ag ν' (k S') → Rel w0 X ν' S' σ' a' w' → Q .normal a' w') {ν : Nu} {S : St} {σ : List Pl} {a : Act} {w : World}
    (hd : den P Fin Ag ν (runDF T ops S k fk ops.toList S [])) (hR : Rel w0 X ν S σ a w) : wpDraw P ops Q a w := by
  obtain ⟨es, S', ds, h1, h2, h3, h4, h5⟩ := runDF_facts (S0 := S) ops.toList S [] ν hR.n hd
  simp only [List.nil_append, Bool.and_eq_true] at h2
  exact evs_sound hT hK h1 h2.1 h2.2 h3 h4 h5 hR

theorem runDK_sound (hT : TOK P T) {k : St → Tr} {Q : Exit → Act → World → Prop}
    (hK : ∀ (ν' : Nu) (S' : St) (σ' : List Pl) (a' : Act) (w' : World), den P Fin Ag ν' (k S') → Rel w0 X ν' S' σ' a' w' → Q .normal a' w') {ν : Nu} {S : St} {σ : List Pl} {a : Act} {w : World} (hR : Rel w0 X ν S σ a w) :
    ∀ (n : Nat) (Kn : List (Nat × Bool)), den P Fin Ag ν (runDK T ops S k n Kn) → wpDraw P ops Q a w
  | 0, Kn, hd => by
    unfold runDK at hd
    exact runD1_sound hT hK hd hR
  | n + 1, Kn, hd => by
    unfold runDK at hd
    cases hc : chainD T Kn ops ops.toList S with
    | some x =>
      rw [hc] at hd
      exact runD1_sound (Kn := Kn) hT hK (by rw [hc]; exact hd) hR
    | none =>
      rw [hc] at hd
      simp only at hd
      split at hd
      · rename_i d e hf
        simp only [den] at hd
        cases hb : denB ν e
        · exact runDK_sound hT hK hR n _ (hd.2 hb)
        · exact runDK_sound hT hK hR n _ (hd.1 hb)
      · exact runDF_sound (T := { T with cl := true }) hT hK hd hR

theorem runDA_sound (hT : TOK P T) {k : St → Tr} {Q : Exit → Act → World → Prop}
    (hK : ∀ (ν' : Nu) (S' : St) (σ' : List Pl) (a' : Act) (w' : World), den P Fin Ag ν' (k S') → Rel w0 X ν' S' σ' a' w' → Q .normal a' w') {ν : Nu} {S : St} {σ : List Pl} {a : Act} {w : World}
    (hd : den P Fin Ag ν (runD T ops S k)) (hR : Rel w0 X ν S σ a w) : wpDraw P ops Q a w :=
  runDK_sound hT hK hR 2 [] hd
/-- A REGION THAT DRAWS ITS ORDER. -/
theorem runD_sound (hT : TOK P T) (hm : P.follows .mixedOrders = true) {id : Nat} {k : St → Tr} {Q : Exit → Act → World → Prop}
    (hK : ∀ (ν' : Nu) (S' : St) (σ' : List Pl) (a' : Act) (w' : World), den P Fin Ag ν' (k S') → Rel w0 X ν' S' σ' a' w' → Q .normal a' w') {ν : Nu} {S : St} {σ : List Pl} {a : Act} {w : World}
    (hd : den P Fin Ag ν (runD T ops S k)) (hR : Rel w0 X ν S σ a w) : (Code.region id ops true).wp P Q a w :=
  wp_region_any hm (runDA_sound hT hK hd hR)
end
end Go.Proofs.Ytdgjcdhomfhfpaa
