/- A symbolic run of Go code: a state that comes under the head of a loop. No condition. -/
import Derived.Test.YtdgjcdhomfhfpaaAb15
namespace Go.Proofs.Ytdgjcdhomfhfpaa
open Go.RowKit
set_option linter.unusedSimpArgs false
set_option linter.unusedVariables false

def mkD (ν : Nu) : Srt × E → D
  | (.i, e) => .i (denI ν e)
  | (.b, e) => .b (denB ν e)
  | (.s, e) => .s (denS ν e)
  | (.l, e) => .l (denC ν e)

section
variable {P : Program} {w0 : Base} {ν : Nu} {w : World} {X : Nat → Prop} {σ σ' : List Pl} {S H : St} {a : Act} {M : Mt}

theorem at_past : ∀ (ν ds : Nu) (n : Nat), ν.length ≤ n → Nu.at (ν ++ ds) n = Nu.at ds (n - ν.length)
  | [], ds, n, _ => rfl
  | d :: ν, ds, 0, h => by simp at h
  | d :: ν, ds, n + 1, h => by
    simp only [List.cons_append, List.length_cons, Nat.add_sub_add_right]
    simp only [Nu.at]
    exact at_past ν ds n (by simpa using h)
theorem θAt_at (ν : Nu) : ∀ (θ : List (Srt × E)) (k : Nat) (p : Srt × E), θAt θ k = some p → Nu.at (θ.map (mkD ν)) k = mkD ν p
  | [], k, p, h => by simp [θAt] at h
  | q :: θ, 0, p, h => by
    simp only [θAt, Option.some.injEq] at h
    subst h
    rfl
  | q :: θ, k + 1, p, h => by
    simp only [List.map_cons, Nu.at]
    exact θAt_at ν θ k p (by simpa [θAt] using h)

def nu2 (M : Mt) (ν : Nu) : Nu := ν.take M.n0 ++ M.θ.map (mkD ν)

theorem fix_den (h0 : M.n0 ≤ ν.length) {e : E} (h : e.ok M.n0 = true) : denI (nu2 M ν) e = denI ν e ∧ denB (nu2 M ν) e = denB ν e ∧ denS (nu2 M ν) e = denS ν e ∧ denC (nu2 M ν) e = denC ν e := by
  have hl : (ν.take M.n0).length = M.n0 := by simp [h0]
  have h1 := den_app (ν.take M.n0) (M.θ.map (mkD ν)) e (by rw [hl]; exact h)
  have h2 := den_app (ν.take M.n0) (ν.drop M.n0) e (by rw [hl]; exact h)
  rw [List.take_append_drop] at h2
  unfold nu2
  exact ⟨h1.1.trans h2.1.symm, h1.2.1.trans h2.2.1.symm, h1.2.2.1.trans h2.2.2.1.symm, h1.2.2.2.trans h2.2.2.2.symm⟩
theorem fix_cvE (h0 : M.n0 ≤ ν.length) {e : E} (h : e.ok M.n0 = true) : cvE (nu2 M ν) e = cvE ν e := by
  have hl : (ν.take M.n0).length = M.n0 := by simp [h0]
  have h1 := cvE_app (ν.take M.n0) (M.θ.map (mkD ν)) e (by rw [hl]; exact h)
  have h2 := cvE_app (ν.take M.n0) (ν.drop M.n0) e (by rw [hl]; exact h)
  rw [List.take_append_drop] at h2
  unfold nu2
  exact h1.trans h2.symm
theorem var_at (h0 : M.n0 ≤ ν.length) {m : Nat} (hm : M.n0 ≤ m) {p : Srt × E} (h : θAt M.θ (m - M.n0) = some p) : Nu.at (nu2 M ν) m = mkD ν p := by
  have hl : (ν.take M.n0).length = M.n0 := by simp [h0]
  unfold nu2
  rw [at_past _ _ _ (by omega), hl]
  exact θAt_at ν _ _ _ h

theorem okT_den (h0 : M.n0 ≤ ν.length) {q : Srt} {h e : E} (ho : okT M q h e = true) : (q = .i → denI (nu2 M ν) h = denI ν e) ∧ (q = .b → denB (nu2 M ν) h = denB ν e) ∧ (q = .s → denS (nu2 M ν) h = denS ν e) ∧ (q = .l → denC (nu2 M ν) h = denC ν e) := by
  have low : ∀ m : Nat, Nat.ble M.n0 m = false → (E.var m).ok M.n0 = true := fun m hm => by
    simp only [E.ok]
    rw [Nat.blt_eq]; exact Nat.lt_of_not_le fun h => by rw [Nat.ble_eq_true_of_le h] at hm; cases hm
  have eqs : ∀ {x : E}, x.ok M.n0 = true → e = x → (q = .i → denI (nu2 M ν) x = denI ν e) ∧ (q = .b → denB (nu2 M ν) x = denB ν e) ∧ (q = .s → denS (nu2 M ν) x = denS ν e) ∧ (q = .l → denC (nu2 M ν) x = denC ν e) := fun hx he => by
    subst he
    have := fix_den h0 hx
    exact ⟨fun _ => this.1, fun _ => this.2.1, fun _ => this.2.2.1, fun _ => this.2.2.2⟩
  unfold okT at ho
  split at ho
  · rename_i m
    cases hb : Nat.ble M.n0 m
    · rw [hb] at ho
      simp only [cond_false, decide_eq_true_eq] at ho
      exact eqs (low m hb) ho
    · rw [hb] at ho
      simp only [cond_true] at ho
      split at ho
      · rename_i q' e' hθ
        simp only [Bool.and_eq_true, decide_eq_true_eq] at ho
        obtain ⟨rfl, rfl⟩ := ho
        have := var_at h0 (by simpa using hb) hθ
        refine ⟨fun hs => ?_, fun hs => ?_, fun hs => ?_, fun hs => ?_⟩ <;> subst hs <;> first | simp only [denI, this, mkD, D.int] | simp only [denB, this, mkD, D.bool] | simp only [denS, this, mkD, D.str] | simp only [denC, this, mkD, D.els]
      · simp at ho
  · rename_i m
    cases hb : Nat.ble M.n0 m
    · rw [hb] at ho
      simp only [cond_false, decide_eq_true_eq] at ho
      exact eqs (by simpa only [E.ok] using low m hb) ho
    · rw [hb] at ho
      simp only [cond_true] at ho
      split at ho
      · rename_i d e' hθ
        simp only [decide_eq_true_eq] at ho
        subst ho
        have := var_at h0 (by simpa using hb) hθ
        refine ⟨fun hs => ?_, fun hs => ?_, fun hs => ?_, fun hs => ?_⟩
        · simp only [denI, denC, this, mkD, D.els]
        · simp only [denB]
        · simp only [denS]
        · simp only [denC]
      · simp at ho
  · simp only [Bool.and_eq_true, decide_eq_true_eq] at ho
    exact eqs ho.1 ho.2

theorem okT_i (h0 : M.n0 ≤ ν.length) {h e : E} (ho : okT M .i h e = true) : denI (nu2 M ν) h = denI ν e := (okT_den h0 ho).1 rfl
theorem okT_b (h0 : M.n0 ≤ ν.length) {h e : E} (ho : okT M .b h e = true) : denB (nu2 M ν) h = denB ν e := (okT_den h0 ho).2.1 rfl
theorem okT_s (h0 : M.n0 ≤ ν.length) {h e : E} (ho : okT M .s h e = true) : denS (nu2 M ν) h = denS ν e := (okT_den h0 ho).2.2.1 rfl
theorem okT_l (h0 : M.n0 ≤ ν.length) {h e : E} (ho : okT M .l h e = true) : denC (nu2 M ν) h = denC ν e := (okT_den h0 ho).2.2.2 rfl

theorem sameK_eq {v v' : Value} (h : sameK v v' = true) : v = v' := by
  unfold sameK at h
  split at h
  · rfl
  · simp only [Bool.and_eq_true, Array.isEmpty_iff] at h
    obtain ⟨⟨⟨⟨h1, h2⟩, h3⟩, h4⟩, h5⟩ := h
    subst h2 h3 h4 h5
    rw [Nat.eq_of_beq_eq_true h1]
  · rfl
  · rfl
  · simp at h

/-- where the head's objects lie -/
structure Under (M : Mt) (HL SL : List Ob) (σ σ' : List Pl) : Prop where
  same : ∀ (j k v v' : Nat), idAt M.ids j = some (some k) → verOf HL j v = true → verOf SL k v' = true → ∀ pl : Pl, σ[k]? = some pl → σ'[j]? = some { pl with ver := v }
  none : ∀ (j v : Nat), idAt M.ids j = some none → verOf HL j v = true → ∃ sz, σ'[j]? = some ⟨v, .none, sz⟩
  own : ∀ b, Own σ' b → Own σ b
  ver : ∀ (k v : Nat), verOf SL k v = true → ∀ pl : Pl, σ[k]? = some pl → pl.ver = v

theorem isId_eq {o : Option (Option Nat)} {id : Nat} (h : isId o id = true) : o = some (some id) := by
  unfold isId at h
  split at h
  · rw [Nat.eq_of_beq_eq_true h]
  · simp at h
theorem isNo'_eq {o : Option (Option Nat)} (h : isNo' o = true) : o = some none := by
  unfold isNo' at h
  split at h
  · rfl
  · simp at h

theorem nil_k {v : LV} {HL SL : List Ob} {h : E} (ho : okV M HL SL (.vs h) v = true) (hv : ∀ e, v ≠ .vs e) : v = .k (.slice none 0 0) ∧ okT M .l h (.str []) = true := by
  unfold okV at ho
  split at ho <;> simp_all
theorem nil_rs {v : LV} {HL SL : List Ob} {j ver : Nat} {o n : E} (ho : okV M HL SL (.rs j ver o n) v = true) (hv : ∀ a b c d, v ≠ .rs a b c d) : v = .k (.slice none 0 0) ∧ verOf HL j ver = true ∧ isNo' (idAt M.ids j) = true ∧ isZero o = true ∧ okT M .i n (.clen (.str [])) = true := by
  cases v with
  | rs a b c d => exact absurd rfl (hv a b c d)
  | k x =>
    unfold okV at ho
    split at ho <;> simp_all
  | _ => simp [okV] at ho
mutual
theorem okV_LR (h0 : M.n0 ≤ ν.length) {HL SL : List Ob} (hU : Under M HL SL σ σ') : ∀ (h v : LV) (r : Value), okV M HL SL h v = true → LR ν w X σ v r → LR (nu2 M ν) w X σ' h r
  | .junk, v, r, _, _ => by simp only [LR]
  | .b h, v, r, ho, l => by
    cases v with
    | b e =>
      simp only [LR] at l ⊢
      rw [okT_b h0 (by simpa only [okV] using ho)]
      exact l
    | _ => simp [okV] at ho
  | .i k h, v, r, ho, l => by
    cases v with
    | i k' e =>
      simp only [okV, Bool.and_eq_true, kEq_iff] at ho
      simp only [LR] at l ⊢
      rw [okT_i h0 ho.2, ho.1]
      exact l
    | _ => simp [okV] at ho
  | .s h, v, r, ho, l => by
    cases v with
    | s e =>
      simp only [LR] at l ⊢
      rw [okT_s h0 (by simpa only [okV] using ho)]
      exact l
    | _ => simp [okV] at ho
  | .vs h, v, r, ho, l => by
    by_cases hv : ∃ e, v = .vs e
    · obtain ⟨e, rfl⟩ := hv
      simp only [LR] at l ⊢
      rw [okT_l h0 (by simpa only [okV] using ho)]
      refine l.mono fun b hb => ?_
      rcases hb with hb | hb
      · exact .inl hb
      · exact .inr (hU.own b hb)
    · obtain ⟨rfl, h2⟩ := nil_k ho (fun e he => hv ⟨e, he⟩)
      simp only [LR] at l ⊢
      subst l
      rw [okT_l h0 h2]
      simp only [denC]
      exact .nil _
  | .k x, v, r, ho, l => by
    cases v with
    | k v' =>
      simp only [LR] at l ⊢
      rw [sameK_eq (v := x) (v' := v') (by simpa only [okV] using ho)]
      exact l
    | _ => simp [okV] at ho
  | .o h, v, r, ho, l => by
    cases v with
    | o e =>
      simp only [okV, Bool.and_eq_true, decide_eq_true_eq] at ho
      obtain ⟨ho, rfl⟩ := ho
      simp only [LR] at l ⊢
      rw [fix_cvE h0 ho]
      refine l.mono fun b hb => ?_
      rcases hb with hb | hb
      · exact .inl hb
      · exact .inr (hU.own b hb)
    | _ => simp [okV] at ho
  | .agg cs, v, r, ho, l => by
    cases v with
    | agg es =>
      simp only [LR] at l ⊢
      obtain ⟨ar, hr, ha⟩ := l
      exact ⟨ar, hr, okVs_LRs h0 hU cs es ar.toList (by simpa only [okV] using ho) ha⟩
    | _ => simp [okV] at ho
  | .tup cs, v, r, ho, l => by
    cases v with
    | tup es =>
      simp only [LR] at l ⊢
      obtain ⟨ar, hr, ha⟩ := l
      exact ⟨ar, hr, okVs_LRs h0 hU cs es ar.toList (by simpa only [okV] using ho) ha⟩
    | _ => simp [okV] at ho
  | .fn f cs, v, r, ho, l => by
    cases v with
    | fn f' es =>
      simp only [okV, Bool.and_eq_true] at ho
      simp only [LR] at l ⊢
      obtain ⟨ar, hr, ha⟩ := l
      rw [Nat.eq_of_beq_eq_true ho.1]
      exact ⟨ar, hr, okVs_LRs h0 hU cs es ar.toList ho.2 ha⟩
    | _ => simp [okV] at ho
  | .nl _ _, v, r, ho, l => by cases v <;> simp [okV] at ho
  | .ifc t u, v, r, ho, l => by
    cases v with
    | ifc t' u' =>
      simp only [okV, Bool.and_eq_true] at ho
      simp only [LR] at l ⊢
      obtain ⟨x, hr, hx⟩ := l
      rw [Nat.eq_of_beq_eq_true ho.1]
      exact ⟨x, hr, okV_LR h0 hU u u' x ho.2 hx⟩
    | _ => simp [okV] at ho
  | .mp j ver, v, r, ho, l => by
    cases v with
    | mp id v' =>
      simp only [okV, Bool.and_eq_true] at ho
      obtain ⟨⟨h2, h3⟩, h4⟩ := ho
      simp only [LR] at l ⊢
      obtain ⟨p, pl, hr, hpl, hv, hat⟩ := l
      exact ⟨p, _, hr, hU.same _ _ _ _ (isId_eq h4) h2 h3 pl hpl, Nat.le_refl _, fun _ => hat (hU.ver _ _ h3 pl hpl).symm⟩
    | _ => simp [okV] at ho
  | .ptr j ver off, v, r, ho, l => by
    cases v with
    | ptr id v' off' =>
      simp only [okV, Bool.and_eq_true] at ho
      obtain ⟨⟨⟨h1, h2⟩, h3⟩, h4⟩ := ho
      have h1 := Nat.eq_of_beq_eq_true h1
      subst h1
      simp only [LR] at l ⊢
      obtain ⟨p, pl, hr, hpl, hv, hat⟩ := l
      exact ⟨p, _, hr, hU.same _ _ _ _ (isId_eq h4) h2 h3 pl hpl, Nat.le_refl _, fun _ => hat (hU.ver _ _ h3 pl hpl).symm⟩
    | _ => simp [okV] at ho
  | .rs j ver o n, v, r, ho, l => by
    by_cases hv : ∃ a b c d, v = .rs a b c d
    · obtain ⟨id, v', o', n', rfl⟩ := hv
      simp only [okV, Bool.and_eq_true] at ho
      obtain ⟨⟨⟨⟨h2, h3⟩, h4⟩, h5⟩, h6⟩ := ho
      simp only [LR] at l ⊢
      obtain ⟨ad, len, rc, pl, hr, hpl, hv, hat⟩ := l
      refine ⟨ad, len, rc, _, hr, hU.same _ _ _ _ (isId_eq h4) h2 h3 pl hpl, Nat.le_refl _, fun _ => ?_⟩
      rw [okT_i h0 h5, okT_i h0 h6]
      exact hat (hU.ver _ _ h3 pl hpl).symm
    · obtain ⟨rfl, h2, h3, h4, h5⟩ := nil_rs ho (fun a b c d he => hv ⟨a, b, c, d, he⟩)
      simp only [LR] at l ⊢
      subst l
      obtain ⟨sz, hs⟩ := hU.none j ver (isNo'_eq h3) h2
      refine ⟨none, 0, 0, _, rfl, hs, Nat.le_refl _, fun _ => .inl ⟨rfl, rfl, rfl, rfl, ?_, ?_⟩⟩
      · rw [okT_i h0 h5]; simp [denI, denC]
      · unfold isZero at h4
        split at h4
        · simp [denI]
        · simp at h4
  | .vp c i f, v, r, ho, l => by
    cases v with
    | vp c' i' f' =>
      simp only [okV, Bool.and_eq_true] at ho
      obtain ⟨⟨h1, h2⟩, h3⟩ := ho
      have h3 := Nat.eq_of_beq_eq_true h3
      subst h3
      simp only [LR] at l ⊢
      rw [okT_l h0 h1, okT_i h0 h2]
      obtain ⟨b, o, g, hr, hg⟩ := l
      refine ⟨b, o, g, hr, fun f' cv hf => ?_⟩
      obtain ⟨g1, g2, g3⟩ := hg f' cv hf
      have hsub : ∀ b, Exc X σ' b → Exc X σ b := fun b hb => by
        rcases hb with hb | hb
        · exact .inl hb
        · exact .inr (hU.own b hb)
      exact ⟨fun hx => g1 (hsub _ hx), g2, g3.mono hsub⟩
    | _ => simp [okV] at ho
  | .rp _ _ _ _, v, r, ho, l => by cases v <;> simp [okV] at ho
  | .g _ _, v, r, ho, l => by cases v <;> simp [okV] at ho
theorem okVs_LRs (h0 : M.n0 ≤ ν.length) {HL SL : List Ob} (hU : Under M HL SL σ σ') : ∀ (hs vs : List LV) (rs : List Value), okVs M HL SL hs vs = true → LRs ν w X σ vs rs → LRs (nu2 M ν) w X σ' hs rs
  | [], vs, rs, ho, l => by
    cases vs with
    | nil => cases rs with
      | nil => simp only [LRs]
      | cons r rs => simp only [LRs] at l
    | cons v vs => simp [okVs] at ho
  | h :: hs, vs, rs, ho, l => by
    cases vs with
    | nil => simp [okVs] at ho
    | cons v vs => cases rs with
      | nil => simp only [LRs] at l
      | cons r rs =>
        simp only [okVs, Bool.and_eq_true] at ho
        simp only [LRs] at l ⊢
        exact ⟨okV_LR h0 hU h v r ho.1 l.1, okVs_LRs h0 hU hs vs rs ho.2 l.2⟩
end

/-- where an object of the head lies -/
def plH (HL : List Ob) (σ : List Pl) (id : Option (Option Nat)) (h : Ob) : Pl :=
  match id with
  | some (some k) => { (σ[k]?).getD ⟨0, none, 0⟩ with ver := h.ver }
  | some none => ⟨h.ver, none, match h.o with
    | .row _ _ sz => sz
    | _ => 0⟩
  | none => ⟨0, none, 0⟩
def plsH (M : Mt) (HL : List Ob) (σ : List Pl) : Nat → List Ob → List Pl
  | _, [] => []
  | j, h :: r => plH HL σ (idAt M.ids j) h :: plsH M HL σ (j + 1) r
theorem plsH_len (HL : List Ob) (σ : List Pl) : ∀ (j : Nat) (l : List Ob), (plsH M HL σ j l).length = l.length
  | _, [] => rfl
  | j, h :: r => by simp [plsH, plsH_len HL σ (j + 1) r]
theorem plsH_at (HL : List Ob) (σ : List Pl) : ∀ (l : List Ob) (j i : Nat), (plsH M HL σ j l)[i]? = (getO l i).map (plH HL σ (idAt M.ids (j + i)))
  | [], j, i => by simp [plsH, getO]
  | h :: r, j, 0 => by simp [plsH, getO]
  | h :: r, j, i + 1 => by
    simp only [plsH, List.getElem?_cons_succ, getO]
    rw [plsH_at HL σ r (j + 1) i, show j + 1 + i = j + (i + 1) by omega]
theorem okObs_at {HL SL : List Ob} : ∀ (l : List Ob) (j i : Nat) (h : Ob), okObs M HL SL j l = true → getO l i = some h → okOb M HL SL (idAt M.ids (j + i)) h = true
  | [], j, i, h, _, hg => by simp [getO] at hg
  | x :: r, j, 0, h, ho, hg => by
    simp only [okObs, Bool.and_eq_true] at ho
    simp only [getO, Option.some.injEq] at hg
    subst hg
    exact ho.1
  | x :: r, j, i + 1, h, ho, hg => by
    simp only [okObs, Bool.and_eq_true] at ho
    have := okObs_at r (j + 1) i h ho.2 (by simpa [getO] using hg)
    rwa [show j + 1 + i = j + (i + 1) by omega] at this
theorem isIn_of : ∀ (l : List (Option (Option Nat))) (i k : Nat), idAt l i = some (some k) → isIn k l = true
  | [], i, k, h => by simp [idAt] at h
  | x :: r, 0, k, h => by
    simp only [idAt] at h
    subst h
    simp [isIn]
  | x :: r, i + 1, k, h => by
    have := isIn_of r i k (by simpa [idAt] using h)
    unfold isIn
    split <;> simp_all
theorem apart_of : ∀ (l : List (Option (Option Nat))) (i j k : Nat), apart l = true → idAt l i = some (some k) → idAt l j = some (some k) → i = j
  | [], i, j, k, _, h, _ => by simp [idAt] at h
  | x :: r, 0, 0, k, _, _, _ => rfl
  | x :: r, 0, j + 1, k, ha, hi, hj => by
    simp only [idAt] at hi
    subst hi
    simp only [apart, Bool.and_eq_true] at ha
    have := isIn_of r j k (by simpa [idAt] using hj)
    rw [this] at ha
    simp at ha
  | x :: r, i + 1, 0, k, ha, hi, hj => by
    simp only [idAt] at hj
    subst hj
    simp only [apart, Bool.and_eq_true] at ha
    have := isIn_of r i k (by simpa [idAt] using hi)
    rw [this] at ha
    simp at ha
  | x :: r, i + 1, j + 1, k, ha, hi, hj => by
    have hr : apart r = true := by
      unfold apart at ha
      split at ha <;> simp_all
    rw [apart_of r i j k hr (by simpa [idAt] using hi) (by simpa [idAt] using hj)]

/-- A STATE THAT COMES UNDER A HEAD IS ONE OF THE HEAD'S. -/
theorem match_sound (hR : Rel w0 X ν S σ a w) (ho : okM' M H S = true) : ∃ σ', Rel w0 X (nu2 M ν) H σ' a w := by
  simp only [okM', Bool.and_eq_true] at ho
  obtain ⟨⟨⟨⟨⟨⟨h1, h2⟩, h3⟩, h4⟩, h5⟩, h6⟩, h7⟩ := ho
  have h0 : M.n0 ≤ ν.length := by rw [hR.n]; simpa using h1
  have h2 := Nat.eq_of_beq_eq_true h2
  have h3 := Nat.eq_of_beq_eq_true h3
  have at' : ∀ i, (plsH M H.L σ 0 H.L)[i]? = (getO H.L i).map (plH H.L σ (idAt M.ids i)) := fun i => by
    have := plsH_at (M := M) H.L σ H.L 0 i
    rwa [Nat.zero_add] at this
  have okat : ∀ i h, getO H.L i = some h → okOb M H.L S.L (idAt M.ids i) h = true := fun i h hi => by
    have := okObs_at H.L 0 i h h6 hi
    rwa [Nat.zero_add] at this
  have hown : ∀ i (p : Pl) b c, (plsH M H.L σ 0 H.L)[i]? = some p → p.at_ = some (b, c) → ∃ k q, idAt M.ids i = some (some k) ∧ σ[k]? = some q ∧ q.at_ = some (b, c) := fun i p b c hi hp => by
    rw [at' i] at hi
    cases hg : getO H.L i with
    | none => rw [hg] at hi; simp at hi
    | some h =>
      rw [hg] at hi
      simp only [Option.map_some, Option.some.injEq] at hi
      subst hi
      unfold plH at hp
      split at hp
      · rename_i k hk
        cases hs : σ[k]? with
        | none => rw [hs] at hp; simp at hp
        | some q =>
          rw [hs] at hp
          exact ⟨k, q, hk, hs, by simpa using hp⟩
      · simp at hp
      · simp at hp
  have hU : Under M H.L S.L σ (plsH M H.L σ 0 H.L) := by
    refine ⟨fun j k v v' hj hv hv' pl hpl => ?_, fun j v hj hv => ?_, fun b hb => ?_, fun k v hv pl hpl => ?_⟩
    · rw [at' j]
      unfold verOf at hv
      split at hv
      · rename_i ob hob
        rw [hob, hj]
        simp only [Option.map_some, plH, hpl, Option.getD_some]
        rw [Nat.eq_of_beq_eq_true hv]
      · simp at hv
    · rw [at' j]
      unfold verOf at hv
      split at hv
      · rename_i ob hob
        rw [hob, hj]
        simp only [Option.map_some, plH]
        rw [Nat.eq_of_beq_eq_true hv]
        exact ⟨_, rfl⟩
      · simp at hv
    · obtain ⟨i, p, c, hi, hp⟩ := hb
      obtain ⟨k, q, _, hk, hq⟩ := hown i p b c hi hp
      exact ⟨k, q, c, hk, hq⟩
    · unfold verOf at hv
      split at hv
      · rename_i ob hob
        rw [(hR.L k ob pl hob hpl).1]
        exact Nat.eq_of_beq_eq_true hv
      · simp at hv
  have hexc : ∀ b, Exc X (plsH M H.L σ 0 H.L) b → Exc X σ b := fun b hb => by
    rcases hb with hb | hb
    · exact .inl hb
    · exact .inr (hU.own b hb)
  refine ⟨plsH M H.L σ 0 H.L, ?_⟩
  exact { defers := hR.defers, F := okVs_LRs h0 hU _ _ _ h5 hR.F, len := plsH_len _ _ _ _
          L := fun i ob pl hg hi => by
            rw [at' i, hg] at hi
            simp only [Option.map_some, Option.some.injEq] at hi
            subst hi
            have hok := okat i ob hg
            unfold okOb at hok
            split at hok
            · rename_i hid
              split at hok
              · rw [hid]
                exact ⟨rfl, rfl⟩
              · simp at hok
            · rename_i hid
              rw [hid]
              split at hok
              · rename_i c t sz hrow
                simp only [Bool.and_eq_true] at hok
                refine ⟨rfl, ?_⟩
                rw [hrow]
                simp only [plH, hrow, OR]
                have hc := okT_l h0 hok.1
                simp only [denC] at hc
                rw [hc]
                have : 1 ≤ sz := by simpa using hok.2
                exact ⟨trivial, this, by simp, .inl ⟨trivial, rfl⟩⟩
              · simp at hok
            · rename_i k hid
              rw [hid]
              split at hok
              · simp at hok
              · rename_i e he
                have hk : k < S.L.length := getO_lt _ _ _ he
                rw [← hR.len] at hk
                have hpl : σ[k]? = some σ[k] := by simp [hk]
                obtain ⟨hv, hO⟩ := hR.L k e _ he hpl
                refine ⟨rfl, ?_⟩
                simp only [plH, hpl, Option.getD_some]
                split at hok
                · rename_i cs t es t' h1' h2'
                  simp only [Bool.and_eq_true] at hok
                  rw [h2'] at hO
                  rw [h1']
                  obtain ⟨b, c, ar, fr, g1, g2, g3, g4⟩ := hO
                  rw [Nat.eq_of_beq_eq_true hok.1]
                  exact ⟨b, c, ar, fr, g1, g2, g3, okVs_LRs h0 hU _ _ _ hok.2 g4⟩
                · rename_i c t sz d t' sz' h1' h2'
                  simp only [Bool.and_eq_true] at hok
                  rw [h2'] at hO
                  rw [h1']
                  obtain ⟨g1, g2, g3, g4⟩ := hO
                  have hc := okT_l h0 hok.2
                  have hsz := Nat.eq_of_beq_eq_true hok.1.2
                  have htt := Nat.eq_of_beq_eq_true hok.1.1
                  subst hsz htt
                  simp only [OR]
                  rw [hc]
                  refine ⟨g1, g2, g3, ?_⟩
                  rcases g4 with g4 | ⟨b, cap, ar, fr, k1, k2, k3, k4, k5, k6⟩
                  · exact .inl g4
                  · refine .inr ⟨b, cap, ar, fr, k1, k2, k3, k4, k5, fun i el hi f cv hf => ?_⟩
                    obtain ⟨r, hr, hcv⟩ := k6 i el hi f cv hf
                    exact ⟨r, hr, hcv.mono hexc⟩
                · rename_i c vk d vk' h1' h2'
                  simp only [Bool.and_eq_true] at hok
                  rw [h2'] at hO
                  rw [h1']
                  obtain ⟨b, c0, es, clock, g1, g2, g3⟩ := hO
                  have hvk := Nat.eq_of_beq_eq_true hok.1
                  subst hvk
                  simp only [OR]
                  rw [okT_l h0 hok.2]
                  exact ⟨b, c0, es, clock, g1, g2, g3.step ⟨fun _ _ _ => rfl, fun b hb => .inl (hexc b hb), Nat.le_refl _⟩⟩
                · rename_i s p s' p' h1' h2'
                  simp only [Bool.and_eq_true] at hok
                  rw [h2'] at hO
                  rw [h1']
                  obtain ⟨b, c, g1, g2, g3⟩ := hO
                  simp only [OR]
                  rw [okT_s h0 hok.1, okT_i h0 hok.2]
                  exact ⟨b, c, g1, g2, g3⟩
                · simp at hok
          inj := fun i j p q b c d hi hj hp hq => by
            obtain ⟨k, p', hk, hk1, hk2⟩ := hown i p b c hi hp
            obtain ⟨l, q', hl, hl1, hl2⟩ := hown j q b d hj hq
            have := hR.inj k l p' q' b c d hk1 hl1 hk2 hl2
            subst this
            exact apart_of M.ids i j k h4 hk hl
          own := fun b hb => hR.own b (hU.own b hb)
          old := hR.old, ex := hR.ex, glo := hR.glo, G := okVs_LRs h0 hU _ _ _ h7 hR.G
          n := by
            unfold nu2
            simp only [List.length_append, List.length_take, List.length_map]
            omega }
theorem matchS_sound (hR : Rel w0 X ν S σ a w) {n0 : Nat} {θ : List (Srt × E)} (ho : matchS n0 H S = some θ) : (∃ σ', Rel w0 X (ν.take n0 ++ θ.map (mkD ν)) H σ' a w) ∧ n0 ≤ ν.length ∧ H.n = n0 + θ.length := by
  unfold matchS at ho
  dsimp only at ho
  generalize hM : (Mt.mk n0 _ _) = M at ho
  cases hb : okM' M H S
  · rw [hb] at ho; simp at ho
  rw [hb] at ho
  simp only [cond_true, Option.some.injEq] at ho
  have hn : M.n0 = n0 := by rw [← hM]
  have ho : M.θ = θ := by rw [← hM]; exact ho
  subst ho
  obtain ⟨σ', h⟩ := match_sound hR hb
  simp only [okM', Bool.and_eq_true] at hb
  have h1 := hb.1.1.1.1.1.1
  have h2 := Nat.eq_of_beq_eq_true hb.1.1.1.1.1.2
  unfold nu2 at h
  rw [hn] at h h1 h2
  exact ⟨⟨σ', h⟩, by rw [hR.n]; simpa using h1, h2⟩
end
end Go.Proofs.Ytdgjcdhomfhfpaa
