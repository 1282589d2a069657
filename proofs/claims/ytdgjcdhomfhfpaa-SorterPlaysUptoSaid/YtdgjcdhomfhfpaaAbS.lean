/- A symbolic run of Go code: regions that draw their order, any order. No condition. -/
import Derived.Test.YtdgjcdhomfhfpaaAbR
namespace Go.Proofs.Ytdgjcdhomfhfpaa
open Go.RowKit
set_option linter.unusedSimpArgs false
set_option linter.unusedVariables false

theorem getL_setL : ∀ (l : List LV) (i : Nat) (x : LV) (j : Nat), getL (setL l i x) j = if j = i ∧ i < l.length then x else getL l j
  | [], i, x, j => by simp [setL, getL]
  | y :: l, 0, x, 0 => by simp [setL, getL]
  | y :: l, 0, x, j + 1 => by simp [setL, getL]
  | y :: l, i + 1, x, 0 => by simp [setL, getL]
  | y :: l, i + 1, x, j + 1 => by
    simp only [setL, getL, getL_setL l i x j, Nat.add_right_cancel_iff, List.length_cons, Nat.add_lt_add_iff_right]
theorem setL_length : ∀ (l : List LV) (i : Nat) (x : LV), (setL l i x).length = l.length
  | [], _, _ => rfl
  | _ :: _, 0, _ => rfl
  | _ :: l, i + 1, x => by simp [setL, setL_length l i x]
theorem put_length (S : St) (d : Option Tmp) (v : LV) : (S.put d v).F.length = S.F.length := by
  cases d with
  | none => rfl
  | some d => simp [St.put, setL_length]
theorem getL_put (S : St) (d : Option Tmp) (v : LV) (t : Nat) : getL (S.put d v).F t = if d = some t ∧ t < S.F.length then v else getL S.F t := by
  cases d with
  | none => simp [St.put]
  | some d =>
    simp only [St.put, getL_setL, Option.some.injEq]
    by_cases e : t = d
    · subst e; simp
    · simp [e, Ne.symm e]
theorem ext_getL : ∀ (l l' : List LV), l.length = l'.length → (∀ t, t < l.length → getL l t = getL l' t) → l = l'
  | [], [], _, _ => rfl
  | [], _ :: _, h, _ => by simp at h
  | _ :: _, [], h, _ => by simp at h
  | x :: l, y :: l', h, hg => by
    have h0 := hg 0 (by simp)
    simp only [getL] at h0
    rw [h0, ext_getL l l' (by simpa using h) fun t ht => by simpa [getL] using hg (t + 1) (by simpa using ht)]
theorem getO_some : ∀ (l : List Ob) (i : Nat), i < l.length → ∃ x, getO l i = some x
  | [], i, h => by simp at h
  | x :: _, 0, _ => ⟨x, rfl⟩
  | _ :: l, i + 1, h => by simpa [getO] using getO_some l i (by simpa using h)
theorem getO_none : ∀ (l : List Ob) (i : Nat), l.length ≤ i → getO l i = none
  | [], i, h => rfl
  | x :: _, 0, h => by simp at h
  | _ :: l, i + 1, h => by simpa [getO] using getO_none l i (by simpa using h)
theorem ext_getO : ∀ (l l' : List Ob), l.length = l'.length → (∀ t, t < l.length → getO l t = getO l' t) → l = l'
  | [], [], _, _ => rfl
  | [], _ :: _, h, _ => by simp at h
  | _ :: _, [], h, _ => by simp at h
  | x :: l, y :: l', h, hg => by
    have h0 := hg 0 (by simp)
    simp only [getO, Option.some.injEq] at h0
    rw [h0, ext_getO l l' (by simpa using h) fun t ht => by simpa [getO] using hg (t + 1) (by simpa using ht)]
theorem getO_append : ∀ (l r : List Ob) (i : Nat), getO (l ++ r) i = if i < l.length then getO l i else getO r (i - l.length)
  | [], r, i => by simp [getO]
  | x :: l, r, 0 => by simp [getO]
  | x :: l, r, i + 1 => by
    simp only [List.cons_append, getO, getO_append l r i, List.length_cons, Nat.add_lt_add_iff_right, Nat.add_sub_add_right]
theorem getO_replicate : ∀ (n : Nat) (x : Ob) (i : Nat), i < n → getO (List.replicate n x) i = some x
  | 0, x, i, h => by omega
  | n + 1, x, 0, h => by simp [List.replicate_succ, getO]
  | n + 1, x, i + 1, h => by simpa [List.replicate_succ, getO] using getO_replicate n x i (by omega)

theorem last_below (p : Nat → Prop) (i : Nat) (h : ∃ j, j < i ∧ p j) : ∃ j, j < i ∧ p j ∧ ∀ k, j < k → k < i → ¬ p k := by
  induction i with
  | zero => obtain ⟨j, hj, _⟩ := h; omega
  | succ i ih =>
    by_cases hp : p i
    · exact ⟨i, by omega, hp, fun k h1 h2 => by omega⟩
    · obtain ⟨j, hj, hpj⟩ := h
      have : j ≠ i := fun e => hp (e ▸ hpj)
      obtain ⟨j', h1, h2, h3⟩ := ih ⟨j, by omega, hpj⟩
      refine ⟨j', by omega, h2, fun k hk1 hk2 => ?_⟩
      by_cases e : k = i
      · subst e; exact hp
      · exact h3 k hk1 (by omega)

theorem upS_L (S : St) (id : Nat) (ob : Ob) (h : id ≤ S.L.length) : id < (upS S (some (id, ob))).L.length ∧ S.L.length ≤ (upS S (some (id, ob))).L.length ∧ (upS S (some (id, ob))).L.length ≤ S.L.length + (if id = S.L.length then 1 else 0) ∧
    ∀ j, getO (upS S (some (id, ob))).L j = if j = id then some ob else getO S.L j := by
  simp only [upS]
  cases hb : Nat.beq id S.L.length
  · have hne : id ≠ S.L.length := fun e => by subst e; simp at hb
    simp only [cond_false, setO_len, if_neg hne]
    refine ⟨by omega, Nat.le_refl _, Nat.le_refl _, fun j => ?_⟩
    rw [getO_set]
    by_cases e : j = id
    · subst e; rw [if_pos ⟨rfl, by omega⟩, if_pos rfl]
    · rw [if_neg (fun h => e h.1), if_neg e]
  · have he := Nat.eq_of_beq_eq_true hb
    subst he
    simp only [cond_true, List.length_append, List.length_cons, List.length_nil, if_true]
    refine ⟨by omega, by omega, by omega, fun j => ?_⟩
    rw [getO_app]
    by_cases e : j = S.L.length
    · subst e; simp
    · rw [if_neg e, if_neg e]
      split
      · rfl
      · rw [getO_none]; omega

section
variable {P : Program} {T : Tab} {w0 : Base} {X : Nat → Prop} {Fin : Nu → Ex → St → Prop} {Ag : Nu → Nat → List D → Prop} {ops : Array Oper}

theorem stepD0_up {o : Oper} {S : St} {e : Ev} (h : stepD0 T ops o S = some e) {id : Nat} {ob : Ob} (hu : e.up = some (id, ob)) : id ≤ S.L.length := by
  unfold stepD0 at h
  split at h
  · simp at h
  · simp only [Option.some.injEq] at h
    subst h
    simp at hu
  rename_i g _ hg
  have h := cond_some' h
  unfold evOp at h
  split at h
  · rename_i f args hc
    split at h
    · rename_i M hM
      have h' := cond_some h
      cases hb : isTrue g && Nat.blt M.id S.L.length && needsOk S.n M.ns && LVs.ok S.n M.as_
      · rw [hb] at h; simp at h
      subst h'
      simp only [Bool.and_eq_true, Nat.blt_eq] at hb
      simp only [Option.some.injEq, Prod.mk.injEq] at hu
      omega
    split at h
    · have h' := cond_some h
      subst h'
      simp only [Option.some.injEq, Prod.mk.injEq] at hu
      omega
    · split at h
      · rename_i as_ ns sh m hs hsh
        have h := cond_some' h
        cases hfr : args.any isRs && !flatR sh
        · rw [hfr] at h
          simp only [cond_false, Option.some.injEq] at h
          subst h
          simp at hu
        · rw [hfr] at h
          simp only [cond_true] at h
          split at h
          · rename_i i ob' hf
            cases hgi : isTrue g && Nat.blt i S.L.length
            · rw [hgi] at h; simp at h
            have h' := cond_some h
            subst h'
            simp only [Bool.and_eq_true, Nat.blt_eq] at hgi
            simp only [Option.some.injEq, Prod.mk.injEq] at hu
            omega
          · simp at h
      · simp at h
  · split at h
    · split at h
      · split at h
        · simp only [Option.some.injEq] at h
          subst h
          simp at hu
        · simp at h
      · simp at h
    · split at h
      · have h' := cond_some h
        subst h'
        simp at hu
      split at h
      · split at h
        · rename_i v' up dc m hE
          have h' := cond_some h
          subst h'
          simp only at hu
          subst hu
          unfold effD at hE
          split at hE
          · simp at hE
          · have h' := cond_some hE
            simp only [Prod.mk.injEq, Option.some.injEq] at h'
            omega
          · rename_i i ob' _
            cases hb : isTrue g && Nat.blt i S.L.length
            · rw [hb] at hE; simp at hE
            simp only [Bool.and_eq_true, Nat.blt_eq] at hb
            have h' := cond_some hE
            simp only [Prod.mk.injEq, Option.some.injEq] at h'
            omega
          · have h' := cond_some hE
            simp only [Prod.mk.injEq, Option.some.injEq] at h'
            omega
          · rename_i d i _ _ _
            cases hb : isTrue g && Nat.blt i S.L.length && d.ok S.n
            · rw [hb] at hE; simp at hE
            simp only [Bool.and_eq_true, Nat.blt_eq] at hb
            have h' := cond_some hE
            simp only [Prod.mk.injEq, Option.some.injEq] at h'
            omega
        · simp at h
      · simp at h
theorem stepD_up {K : List (Nat × Bool)} {o : Oper} {S : St} {e : Ev} (h : stepD T K ops o S = some e) {id : Nat} {ob : Ob} (hu : e.up = some (id, ob)) : id ≤ S.L.length := by
  unfold stepD at h
  split at h
  · simp at h
  rename_i e0 he0
  simp only [Option.some.injEq] at h
  rcases knE_eq K o.dst S.n e0 with hk | ⟨d, b, x, hd, hv, hg, hx, hk⟩
  · rw [hk] at h; subst h; exact stepD0_up he0 hu
  · rw [hk] at h; subst h; exact stepD0_up he0 hu

/-- i waits for j, directly or not -/
inductive Reach (ops : Array Oper) : Nat → Nat → Prop where
  | one {i j : Nat} {o : Oper} {e : Edge} : ops[i]? = some o → e ∈ o.after → binds1 e = true → e.on = j → Reach ops i j
  | more {i j : Nat} {o : Oper} {e : Edge} : ops[i]? = some o → e ∈ o.after → binds1 e = true → Reach ops e.on j → Reach ops i j

theorem Reach.lt (hlow : ∀ (i : Nat) (o : Oper), ops[i]? = some o → ∀ e ∈ o.after, binds1 e = true → e.on < i) {i j : Nat} (h : Reach ops i j) : j < i := by
  induction h with
  | one h1 h2 h3 h4 => rw [← h4]; exact hlow _ _ h1 _ h2 h3
  | more h1 h2 h3 h4 ih => exact Nat.lt_trans ih (hlow _ _ h1 _ h2 h3)
theorem Reach.closed {D : Nat → Prop} (hcl : ∀ i, D i → ∀ o, ops[i]? = some o → ∀ e ∈ o.after, binds1 e = true → D e.on) {i j : Nat} (h : Reach ops i j) (hi : ∀ o, ops[i]? = some o → ∀ e ∈ o.after, binds1 e = true → D e.on) : D j := by
  induction h with
  | one h1 h2 h3 h4 => rw [← h4]; exact hi _ h1 _ h2 h3
  | more h1 h2 h3 h4 ih => exact ih (hcl _ (hi _ h1 _ h2 h3))

theorem getN_app : ∀ (l : List Nat) (x i : Nat), getN (l ++ [x]) i = if i < l.length then getN l i else if i = l.length then x else 0
  | [], x, 0 => by simp [getN]
  | [], x, i + 1 => by simp [getN]
  | y :: l, x, 0 => by simp [getN]
  | y :: l, x, i + 1 => by
    simp only [List.cons_append, getN, getN_app l x i, List.length_cons, Nat.add_lt_add_iff_right, Nat.add_right_cancel_iff]
theorem ancF_ok {acc : List Nat} {o : Oper} {i : Nat} (ho : ops[i]? = some o) (hacc : ∀ i j, Nat.testBit (getN acc i) j = true → Reach ops i j) : ∀ (l : List Edge), (∀ e ∈ l, e ∈ o.after) → ∀ j, Nat.testBit (ancF acc l) j = true → Reach ops i j
  | [], _, j, h => by simp [ancF] at h
  | e :: l, hl, j, h => by
    simp only [ancF] at h
    have ih := ancF_ok ho hacc l (fun e he => hl e (by simp [he])) j
    cases hb : binds1 e
    · rw [hb] at h; exact ih h
    rw [hb] at h
    simp only [cond_true] at h
    have e1 : ∀ a b : Nat, Nat.lor a b = a ||| b := fun _ _ => rfl
    have e2 : ∀ a b : Nat, Nat.shiftLeft a b = a <<< b := fun _ _ => rfl
    rw [e1, e1, e2, Nat.testBit_or, Nat.testBit_or, Bool.or_eq_true, Bool.or_eq_true] at h
    rcases h with (h | h) | h
    · exact .more ho (hl e (by simp)) hb (hacc _ _ h)
    · rw [Nat.testBit_shiftLeft] at h
      simp only [Bool.and_eq_true, decide_eq_true_eq] at h
      have h0 : j - e.on = 0 := by
        by_cases h0 : j - e.on = 0
        · exact h0
        · have := h.2
          rw [Nat.testBit_one_eq_true_iff_self_eq_zero] at this
          exact this
      exact .one ho (hl e (by simp)) hb (by omega)
    · exact ih h
theorem ancs_ok : ∀ (l : List Oper) (acc : List Nat), (∀ j, l[j]? = ops[acc.length + j]?) → (∀ i j, Nat.testBit (getN acc i) j = true → Reach ops i j) → ∀ i j, Nat.testBit (getN (ancs l acc) i) j = true → Reach ops i j
  | [], acc, _, hacc, i, j, h => hacc i j h
  | o :: l, acc, hl, hacc, i, j, h => by
    have h0 : ops[acc.length]? = some o := by simpa using (hl 0).symm
    refine ancs_ok l (acc ++ [ancF acc o.after.toList]) (fun j => by have := hl (j + 1); simpa [Nat.add_assoc, Nat.add_comm 1 j] using this) (fun i j h => ?_) i j h
    rw [getN_app] at h
    split at h
    · exact hacc i j h
    · split at h
      · rename_i he
        subst he
        exact ancF_ok h0 hacc _ (fun e he => by simpa using he) j h
      · simp at h

/-- the edges fit -/
structure EdgesOK (ops : Array Oper) : Prop where
  low : ∀ (i : Nat) (o : Oper), ops[i]? = some o → ∀ e ∈ o.after, binds1 e = true → e.on < i
  apart : ∀ (i j : Nat) (oi oj : Oper) (d : Tmp), ops[i]? = some oi → ops[j]? = some oj → oi.dst = some d → oj.dst = some d → i = j
  deps : ∀ (i : Nat) (o : Oper) (s : Tmp) (j : Nat) (oj : Oper), ops[i]? = some o → s ∈ o.looksAt ops → ops[j]? = some oj → oj.dst = some s → (∃ e ∈ o.after, binds1 e = true ∧ e.on = j) ∨ i = j ∨ (i < j ∧ ∃ e ∈ oj.after, binds1 e = true ∧ e.on = i)
theorem okE_spec (h : okE ops = true) : EdgesOK ops := by
  unfold okE at h
  simp only [Bool.and_eq_true] at h
  have hrow : ∀ (i : Nat) (o : Oper), ops[i]? = some o → rowD ops i o = true := fun i o hi => by
    have hlt := (Array.getElem?_eq_some_iff.1 hi).1
    have := List.all_eq_true.1 h.2 i (List.mem_range.2 hlt)
    rw [hi] at this
    exact this
  have hrow2 : ∀ (i : Nat) (o : Oper) (j : Nat) (oj : Oper) (s : Tmp), ops[i]? = some o → ops[j]? = some oj → oj.dst = some s →
      ((((o.looksAt ops).contains s = false ∨ i = j) ∨ (o.after.any fun e => binds1 e && Nat.beq e.on j) = true) ∨ (i < j ∧ (oj.after.any fun e => binds1 e && Nat.beq e.on i) = true)) ∧ (o.dst ≠ some s ∨ i = j) := fun i o j oj s hi hj hd => by
    have hlt := (Array.getElem?_eq_some_iff.1 hj).1
    have := hrow i o hi
    unfold rowD at this
    simp only [Bool.and_eq_true] at this
    have := List.all_eq_true.1 this.2 j (List.mem_range.2 hlt)
    rw [hj] at this
    simp only [hd, Bool.and_eq_true, Bool.or_eq_true, Bool.not_eq_true', bne_iff_ne] at this
    exact ⟨this.1.imp (Or.imp (Or.imp id Nat.eq_of_beq_eq_true) id) (fun h => ⟨by simpa using h.1, h.2⟩), this.2.imp id Nat.eq_of_beq_eq_true⟩
  refine ⟨fun i o hi e he hb => ?_, fun i j oi oj s hi hj hdi hdj => ?_, fun i o s j oj hi hs hj hd => ?_⟩
  · have := hrow i o hi
    unfold rowD at this
    simp only [Bool.and_eq_true] at this
    have := Array.all_eq_true_iff_forall_mem.1 this.1 e he
    rw [hb] at this
    simpa using this
  · have := (hrow2 i oi j oj s hi hj hdj).2
    rcases this with h | h
    · exact absurd hdi h
    · exact h
  · have := (hrow2 i o j oj s hi hj hd).1
    rcases this with ((h | h) | h) | ⟨hlt, h⟩
    · rw [List.contains_iff_mem.2 hs] at h; cases h
    · exact .inr (.inl h)
    · obtain ⟨n, hn, hh⟩ := Array.any_eq_true.1 h
      simp only [Bool.and_eq_true] at hh
      exact .inl ⟨_, Array.getElem_mem hn, hh.1, Nat.eq_of_beq_eq_true hh.2⟩
    · obtain ⟨n, hn, hh⟩ := Array.any_eq_true.1 h
      simp only [Bool.and_eq_true] at hh
      exact .inr (.inr ⟨hlt, _, Array.getElem_mem hn, hh.1, Nat.eq_of_beq_eq_true hh.2⟩)

/-- who writes an object and who looks at it (or writes it) stand in order -/
theorem okM1_spec {A : List Nat} {k id : Nat} : ∀ (l : List Ev) (n : Nat), okM1 A k id n l = true → ∀ i e, l[i]? = some e → n + i ≠ k → (id ∈ e.touch ∨ ∃ ob, e.up = some (id, ob)) → Nat.testBit (getN A (n + i)) k = true ∨ Nat.testBit (getN A k) (n + i) = true
  | [], n, h, i, e, hi, _, _ => by simp at hi
  | x :: l, n, h, i, e, hi, hne, ht => by
    simp only [okM1, Bool.and_eq_true] at h
    cases i with
    | succ i =>
      have := okM1_spec l (n + 1) h.2 i e (by simpa using hi) (by omega) ht
      rw [show n + (i + 1) = n + 1 + i from by omega]
      exact this
    | zero =>
      simp only [List.getElem?_cons_zero, Option.some.injEq] at hi
      subst hi
      have h1 := h.1
      simp only [Bool.or_eq_true, Bool.not_eq_true', Bool.or_eq_false_iff] at h1
      rcases h1 with ((h1 | h1) | h1) | h1
      · exact absurd (Nat.eq_of_beq_eq_true h1) hne
      · exfalso
        rcases ht with ht | ⟨ob, ht⟩
        · have := List.any_eq_false.1 h1.1 id ht
          simp at this
        · rw [ht] at h1
          simp at h1
      · exact .inl h1
      · exact .inr h1
theorem okM_spec {A : List Nat} {all : List Ev} : ∀ (l : List Ev) (n : Nat), okM A all n l = true → ∀ k e id ob, l[k]? = some e → e.up = some (id, ob) → okM1 A (n + k) id 0 all = true
  | [], n, h, k, e, id, ob, hk, _ => by simp at hk
  | x :: l, n, h, k, e, id, ob, hk, hu => by
    simp only [okM, Bool.and_eq_true] at h
    cases k with
    | succ k =>
      have := okM_spec l (n + 1) h.2 k e id ob (by simpa using hk) hu
      rw [show n + (k + 1) = n + 1 + k from by omega]
      exact this
    | zero =>
      simp only [List.getElem?_cons_zero, Option.some.injEq] at hk
      subst hk
      have h1 := h.1
      rw [hu] at h1
      exact h1

theorem stepD_run (hT : TOK P T) {Kn : List (Nat × Bool)} {ν : Nu} {S Si : St} {σ : List Pl} {a : Act} {w : World} {o : Oper} {e : Ev} (hR : Rel w0 X ν S σ a w) (hst : stepD T Kn ops o Si = some e) (hE : EvOK P ν e)
    (hsl : ∀ t ∈ o.looksAt ops, getL S.F t = getL Si.F t) (hob : ∀ id ∈ e.touch, ∀ ob, getO Si.L id = some ob → getO S.L id = some ob) (hfr : ∀ ob, e.up = some (Si.L.length, ob) → getO S.L Si.L.length = some ⟨0, .hole⟩)
    {K : Act → World → Prop} {Q : Exit → Act → World → Prop}
    (hK : ∀ (S' : St) (σ' : List Pl) (r : Value) (w' : World), (S'.F = (S.put o.dst e.v).F ∧ S'.G = S.G) → S'.L = (match e.up with | none => S.L | some (j, ob) => setO S.L j ob) → Rel w0 X ν S' σ' (a.put o.dst r) w' → K (a.put o.dst r) w') :
    if Region.wanted o (yielded ops a.tmps) = true then o.wp P a w K Q else K (a.put o.dst undef) w := by
  unfold stepD at hst
  split at hst
  · simp at hst
  rename_i e0 he0
  simp only [Option.some.injEq] at hst
  rcases knE_eq Kn o.dst Si.n e0 with hk | ⟨d, b, x, hd, hv, hg, hx, hk⟩
  · rw [hk] at hst
    subst hst
    exact stepD0_run hT hR he0 hE hsl hob hfr hK
  · rw [hk] at hst
    subst hst
    have hn : denB ν x = b := needB_den (hE.ns (by simp [hg, denB]) _ (List.mem_cons_self ..))
    have hE0 : EvOK P ν e0 := ⟨fun hg' n hn' => hE.ns hg' n (List.mem_cons_of_mem _ hn'), hE.call, hE.dc⟩
    refine stepD0_run hT hR he0 hE0 hsl hob hfr fun S' σ' r w' hFG' hL' hR' => ?_
    obtain ⟨hF', hG'⟩ := hFG'
    have h1 := hR'.reset d (v := .b (.bool b)) fun r' hr' => ?_
    · refine hK { S' with F := setL S'.F d (.b (.bool b)) } σ' r w' ⟨?_, hG'⟩ ?_ h1
      · simp only [hF', hd, St.put, setL_setL]
      · exact hL'
    · have h2 := ev_LR hR'.F (.tmp d)
      rw [hd] at h2 hr'
      by_cases hlt : d < S'.F.length
      · have h3 : S'.ev (.tmp d) = .b x := by
          simp only [St.ev, hF', hd, St.put]
          rw [hv]
          have hlt' := hlt
          rw [hF', hd] at hlt'
          simp only [St.put, setL_length] at hlt'
          rw [getL_setL]
          simp [hlt']
        rw [h3] at h2
        have h4 : (a.put (some d) r).eval (.tmp d) = r' := by
          simp only [Act.eval]
          simp [Array.getD_eq_getD_getElem?, hr']
        rw [h4] at h2
        simp only [LR, denB] at h2 ⊢
        rw [h2, hn]
      · have := LRs_len hR'.F
        rw [hd] at this
        have h5 : (a.put (some d) r).tmps.size = S'.F.length := by
          rw [← Array.length_toList]; exact this.symm
        have hno : (a.put (some d) r).tmps[d]? = none := Array.getElem?_eq_none (by rw [h5]; exact Nat.le_of_not_lt hlt)
        rw [hno] at hr'
        simp at hr'

/-- a run in the order of the text -/
structure Lex (T : Tab) (ops : Array Oper) (s : Nat → St) (ev : Nat → Ev) : Prop where
  step : ∀ i o, ops[i]? = some o → (∃ K, stepD T K ops o (s i) = some (ev i)) ∧ s (i + 1) = (ev i).S'
  edges : EdgesOK ops
  order : ∀ k id ob i, k < ops.size → i < ops.size → i ≠ k → (ev k).up = some (id, ob) → (id ∈ (ev i).touch ∨ ∃ ob, (ev i).up = some (id, ob)) → Reach ops i k ∨ Reach ops k i

section
variable {s : Nat → St} {ev : Nat → Ev}
theorem Lex.at {i : Nat} (hi : i < ops.size) : ∃ o, ops[i]? = some o := ⟨ops[i], Array.getElem?_eq_getElem hi⟩
theorem Lex.F_len (L : Lex T ops s ev) : ∀ i, i ≤ ops.size → (s i).F.length = (s 0).F.length
  | 0, _ => rfl
  | i + 1, h => by
    obtain ⟨o, ho⟩ := Lex.at (ops := ops) (i := i) (by omega)
    obtain ⟨⟨_, h1⟩, h2⟩ := L.step i o ho
    rw [h2, (stepD_in h1).2.1, put_length, L.F_len i (by omega)]
theorem Lex.G_same (L : Lex T ops s ev) : ∀ i, i ≤ ops.size → (s i).G = (s 0).G
  | 0, _ => rfl
  | i + 1, h => by
    obtain ⟨o, ho⟩ := Lex.at (ops := ops) (i := i) (by omega)
    obtain ⟨⟨_, h1⟩, h2⟩ := L.step i o ho
    rw [h2, (stepD_in h1).1.G, L.G_same i (by omega)]
theorem Lex.F_rest (L : Lex T ops s ev) : ∀ i, i ≤ ops.size → ∀ t, (∀ j o, j < i → ops[j]? = some o → o.dst ≠ some t) → getL (s i).F t = getL (s 0).F t
  | 0, _, t, _ => rfl
  | i + 1, h, t, hn => by
    obtain ⟨o, ho⟩ := Lex.at (ops := ops) (i := i) (by omega)
    obtain ⟨⟨_, h1⟩, h2⟩ := L.step i o ho
    rw [h2, (stepD_in h1).2.1, getL_put, if_neg (fun hh => hn i o (by omega) ho hh.1)]
    exact L.F_rest i (by omega) t fun j o' hj ho' => hn j o' (by omega) ho'
theorem Lex.F_own (L : Lex T ops s ev) : ∀ i, i ≤ ops.size → ∀ j o t, j < i → ops[j]? = some o → o.dst = some t → t < (s 0).F.length → getL (s i).F t = (ev j).v
  | 0, _, j, _, _, hj, _, _, _ => by omega
  | i + 1, h, j, o, t, hj, ho, hd, ht => by
    obtain ⟨oi, hoi⟩ := Lex.at (ops := ops) (i := i) (by omega)
    obtain ⟨⟨_, h1⟩, h2⟩ := L.step i oi hoi
    rw [h2, (stepD_in h1).2.1, getL_put]
    by_cases e : j = i
    · subst e
      obtain rfl : o = oi := Option.some.inj (ho.symm.trans hoi)
      rw [if_pos ⟨hd, by rw [L.F_len j (by omega)]; exact ht⟩]
    · rw [if_neg (fun hh => e (L.edges.apart j i o oi t ho hoi hd hh.1))]
      exact L.F_own i (by omega) j o t (by omega) ho hd ht
theorem Lex.up_le (L : Lex T ops s ev) {i id : Nat} {ob : Ob} (hi : i < ops.size) (hu : (ev i).up = some (id, ob)) : id ≤ (s i).L.length ∧ id < (s (i + 1)).L.length := by
  obtain ⟨o, ho⟩ := Lex.at hi
  obtain ⟨⟨_, h1⟩, h2⟩ := L.step i o ho
  have h3 := stepD_up h1 hu
  refine ⟨h3, ?_⟩
  rw [h2, (stepD_in h1).2.2, hu]
  exact (upS_L _ _ _ h3).1
theorem Lex.L_mono1 (L : Lex T ops s ev) {i : Nat} (hi : i < ops.size) : (s i).L.length ≤ (s (i + 1)).L.length := by
  obtain ⟨o, ho⟩ := Lex.at hi
  obtain ⟨⟨_, h1⟩, h2⟩ := L.step i o ho
  rw [h2, (stepD_in h1).2.2]
  cases hu : (ev i).up with
  | none => exact Nat.le_refl _
  | some x =>
    obtain ⟨id, ob⟩ := x
    exact (upS_L _ _ _ (stepD_up h1 hu)).2.1
theorem Lex.L_mono (L : Lex T ops s ev) {i : Nat} : ∀ k, i ≤ k → k ≤ ops.size → (s i).L.length ≤ (s k).L.length
  | 0, h, _ => by
    obtain rfl : i = 0 := by omega
    exact Nat.le_refl _
  | k + 1, h, hk => by
    by_cases e : i = k + 1
    · subst e; exact Nat.le_refl _
    · exact Nat.le_trans (L.L_mono k (by omega) (by omega)) (L.L_mono1 (by omega))
theorem Lex.L_step (L : Lex T ops s ev) {i : Nat} (hi : i < ops.size) (id : Nat) : getO (s (i + 1)).L id = match (ev i).up with
    | none => getO (s i).L id
    | some (j, ob) => if id = j then some ob else getO (s i).L id := by
  obtain ⟨o, ho⟩ := Lex.at hi
  obtain ⟨⟨_, h1⟩, h2⟩ := L.step i o ho
  rw [h2, (stepD_in h1).2.2]
  cases hu : (ev i).up with
  | none => rfl
  | some x =>
    obtain ⟨j, ob⟩ := x
    exact (upS_L _ _ _ (stepD_up h1 hu)).2.2.2 id
theorem Lex.L_rest (L : Lex T ops s ev) (id : Nat) : ∀ i, i ≤ ops.size → (∀ j ob, j < i → (ev j).up ≠ some (id, ob)) → getO (s i).L id = getO (s 0).L id
  | 0, _, _ => rfl
  | i + 1, h, hn => by
    rw [L.L_step (by omega)]
    have ih := L.L_rest id i (by omega) fun j ob hj => hn j ob (by omega)
    cases hu : (ev i).up with
    | none => exact ih
    | some x =>
      obtain ⟨j, ob⟩ := x
      have : id ≠ j := fun e => hn i ob (by omega) (by rw [hu, e])
      simp only [if_neg this]
      exact ih
theorem Lex.L_own (L : Lex T ops s ev) (id : Nat) : ∀ i, i ≤ ops.size → ∀ j ob, j < i → (ev j).up = some (id, ob) → (∀ k ob', j < k → k < i → (ev k).up ≠ some (id, ob')) → getO (s i).L id = some ob
  | 0, _, j, _, hj, _, _ => by omega
  | i + 1, h, j, ob, hj, hu, hn => by
    rw [L.L_step (by omega)]
    by_cases e : j = i
    · subst e
      rw [hu]
      simp
    · have ih := L.L_own id i (by omega) j ob (by omega) hu fun k ob' h1 h2 => hn k ob' h1 (by omega)
      cases hu' : (ev i).up with
      | none => exact ih
      | some x =>
        obtain ⟨j', ob'⟩ := x
        have : id ≠ j' := fun e' => hn i ob' (by omega) (by omega) (by rw [hu', e'])
        simp only [if_neg this]
        exact ih
theorem Lex.L_new (L : Lex T ops s ev) (id : Nat) : ∀ i, i ≤ ops.size → (s 0).L.length ≤ id → id < (s i).L.length → ∃ j ob, j < i ∧ (ev j).up = some (id, ob)
  | 0, _, h1, h2 => by omega
  | i + 1, h, h1, h2 => by
    by_cases hlt : id < (s i).L.length
    · obtain ⟨j, ob, hj, hu⟩ := L.L_new id i (by omega) h1 hlt
      exact ⟨j, ob, by omega, hu⟩
    · obtain ⟨o, ho⟩ := Lex.at (ops := ops) (i := i) (by omega)
      obtain ⟨⟨_, g1⟩, g2⟩ := L.step i o ho
      rw [g2, (stepD_in g1).2.2] at h2
      cases hu : (ev i).up with
      | none => rw [hu] at h2; exact absurd h2 hlt
      | some x =>
        obtain ⟨j, ob⟩ := x
        rw [hu] at h2
        have := upS_L (s i) j ob (stepD_up g1 hu)
        refine ⟨i, ob, by omega, ?_⟩
        have h3 := this.2.2.1
        have : id = j := by
          split at h3 <;> omega
        rw [hu, this]
end
end
end Go.Proofs.Ytdgjcdhomfhfpaa
