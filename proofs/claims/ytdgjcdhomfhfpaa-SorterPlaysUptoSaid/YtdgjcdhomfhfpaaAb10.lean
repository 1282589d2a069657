/- A symbolic run of Go code, tenth part: slices, conversions, lengths, structs. No condition. -/
import Derived.Test.YtdgjcdhomfhfpaaAb9
import Derived.Laws.IdiomStrings
namespace Go.Proofs.Ytdgjcdhomfhfpaa
open Go.RowKit
set_option linter.unusedSimpArgs false
set_option linter.unusedVariables false
section
variable {P : Program} {ν : Nu} {w : World} {X : Nat → Prop} {σ : List Pl}

/-- the bounds of a slice, as they stand in the text -/
theorem bounds_run {isSlice : Bool} {len cap : Nat} {lo hi : Option Value} {l h : Int} (hl : (lo = none ∧ l = 0) ∨ ∃ k, lo = some (.int k l)) (hh : (hi = none ∧ h = len) ∨ ∃ k, hi = some (.int k h))
    (h0 : 0 ≤ l) (h1 : l ≤ h) (h2 : h ≤ cap) : (Instr.sliceBounds isSlice len cap lo hi none).run P w = .ok (l.toNat, h.toNat, cap) w := by
  have h3 : 0 ≤ h := by omega
  have e : ((h.toNat : Nat) : Int) = h := Int.toNat_of_nonneg h3
  rcases hl with ⟨rfl, rfl⟩ | ⟨k, rfl⟩ <;> rcases hh with ⟨rfl, rfl⟩ | ⟨k', rfl⟩
  · simp [Instr.sliceBounds]
  · simp [Instr.sliceBounds, Instr.sliceBound, asIntOf, h3, h2]
  · simp [Instr.sliceBounds, Instr.sliceBound, asIntOf, h0, h1]
  · simp [Instr.sliceBounds, Instr.sliceBound, asIntOf, h0, h1, h2, h3, e]

theorem bounds3_run {isSlice : Bool} {len cap : Nat} {lo : Option Value} {l h m : Int} {k k' : IntKind} (hl : (lo = none ∧ l = 0) ∨ ∃ k, lo = some (.int k l))
    (h0 : 0 ≤ l) (h1 : l ≤ h) (h2 : h ≤ m) (h3 : m ≤ cap) : (Instr.sliceBounds isSlice len cap lo (some (.int k h)) (some (.int k' m))).run P w = .ok (l.toNat, h.toNat, m.toNat) w := by
  have h4 : 0 ≤ h := by omega
  have h5 : 0 ≤ m := by omega
  have e : ((h.toNat : Nat) : Int) = h := Int.toNat_of_nonneg h4
  have e2 : ((m.toNat : Nat) : Int) = m := Int.toNat_of_nonneg h5
  rcases hl with ⟨rfl, rfl⟩ | ⟨k, rfl⟩
  · simp [Instr.sliceBounds, Instr.sliceBound, asIntOf, h2, h3, h4, h5, e2]
  · simp [Instr.sliceBounds, Instr.sliceBound, asIntOf, h0, h1, h2, h3, h4, h5, e, e2]
theorem optE_LR {d e : E} {o : Option Operand} {ρ : Operand → LV} {val : Operand → Value} (h : optE d (o.map ρ) = some e) (lo : ∀ x, o = some x → LR ν w X σ (ρ x) (val x)) :
    (o.map val = none ∧ e = d) ∨ ∃ k, o.map val = some (.int k (denI ν e)) := by
  cases o with
  | none => simp only [Option.map_none, optE, Option.some.injEq] at h; exact .inl ⟨rfl, h.symm⟩
  | some x =>
    simp only [Option.map_some, optE] at h
    obtain ⟨k, hk⟩ := intE_LR h (lo x rfl)
    exact .inr ⟨k, by simp [hk]⟩

theorem drop_ok {w : World} {Y : Nat → Prop} {els : List (List CV)} {b o sz c : Nat} {g : Nat → Nat → Value} (hsz : ∀ el ∈ els, el.length = sz) (hc : els.length ≤ c)
    (hcell : ∀ (i : Nat) (el : List CV), els[i]? = some el → ∀ (f : Nat) (cv : CV), el[f]? = some cv → ¬ Y b ∧ w.cell? ⟨b, o + i * sz + f, none⟩ = some (g i f))
    (hval : ∀ (i : Nat) (el : List CV), els[i]? = some el → ∀ (f : Nat) (cv : CV), el[f]? = some cv → CVR w Y cv (g i f)) (l n cc o' : Nat) (hl : l + n ≤ els.length) (hcc : n ≤ cc) (ho : n ≠ 0 → o' = o + l * sz) :
    CVR w Y (.vs ((els.drop l).take n)) (.slice (some ⟨b, o', none⟩) n cc) := by
  have hlen : ((els.drop l).take n).length = n := by simp; omega
  have key : CVR w Y (.vs ((els.drop l).take n)) (.slice (some ⟨b, o', none⟩) ((els.drop l).take n).length cc) := by
    refine .vs _ b o' sz cc (fun i => g (l + i)) (fun el hel => hsz el (List.mem_of_mem_drop (List.mem_of_mem_take hel))) (by omega) (fun i el hi f cv hf => ?_) (fun i el hi f cv hf => ?_)
    all_goals
      have hin : i < n := by
        have := (List.getElem?_eq_some_iff.1 hi).1
        omega
      rw [List.getElem?_take_of_lt hin, List.getElem?_drop] at hi
    · obtain ⟨h1, h2⟩ := hcell (l + i) el hi f cv hf
      refine ⟨h1, ?_⟩
      rw [ho (by omega), show o + l * sz + i * sz + f = o + (l + i) * sz + f from by rw [Nat.add_mul]; omega]
      exact h2
    · exact hval (l + i) el hi f cv hf
  rw [hlen] at key
  exact key

theorem CVR_inv {els : List (List CV)} {r : Value} {Y : Nat → Prop} (h : CVR w Y (.vs els) r) : (els = [] ∧ ∃ a : Option Addr, r = .slice a 0 0) ∨
    ∃ (b o sz c : Nat) (g : Nat → Nat → Value), r = .slice (some ⟨b, o, none⟩) els.length c ∧ (∀ el ∈ els, el.length = sz) ∧ els.length ≤ c ∧
      (∀ (i : Nat) (el : List CV), els[i]? = some el → ∀ (f : Nat) (cv : CV), el[f]? = some cv → ¬ Y b ∧ w.cell? ⟨b, o + i * sz + f, none⟩ = some (g i f)) ∧
      (∀ (i : Nat) (el : List CV), els[i]? = some el → ∀ (f : Nat) (cv : CV), el[f]? = some cv → CVR w Y cv (g i f)) := by
  cases h with
  | nil a => exact .inl ⟨rfl, a, rfl⟩
  | vs _ b o sz c g hsz hc hcell hval => exact .inr ⟨b, o, sz, c, g, rfl, hsz, hc, hcell, hval⟩

theorem sub_le_mk {o n a b : Int} {len rc off c : Nat} {pl : Pl} {b' : Nat} {es : Nat} (hat : pl.at_ = some (b', c)) (hsz : pl.sz = es) (hn0 : 0 ≤ n) (ho0 : 0 ≤ o) (hlen : len = n.toNat) (hle : len ≤ rc) (hz : o = 0 → off = 0 ∧ rc ≤ c) (hoff : len ≠ 0 → off = o.toNat * pl.sz)
    (h0 : 0 ≤ a) (h1 : a ≤ b) (h2 : b ≤ n) :
    RsR pl (o + a) (b - a) (if rc = a.toNat then some ⟨b', off, none⟩ else some ⟨b', off + a.toNat * es, none⟩) (b.toNat - a.toNat) (rc - a.toNat) := by
  right
  by_cases hr : rc = a.toNat
  · rw [if_pos hr]
    refine ⟨b', c, off, hat, rfl, by omega, by omega, by omega, by omega, fun h => ?_, fun h => by omega⟩
    have ha : a = 0 := by omega
    have := hz (by omega)
    subst ha
    simp only [Int.toNat_zero] at hr
    omega
  · rw [if_neg hr]
    refine ⟨b', c, off + a.toNat * es, hat, rfl, by omega, by omega, by omega, by omega, fun h => ?_, fun h => ?_⟩
    · have ha : a = 0 := by omega
      have := hz (by omega)
      subst ha
      simp only [Int.toNat_zero, Nat.zero_mul]
      omega
    · have h3 := hoff (by omega)
      rw [h3, hsz, nat_mul_toNat _ _ _ ho0 h0]

theorem s_slice {T : Tab} (hT : TOK P T) {ρ : Operand → LV} {val : Operand → Value} {get : Nat → Option Ob} {fresh : Nat} {t : TypeId} {x : Operand} {lo hi mx : Option Operand} {out : Out} (h : opRun T ρ get fresh (.slice t x lo hi mx) = some out)
    (lx : LR ν w X σ (ρ x) (val x)) (ll : ∀ y, lo = some y → LR ν w X σ (ρ y) (val y)) (lh : ∀ y, hi = some y → LR ν w X σ (ρ y) (val y)) (lm : ∀ y, mx = some y → LR ν w X σ (ρ y) (val y)) (hk : ∀ id, (ρ x).id? = some id → Known ν w X σ get id) :
    Comes' P ν w X σ out ((Instr.sliceAt t (val x) (lo.map val) (hi.map val) (mx.map val)).run P w) := by
  simp only [opRun] at h
  split at h
  · rename_i _ _ _ _ s hg hx
    have hu := (hT.get hg).1
    rw [hx] at lx
    simp only [LR] at lx
    split at h
    · rename_i a b ha hb
      simp only [Option.some.injEq] at h
      subst h
      refine ⟨rfl, fun hn => ?_⟩
      have h1 : denN ν (.cuts a b (mkLen s)) := hn _ (by simp)
      simp only [denN, den_len] at h1
      obtain ⟨h0, h1, h2⟩ := h1
      have hl' : ((lo.map val) = none ∧ denI ν a = 0) ∨ ∃ k, lo.map val = some (.int k (denI ν a)) := by
        rcases optE_LR ha ll with ⟨e1, rfl⟩ | e
        · exact .inl ⟨e1, by simp [denI]⟩
        · exact .inr e
      have hh' : ((hi.map val) = none ∧ denI ν b = ((denS ν s).size : Nat)) ∨ ∃ k, hi.map val = some (.int k (denI ν b)) := by
        rcases optE_LR hb lh with ⟨e1, rfl⟩ | e
        · exact .inl ⟨e1, by rw [den_len]⟩
        · exact .inr e
      have hbnd := bounds_run (P := P) (w := w) (isSlice := false) (len := (denS ν s).size) (cap := (denS ν s).size) hl' hh' h0 h1 h2
      refine ⟨.string ((denS ν s).extract (denI ν a).toNat (denI ν b).toNat), ?_, by simp only [LR, denS]⟩
      rw [lx]
      simp only [Instr.sliceAt, Sem.run_bind, run_und hu, Result.andThen_ok, Instr.slice, Option.map_none, Option.isSome_none, Bool.false_eq_true, if_false, hbnd, Sem.run_pure]
    · simp at h
  · rename_i el _ _ _ _ c hg hx
    have hu := (hT.get hg).1
    rw [hx] at lx
    simp only [LR] at lx
    split at h
    rotate_left
    · simp at h
    rename_i _ es _ _ _ a b hg2 ha hb
    obtain ⟨_, ⟨i, hinf, hs, _, _⟩, _⟩ := hT.get hg2
    simp only at hs
    simp only [Option.some.injEq] at h
    subst h
    refine ⟨rfl, fun hn => ?_⟩
    have h1 : denN ν (.cuts a b (.clen c)) := hn _ (by simp)
    have h2 : denN ν (.szAll c es) := hn _ (by simp)
    simp only [denN, denI] at h1 h2
    obtain ⟨h0, h1, h3⟩ := h1
    have hl' : ((lo.map val) = none ∧ denI ν a = 0) ∨ ∃ k, lo.map val = some (.int k (denI ν a)) := by
      rcases optE_LR ha ll with ⟨e1, rfl⟩ | e
      · exact .inl ⟨e1, by simp [denI]⟩
      · exact .inr e
    have hh' : ((hi.map val) = none ∧ denI ν b = ((denC ν c).length : Nat)) ∨ ∃ k, hi.map val = some (.int k (denI ν b)) := by
      rcases optE_LR hb lh with ⟨e1, rfl⟩ | e
      · exact .inl ⟨e1, by simp [denI]⟩
      · exact .inr e
    have hcont : denC ν (cutC hi.isSome c a b) = ((denC ν c).drop (denI ν a).toNat).take ((denI ν b).toNat - (denI ν a).toNat) := by
      cases hi with
      | none =>
        rcases hh' with ⟨_, e⟩ | ⟨k, e⟩
        · simp only [cutC, Option.isSome_none, cond_false, den_drop0, e]
          rw [List.take_of_length_le (by simp)]
        · simp at e
      | some y =>
        simp only [cutC, Option.isSome_some, cond_true, denC, den_drop0, den_sub']
        congr 1
        omega
    have run : ∀ (base : Option Addr) (cap : Nat), (denC ν c).length ≤ cap → (Instr.sliceAt t (.slice base (denC ν c).length cap) (lo.map val) (hi.map val) (Option.map val none)).run P w =
        .ok (.slice (if cap = (denI ν a).toNat then base else base.map (·.add ((denI ν a).toNat * es))) ((denI ν b).toNat - (denI ν a).toNat) (cap - (denI ν a).toNat)) w := fun base cap hcap => by
      have hbnd := bounds_run (P := P) (w := w) (isSlice := true) (len := (denC ν c).length) (cap := cap) hl' hh' h0 h1 (by omega)
      simp only [Instr.sliceAt, Sem.run_bind, run_und hu, Result.andThen_ok, Instr.slice, Option.map_none, hbnd, run_size hinf, hs, Sem.run_pure]
    simp only [LR, hcont]
    rcases CVR_inv lx with ⟨hnil, ad, hv⟩ | ⟨bb, o, sz, cap, g, hv, hsz, hcc, hcell, hval⟩
    · have hlen : (denC ν c).length = 0 := by rw [hnil]; rfl
      have hb0 : (denI ν b).toNat = 0 := by omega
      have ha0 : (denI ν a).toNat = 0 := by omega
      refine ⟨.slice ad 0 0, ?_, ?_⟩
      · have := run ad 0 (by omega)
        rw [hlen] at this
        rw [hv, this]
        simp [hb0, ha0]
      · rw [hnil, hb0]
        simp only [Nat.zero_sub, List.take_zero]
        exact .nil _
    · rw [hv]
      refine ⟨_, run _ cap hcc, ?_⟩
      have hz : sz = es ∨ denC ν c = [] := by
        cases hd : denC ν c with
        | nil => exact .inr rfl
        | cons e0 r0 =>
          have h3 := hsz e0 (by rw [hd]; simp)
          have h4 := h2 e0 (by rw [hd]; simp)
          exact .inl (by omega)
      by_cases hr : cap = (denI ν a).toNat
      · rw [if_pos hr]
        exact drop_ok hsz hcc hcell hval (denI ν a).toNat ((denI ν b).toNat - (denI ν a).toNat) _ _ (by omega) (by omega) (fun h => by omega)
      · rw [if_neg hr]
        simp only [Option.map_some, Addr.add_lit]
        refine drop_ok hsz hcc hcell hval (denI ν a).toNat ((denI ν b).toNat - (denI ν a).toNat) _ _ (by omega) (by omega) (fun h => ?_)
        rcases hz with rfl | hz
        · rfl
        · rw [hz] at h3
          simp at h3
          omega
  · rename_i el _ _ _ _ c y hg hx
    have hu := (hT.get hg).1
    rw [hx] at lx
    simp only [LR] at lx
    split at h
    rotate_left
    · simp at h
    rename_i _ es _ _ _ a hv m hg2 ha hhi hm
    split at h
    rotate_left
    · simp at h
    rename_i b hb
    obtain ⟨_, ⟨i, hinf, hs, _, _⟩, _⟩ := hT.get hg2
    simp only at hs
    simp only [Option.some.injEq] at h
    subst h
    refine ⟨rfl, fun hn => ?_⟩
    have h1 : denN ν (.cuts a b m) := hn _ (by simp)
    have h2 : denN ν (.szAll c es) := hn _ (by simp)
    have h3 : denN ν (.le m (.clen c)) := hn _ (by simp)
    simp only [denN, denI] at h1 h2 h3
    obtain ⟨h0, h1, h4⟩ := h1
    have hl' : ((lo.map val) = none ∧ denI ν a = 0) ∨ ∃ k, lo.map val = some (.int k (denI ν a)) := by
      rcases optE_LR ha ll with ⟨e1, rfl⟩ | e
      · exact .inl ⟨e1, by simp [denI]⟩
      · exact .inr e
    obtain ⟨z, rfl, hz⟩ : ∃ z, hi = some z ∧ ρ z = hv := by
      cases hi with
      | none => simp at hhi
      | some z => exact ⟨z, rfl, by simpa using hhi⟩
    obtain ⟨k, hk1⟩ := intE_LR (by rw [hz]; exact hb) (lh z rfl)
    obtain ⟨k', hk2⟩ := intE_LR hm (lm y rfl)
    have hcont : denC ν (cutC true c a b) = ((denC ν c).drop (denI ν a).toNat).take ((denI ν b).toNat - (denI ν a).toNat) := by
      simp only [cutC, cond_true, denC, den_drop0, den_sub']
      congr 1
      omega
    simp only [LR, hcont]
    rcases CVR_inv lx with ⟨hnil, ad, hv⟩ | ⟨bb, o, sz, cap, g, hv, hsz, hcc, hcell, hval⟩
    · have hlen : (denC ν c).length = 0 := by rw [hnil]; rfl
      have hb0 : (denI ν b).toNat = 0 := by omega
      have ha0 : (denI ν a).toNat = 0 := by omega
      have hm0 : (denI ν m).toNat = 0 := by omega
      refine ⟨.slice ad 0 0, ?_, ?_⟩
      · have hbnd := bounds3_run (P := P) (w := w) (isSlice := true) (len := 0) (cap := 0) (k := k) (k' := k') hl' h0 h1 h4 (by omega)
        rw [hv]
        simp only [Option.map_some, hk1, hk2, Instr.sliceAt, Sem.run_bind, run_und hu, Result.andThen_ok, Instr.slice, hbnd, run_size hinf, hs, Sem.run_pure]
        simp [hb0, ha0, hm0]
      · rw [hnil, hb0]
        simp only [Nat.zero_sub, List.take_zero]
        exact .nil _
    · have hbnd := bounds3_run (P := P) (w := w) (isSlice := true) (len := (denC ν c).length) (cap := cap) (k := k) (k' := k') hl' h0 h1 h4 (by omega)
      rw [hv]
      refine ⟨.slice (if (denI ν m).toNat = (denI ν a).toNat then some ⟨bb, o, none⟩ else (some (⟨bb, o, none⟩ : Addr)).map (·.add ((denI ν a).toNat * es))) ((denI ν b).toNat - (denI ν a).toNat) ((denI ν m).toNat - (denI ν a).toNat), ?_, ?_⟩
      · simp only [Option.map_some, hk1, hk2, Instr.sliceAt, Sem.run_bind, run_und hu, Result.andThen_ok, Instr.slice, hbnd, run_size hinf, hs, Sem.run_pure]
      have hz : sz = es ∨ denC ν c = [] := by
        cases hd : denC ν c with
        | nil => exact .inr rfl
        | cons e0 r0 =>
          have h5 := hsz e0 (by rw [hd]; simp)
          have h6 := h2 e0 (by rw [hd]; simp)
          exact .inl (by omega)
      by_cases hr : (denI ν m).toNat = (denI ν a).toNat
      · rw [if_pos hr]
        exact drop_ok hsz hcc hcell hval (denI ν a).toNat ((denI ν b).toNat - (denI ν a).toNat) _ _ (by omega) (by omega) (fun h => by omega)
      · rw [if_neg hr]
        simp only [Option.map_some, Addr.add_lit]
        refine drop_ok hsz hcc hcell hval (denI ν a).toNat ((denI ν b).toNat - (denI ν a).toNat) _ _ (by omega) (by omega) (fun h => ?_)
        rcases hz with rfl | hz
        · rfl
        · rw [hz] at h3
          simp at h3
          omega
  · rename_i el _ _ _ _ id ver o n hg hx
    have hu := (hT.get hg).1
    rw [hx] at lx hk
    split at h
    rotate_left
    · simp at h
    rename_i _ es _ _ _ ver' c e' sz a b hg2 hob ha hb
    obtain ⟨_, ⟨i, hinf, hs, _, _⟩, _⟩ := hT.get hg2
    simp only at hs
    cases hbb : Nat.beq ver ver' && Nat.beq sz es
    · rw [hbb] at h; simp at h
    rw [hbb] at h
    simp only [cond_true, Option.some.injEq] at h
    subst h
    simp only [Bool.and_eq_true] at hbb
    refine ⟨rfl, fun hn => ?_⟩
    have h1 : denN ν (.cuts a b n) := hn _ (by simp)
    simp only [denN, denI] at h1
    obtain ⟨h0, h1, h3⟩ := h1
    obtain ⟨ad, len, rc, pl, hpl, hver, hv, hrs, ho⟩ := rs_live lx (hk id rfl) hob hbb.1
    have hver' := Nat.eq_of_beq_eq_true hbb.1
    have hsz' := Nat.eq_of_beq_eq_true hbb.2
    obtain ⟨hsz, _⟩ := ho
    have hl' : ((lo.map val) = none ∧ denI ν a = 0) ∨ ∃ k, lo.map val = some (.int k (denI ν a)) := by
      rcases optE_LR ha ll with ⟨e1, rfl⟩ | e
      · exact .inl ⟨e1, by simp [denI]⟩
      · exact .inr e
    rw [hv]
    simp only [LR]
    rcases hrs with ⟨hat, rfl, rfl, rfl, hn0, ho0⟩ | ⟨b', c', off, hat, rfl, hn0, ho0, hlen, hle, hz, hoff⟩
    · have hh' : ((hi.map val) = none ∧ denI ν b = ((0 : Nat) : Int)) ∨ ∃ k, hi.map val = some (.int k (denI ν b)) := by
        rcases optE_LR hb lh with ⟨e1, rfl⟩ | e
        · exact .inl ⟨e1, by rw [hn0]; rfl⟩
        · exact .inr e
      have hbnd := bounds_run (P := P) (w := w) (isSlice := true) (len := 0) (cap := 0) hl' hh' h0 h1 (by omega)
      have ha0 : denI ν a = 0 := by omega
      have hb0 : denI ν b = 0 := by omega
      refine ⟨.slice none 0 0, ?_, none, 0, 0, pl, rfl, hpl, by simp only at hver; omega, fun _ => .inl ⟨hat, rfl, rfl, rfl, ?_, ?_⟩⟩
      · simp only [Instr.sliceAt, Sem.run_bind, run_und hu, Result.andThen_ok, Instr.slice, Option.map_none, hbnd, run_size hinf, hs, Sem.run_pure, ha0, hb0]
        rfl
      · rw [den_sub', ha0, hb0]; rfl
      · rw [den_add0, ha0, ho0]; rfl
    · have hh' : ((hi.map val) = none ∧ denI ν b = ((len : Nat) : Int)) ∨ ∃ k, hi.map val = some (.int k (denI ν b)) := by
        rcases optE_LR hb lh with ⟨e1, rfl⟩ | e
        · exact .inl ⟨e1, by omega⟩
        · exact .inr e
      have hbnd := bounds_run (P := P) (w := w) (isSlice := true) (len := len) (cap := rc) hl' hh' h0 h1 (by omega)
      refine ⟨.slice (if rc = (denI ν a).toNat then some ⟨b', off, none⟩ else some ⟨b', off + (denI ν a).toNat * es, none⟩) ((denI ν b).toNat - (denI ν a).toNat) (rc - (denI ν a).toNat), ?_, _, _, _, pl, rfl, hpl, by simp only at hver; omega, fun _ => ?_⟩
      · simp only [Instr.sliceAt, Sem.run_bind, run_und hu, Result.andThen_ok, Instr.slice, Option.map_none, hbnd, run_size hinf, hs, Sem.run_pure, Option.map_some, Addr.add_lit]
      · rw [den_add0, den_sub']
        exact sub_le_mk hat (hsz.trans hsz') hn0 ho0 hlen hle hz hoff h0 h1 h3
  · rename_i el _ _ _ _ hg hx
    have hu := (hT.get hg).1
    rw [hx] at lx
    split at h
    rotate_left
    · simp at h
    rename_i ti a b hg2 ha hb
    obtain ⟨_, ⟨i, hinf, hs, _, _⟩, _⟩ := hT.get hg2
    simp only [Option.some.injEq] at h
    subst h
    refine ⟨rfl, fun hn => ?_⟩
    have h1 : denN ν (.cuts a b (.int 0)) := hn _ (by simp)
    simp only [denN, denI] at h1
    obtain ⟨h0, h1, h3⟩ := h1
    have hl' : ((lo.map val) = none ∧ denI ν a = 0) ∨ ∃ k, lo.map val = some (.int k (denI ν a)) := by
      rcases optE_LR ha ll with ⟨e1, rfl⟩ | e
      · exact .inl ⟨e1, by simp [denI]⟩
      · exact .inr e
    have hh' : ((hi.map val) = none ∧ denI ν b = ((0 : Nat) : Int)) ∨ ∃ k, hi.map val = some (.int k (denI ν b)) := by
      rcases optE_LR hb lh with ⟨e1, rfl⟩ | e
      · exact .inl ⟨e1, by simp [denI]⟩
      · exact .inr e
    have hbnd := bounds_run (P := P) (w := w) (isSlice := true) (len := 0) (cap := 0) hl' hh' h0 h1 (by omega)
    have ha0 : denI ν a = 0 := by omega
    have hb0 : denI ν b = 0 := by omega
    simp only [LR] at lx
    refine ⟨.slice none 0 0, ?_, by simp only [LR]⟩
    rw [lx]
    simp only [Instr.sliceAt, Sem.run_bind, run_und hu, Result.andThen_ok, Instr.slice, Option.map_none, hbnd, run_size hinf, hs, Sem.run_pure, ha0, hb0]
    rfl
  · rename_i n el _ _ _ _ id ver hg hx
    have hu := (hT.get hg).1
    rw [hx] at lx hk
    split at h
    rotate_left
    · simp at h
    rename_i _ es _ _ _ ver' c e' sz a b hg2 hob ha hb
    obtain ⟨_, ⟨i, hinf, hs, _, _⟩, _⟩ := hT.get hg2
    simp only at hs
    cases hbb : Nat.beq ver ver' && Nat.beq sz es
    · rw [hbb] at h; simp at h
    rw [hbb] at h
    simp only [cond_true, Option.some.injEq] at h
    subst h
    simp only [Bool.and_eq_true] at hbb
    refine ⟨rfl, fun hn => ?_⟩
    have h1 : denN ν (.cuts a b (.int n)) := hn _ (by simp)
    have h4 : denN ν (.le (.int n) (.clen c)) := hn _ (by simp)
    simp only [denN, denI] at h1 h4
    obtain ⟨h0, h1, h3⟩ := h1
    obtain ⟨b', c', pl, hpl, hver, hat, hv, ho⟩ := ptr_live (ρ := .junk) lx (hk id rfl) hob hbb.1
    have hver' := Nat.eq_of_beq_eq_true hbb.1
    have hsz' := Nat.eq_of_beq_eq_true hbb.2
    obtain ⟨hsz, _, _, hrow⟩ := ho
    have hcap : n ≤ c' := by
      rcases hrow with ⟨hno, _⟩ | ⟨b2, cap, a2, fr, hat2, _, _, _, hlen2, _⟩
      · rw [hat] at hno; simp at hno
      · rw [hat] at hat2
        simp only [Option.some.injEq, Prod.mk.injEq] at hat2
        omega
    have hl' : ((lo.map val) = none ∧ denI ν a = 0) ∨ ∃ k, lo.map val = some (.int k (denI ν a)) := by
      rcases optE_LR ha ll with ⟨e1, rfl⟩ | e
      · exact .inl ⟨e1, by simp [denI]⟩
      · exact .inr e
    have hh' : ((hi.map val) = none ∧ denI ν b = ((n : Nat) : Int)) ∨ ∃ k, hi.map val = some (.int k (denI ν b)) := by
      rcases optE_LR hb lh with ⟨e1, rfl⟩ | e
      · exact .inl ⟨e1, by simp [denI]⟩
      · exact .inr e
    have hbnd := bounds_run (P := P) (w := w) (isSlice := false) (len := n) (cap := n) hl' hh' h0 h1 (by omega)
    rw [hv]
    simp only [LR]
    refine ⟨.slice (if n = (denI ν a).toNat then some ⟨b', 0, none⟩ else some ⟨b', 0 + (denI ν a).toNat * es, none⟩) ((denI ν b).toNat - (denI ν a).toNat) (n - (denI ν a).toNat), ?_, _, _, _, pl, rfl, hpl, by simp only at hver; omega, fun _ => ?_⟩
    · simp only [Instr.sliceAt, Sem.run_bind, run_und hu, Result.andThen_ok, Instr.sureAddr, Option.map_none, hbnd, run_size hinf, hs, Sem.run_pure, Addr.add_lit]
      split <;> rfl
    · rw [den_sub']
      have := sub_le_mk (o := 0) (n := n) (a := denI ν a) (b := denI ν b) (len := n) (rc := n) (off := 0) hat (hsz.trans hsz') (by omega) (by omega) (by omega) (by omega) (fun _ => ⟨rfl, hcap⟩) (fun _ => by simp) h0 h1 h3
      rw [Int.zero_add] at this
      exact this
  · simp at h
end
end Go.Proofs.Ytdgjcdhomfhfpaa
