/- A symbolic run of Go code, eighth part: the operations that leave memory alone, all of them. No condition. -/
import Derived.Test.YtdgjcdhomfhfpaaAb7
namespace Go.Proofs.Ytdgjcdhomfhfpaa
open Go.RowKit
set_option linter.unusedSimpArgs false
set_option linter.unusedVariables false
section
variable {P : Program} {ν : Nu} {w : World} {X : Nat → Prop} {σ : List Pl}

/-- what a symbolic operation owes -/
def Calm (P : Program) (ν : Nu) (w : World) (X : Nat → Prop) (σ : List Pl) (out : Out) (s : Sem Next) : Prop :=
  out.e = .no → denNs ν out.needs → ∃ v, s.run P w = .ok (.value v) w ∧ LR ν w X σ out.v v
theorem calm_of {out : Out} {s : Sem Value} (h : Comes' P ν w X σ out (s.run P w)) : Calm P ν w X σ out (do pure (.value (← s))) := by
  intro _ hn
  obtain ⟨v, hv, lv⟩ := h.2 hn
  exact ⟨v, by simp [hv], lv⟩

theorem pk_LR {c : E} {a b v : LV} {ra rb : Value} (h : pk c a b = some v) (ha : denB ν c = true → LR ν w X σ a ra) (hb : denB ν c = false → LR ν w X σ b rb) : LR ν w X σ v (if denB ν c then ra else rb) := by
  unfold pk at h
  split at h
  · simp only [Option.some.injEq] at h
    subst h
    simpa [denB] using ha rfl
  · simp only [Option.some.injEq] at h
    subst h
    simpa [denB] using hb rfl
  · split at h
    · simp only [Option.some.injEq] at h
      subst h
      cases hc : denB ν c
      · have := hb hc
        simp only [LR] at this ⊢
        simp [den_iteB, hc, this]
      · have := ha hc
        simp only [LR] at this ⊢
        simp [den_iteB, hc, this]
    · rename_i k x k' y
      cases hk : kEq k k'
      · rw [hk] at h; simp at h
      · rw [hk] at h
        obtain rfl := (kEq_iff _ _).1 hk
        simp only [cond_true, Option.some.injEq] at h
        subst h
        cases hc : denB ν c
        · have := hb hc
          simp only [LR] at this ⊢
          simp [denI, hc, this]
        · have := ha hc
          simp only [LR] at this ⊢
          simp [denI, hc, this]
    · simp only [Option.some.injEq] at h
      subst h
      cases hc : denB ν c
      · have := hb hc
        simp only [LR] at this ⊢
        simp [denS, hc, this]
      · have := ha hc
        simp only [LR] at this ⊢
        simp [denS, hc, this]
    · simp at h

theorem implies_den {g h : E} (hi : implies g h = true) (hg : denB ν g = true) : denB ν h = true := by
  induction g with
  | and a b iha ihb =>
    simp only [implies, Bool.or_eq_true, decide_eq_true_eq] at hi
    simp only [denB, Bool.and_eq_true] at hg
    rcases hi with rfl | hi | hi
    · simp [denB, hg]
    · exact iha hi hg.1
    · exact ihb hi hg.2
  | _ =>
    simp only [implies, Bool.or_false, decide_eq_true_eq] at hi
    subst hi
    exact hg
theorem implies2_den {g h : E} (hi : implies2 g h = true) (hg : denB ν g = true) : denB ν h = true := by
  induction h with
  | and a b iha ihb =>
    simp only [implies2, Bool.or_eq_true, Bool.and_eq_true] at hi
    rcases hi with hi | ⟨h1, h2⟩
    · exact implies_den hi hg
    · simp [denB, iha h1, ihb h2]
  | bool b =>
    cases b
    · exact implies_den (by simpa [implies2] using hi) hg
    · simp [denB]
  | _ => exact implies_den (by simpa [implies2] using hi) hg
theorem ung_LR {g : E} {v : LV} {r : Value} (hg : denB ν g = true) (h : LR ν w X σ v r) : LR ν w X σ (ung g v) r := by
  unfold ung
  split
  · rename_i h' v
    cases hi : implies2 g h'
    · simpa using h
    · simp only [cond_true]
      simp only [LR] at h
      exact h.1 (implies2_den hi hg)
  · exact h
theorem ung_LRs {g : E} (hg : denB ν g = true) : ∀ {cs : List LV} {rs : List Value}, LRs ν w X σ cs rs → LRs ν w X σ (cs.map (ung g)) rs
  | [], [], _ => by simp [LRs]
  | c :: cs, r :: rs, h => by
    simp only [LRs] at h
    simp only [List.map_cons, LRs]
    exact ⟨ung_LR hg h.1, ung_LRs hg h.2⟩
  | [], _ :: _, h => by simp only [LRs] at h
  | _ :: _, [], h => by simp only [LRs] at h
theorem strip_LR {g : E} {v : LV} {r : Value} (hg : denB ν g = true) (h : LR ν w X σ v r) : LR ν w X σ (strip g v) r := by
  cases v with
  | g h' v' =>
    simp only [strip]
    cases hi : implies2 g h'
    · simp only [cond_false, LR]
    · simp only [cond_true]
      simp only [LR] at h
      exact h.1 (implies2_den hi hg)
  | _ => exact h

theorem fieldPlace_run {t : TypeId} {i : TypeInfo} (hi : P.info? t = some i) (hz : i.size ≠ 0) (b o : Nat) (f : Field) (hf : f.type = t) : (fieldPlace ⟨b, o, none⟩ f).run P w = .ok ⟨b, o + f.offset, none⟩ w := by
  subst hf
  simp [fieldPlace, run_size hi, hz, Addr.add_lit]

theorem ptr_live {ρ : LV} {get : Nat → Option Ob} {id ver off : Nat} {r : Value} (lx : LR ν w X σ (.ptr id ver off) r) (hk : Known ν w X σ get id) {ob : Ob} (hob : get id = some ob) (hv : Nat.beq ver ob.ver = true) :
    ∃ b c pl, σ[id]? = some pl ∧ pl.ver = ob.ver ∧ pl.at_ = some (b, c) ∧ r = .pointer (some ⟨b, off, none⟩) ∧ OR ν w X σ pl ob.o := by
  simp only [LR] at lx
  obtain ⟨p, pl, rfl, hpl, hle, hlive⟩ := lx
  obtain ⟨pl', hpl', hver, ho⟩ := hk _ hob
  obtain rfl : pl = pl' := by rw [hpl] at hpl'; simpa using hpl'
  obtain rfl := Nat.eq_of_beq_eq_true hv
  obtain ⟨b, c, hat, rfl⟩ := hlive hver.symm
  exact ⟨b, c, pl, hpl, hver, hat, rfl, ho⟩
theorem rp_live {get : Nat → Option Ob} {id ver f : Nat} {i : E} {r : Value} (lx : LR ν w X σ (.rp id ver i f) r) (hk : Known ν w X σ get id) {ob : Ob} (hob : get id = some ob) (hv : Nat.beq ver ob.ver = true) :
    ∃ b c pl, σ[id]? = some pl ∧ pl.ver = ob.ver ∧ pl.at_ = some (b, c) ∧ r = .pointer (some ⟨b, (denI ν i).toNat * pl.sz + f, none⟩) ∧ OR ν w X σ pl ob.o := by
  simp only [LR] at lx
  obtain ⟨p, pl, rfl, hpl, hle, hlive⟩ := lx
  obtain ⟨pl', hpl', hver, ho⟩ := hk _ hob
  obtain rfl : pl = pl' := by rw [hpl] at hpl'; simpa using hpl'
  obtain rfl := Nat.eq_of_beq_eq_true hv
  obtain ⟨b, c, hat, rfl⟩ := hlive hver.symm
  exact ⟨b, c, pl, hpl, hver, hat, rfl, ho⟩
theorem rs_live {get : Nat → Option Ob} {id ver : Nat} {o n : E} {r : Value} (lx : LR ν w X σ (.rs id ver o n) r) (hk : Known ν w X σ get id) {ob : Ob} (hob : get id = some ob) (hv : Nat.beq ver ob.ver = true) :
    ∃ a len rc pl, σ[id]? = some pl ∧ pl.ver = ob.ver ∧ r = .slice a len rc ∧ RsR pl (denI ν o) (denI ν n) a len rc ∧ OR ν w X σ pl ob.o := by
  simp only [LR] at lx
  obtain ⟨a, len, rc, pl, rfl, hpl, hle, hlive⟩ := lx
  obtain ⟨pl', hpl', hver, ho⟩ := hk _ hob
  obtain rfl : pl = pl' := by rw [hpl] at hpl'; simpa using hpl'
  obtain rfl := Nat.eq_of_beq_eq_true hv
  exact ⟨a, len, rc, pl, hpl, hver, rfl, hlive hver.symm, ho⟩
theorem ptr_back {id ver off : Nat} {pl : Pl} {b c : Nat} (hpl : σ[id]? = some pl) (hv : ver = pl.ver) (hat : pl.at_ = some (b, c)) : LR ν w X σ (.ptr id ver off) (.pointer (some ⟨b, off, none⟩)) := by
  simp only [LR]
  exact ⟨_, pl, rfl, hpl, by omega, fun _ => ⟨b, c, hat, rfl⟩⟩
theorem rp_back {id ver f : Nat} {i : E} {pl : Pl} {b c : Nat} (hpl : σ[id]? = some pl) (hv : ver = pl.ver) (hat : pl.at_ = some (b, c)) {o : Nat} (ho : o = (denI ν i).toNat * pl.sz + f) : LR ν w X σ (.rp id ver i f) (.pointer (some ⟨b, o, none⟩)) := by
  subst ho
  simp only [LR]
  exact ⟨_, pl, rfl, hpl, by omega, fun _ => ⟨b, c, hat, rfl⟩⟩

theorem s_fieldAddr {T : Tab} (hT : TOK P T) {ρ : Operand → LV} {get : Nat → Option Ob} {fresh : Nat} {t : TypeId} {x : Operand} {f : Nat} {out : Out} (h : opRun T ρ get fresh (.fieldAddr t x f) = some out) {r : Value} (lx : LR ν w X σ (ρ x) r)
    (hk : ∀ id, (ρ x).id? = some id → Known ν w X σ get id) : Comes' P ν w X σ out ((Instr.fieldAt t r f).run P w) := by
  simp only [opRun] at h
  split at h
  rotate_left
  · simp at h
  rename_i fs _ _ _ _ hg
  have hu := (hT.get hg).1
  split at h
  rotate_left
  · simp at h
  rename_i fl hf
  split at h
  rotate_left
  · simp at h
  rename_i _ n _ _ _ hg2
  obtain ⟨_, ⟨i, hi, hs, _, _⟩, _⟩ := hT.get hg2
  have hz : i.size ≠ 0 := by rw [hs]; simp
  have go : ∀ b o, (Instr.fieldAt t (.pointer (some ⟨b, o, none⟩)) f).run P w = .ok (.pointer (some ⟨b, o + fl.offset, none⟩)) w := fun b o => by
    simp only [Instr.fieldAt, Sem.run_bind, run_und hu, Result.andThen_ok, hf, Instr.sureAddr, Sem.run_pure, fieldPlace_run hi hz b o fl rfl]
  split at h
  · rename_i id ver off hx
    rw [hx] at lx hk
    split at h
    · rename_i ob _ hob
      cases hb : Nat.beq ver ob
      · rw [hb] at h; simp at h
      rw [hb] at h
      simp only [cond_true, Option.some.injEq] at h
      subst h
      obtain ⟨b, c, pl, hpl, hver, hat, rfl, _⟩ := ptr_live (ρ := .junk) lx (hk id rfl) hob hb
      have := Nat.eq_of_beq_eq_true hb
      exact ⟨rfl, fun _ => ⟨_, go b off, ptr_back hpl (by simp only at hver; omega) hat⟩⟩
    · simp at h
  · rename_i id ver i' off hx
    rw [hx] at lx hk
    split at h
    · rename_i ob _ hob
      cases hb : Nat.beq ver ob
      · rw [hb] at h; simp at h
      rw [hb] at h
      simp only [cond_true, Option.some.injEq] at h
      subst h
      obtain ⟨b, c, pl, hpl, hver, hat, rfl, _⟩ := rp_live lx (hk id rfl) hob hb
      have := Nat.eq_of_beq_eq_true hb
      exact ⟨rfl, fun _ => ⟨_, go b _, rp_back hpl (by simp only at hver; omega) hat (by omega)⟩⟩
    · simp at h
  · rename_i c i' off hx
    rw [hx] at lx
    simp only [Option.some.injEq] at h
    subst h
    simp only [LR] at lx
    obtain ⟨b, o, g, rfl, hgc⟩ := lx
    refine ⟨rfl, fun _ => ⟨_, go b _, ?_⟩⟩
    simp only [LR]
    exact ⟨b, o, g, by rw [Nat.add_assoc], hgc⟩
  · simp at h

theorem s_extract {T : Tab} {ρ : Operand → LV} {get : Nat → Option Ob} {fresh : Nat} {x : Operand} {k : Nat} {out : Out} (h : opRun T ρ get fresh (.extract x k) = some out) {r : Value} (lx : LR ν w X σ (ρ x) r) :
    Comes' P ν w X σ out ((Instr.extract r k).run P w) := by
  simp only [opRun] at h
  split at h
  · rename_i vs hx
    rw [hx] at lx
    split at h
    · rename_i v hv
      simp only [Option.some.injEq] at h
      subst h
      simp only [LR] at lx
      obtain ⟨a, rfl, la⟩ := lx
      obtain ⟨q, hq, lq⟩ := LRs_at la k v hv
      have hq : a[k]? = some q := by simpa using hq
      exact ⟨rfl, fun _ => ⟨q, by simp only [Instr.extract, hq, Sem.run_pure], lq⟩⟩
    · simp at h
  · simp at h

theorem part_of2 {T : Tab} (hT : TOK P T) {t : TypeId} {ti : TI} (hg : T.get t = some ti) {cs : List LV} {a : Array Value} (la : LRs ν w X σ cs a.toList) {off : Nat} {l l2 : List LV} (hl : spanL cs off ti.size = some l) (h2 : ∀ qs, LRs ν w X σ l qs → LRs ν w X σ l2 qs) {v : LV} (hv : aggOr (aggT ti.desc) l2 = some v) :
    ∃ r, (part t a off).run P w = .ok r w ∧ LR ν w X σ v r := by
  obtain ⟨hu, ⟨i, hi, hs, _, _⟩, _⟩ := hT.get hg
  obtain ⟨qs, lqs, hlen, hqs⟩ := spanL_LRs la ti.size off l hl
  have lqs := h2 qs lqs
  unfold aggOr at hv
  cases ha : aggT ti.desc
  · rw [ha] at hv
    simp only [cond_false] at hv
    split at hv
    · rename_i x
      obtain rfl : x = v := by simpa using hv
      obtain ⟨r, rs, rfl, lx, _⟩ := LRs_cons lqs
      have h0 := hqs 0 r rfl
      have h0 : a[off]? = some r := by simpa using h0
      exact ⟨r, by simp only [part, Sem.run_bind, run_isAgg hu, ha, Result.andThen_ok, Bool.false_eq_true, if_false, h0, Sem.run_pure], lx⟩
    · simp at hv
  · rw [ha] at hv
    simp only [cond_true, Option.some.injEq] at hv
    subst hv
    refine ⟨.agg (a.extract off (off + ti.size)), by simp only [part, Sem.run_bind, run_isAgg hu, ha, Result.andThen_ok, if_true, run_size hi, hs, Sem.run_pure], ?_⟩
    simp only [LR]
    refine ⟨_, rfl, ?_⟩
    have : (a.extract off (off + ti.size)).toList = qs := by
      apply List.ext_getElem?
      intro j
      simp only [Array.toList_extract, List.extract_eq_take_drop, Nat.add_sub_cancel_left]
      by_cases hj : j < ti.size
      · rw [List.getElem?_take_of_lt hj, List.getElem?_drop]
        have hjq : j < qs.length := by omega
        rw [List.getElem?_eq_getElem hjq]
        exact hqs j _ (List.getElem?_eq_getElem hjq)
      · rw [List.getElem?_eq_none (by simp; omega), List.getElem?_eq_none (by omega)]
    rw [this]
    exact lqs
theorem part_of {T : Tab} (hT : TOK P T) {t : TypeId} {ti : TI} (hg : T.get t = some ti) {cs : List LV} {a : Array Value} (la : LRs ν w X σ cs a.toList) {off : Nat} {out : Out} (h : rdB (aggT ti.desc) ti.size cs off = some out) :
    Comes' P ν w X σ out ((part t a off).run P w) := by
  unfold rdB at h
  split at h
  rotate_left
  · simp at h
  rename_i l hl
  split at h
  rotate_left
  · simp at h
  rename_i v hv
  simp only [Option.some.injEq] at h
  subst h
  exact ⟨rfl, fun _ => part_of2 hT hg la hl (fun _ h => h) hv⟩
theorem pkL_LRs {c : E} : ∀ {a b l : List LV} (_ : pkL c a b = some l) {rs : List Value} (_ : denB ν c = true → LRs ν w X σ a rs) (_ : denB ν c = false → LRs ν w X σ b rs), LRs ν w X σ l rs
  | [], [], l, h, rs, ha, hb => by
    simp only [pkL, Option.some.injEq] at h
    subst h
    cases hc : denB ν c
    · exact hb hc
    · exact ha hc
  | x :: a, y :: b, l, h, rs, ha, hb => by
    simp only [pkL] at h
    split at h
    · rename_i z r hz hr
      simp only [Option.some.injEq] at h
      subst h
      cases rs with
      | nil =>
        cases hc : denB ν c
        · have := hb hc; simp only [LRs] at this
        · have := ha hc; simp only [LRs] at this
      | cons q qs =>
        simp only [LRs]
        refine ⟨?_, pkL_LRs hr (fun hc => ?_) (fun hc => ?_)⟩
        · have := pk_LR hz (ra := q) (rb := q) (fun hc => by have := ha hc; simp only [LRs] at this; exact this.1) (fun hc => by have := hb hc; simp only [LRs] at this; exact this.1)
          simpa using this
        · have := ha hc; simp only [LRs] at this; exact this.2
        · have := hb hc; simp only [LRs] at this; exact this.2
    · simp at h
  | [], _ :: _, l, h, rs, _, _ => by simp [pkL] at h
  | _ :: _, [], l, h, rs, _, _ => by simp [pkL] at h
theorem ixL_LRs {cs : List LV} {e : E} {sz J : Nat} (he : denI ν e = (J : Int)) : ∀ (n j : Nat) {l : List LV} (_ : ixL cs e sz n j = some l), j ≤ J → J < j + n → ∃ l0, spanL cs (J * sz) sz = some l0 ∧ ∀ qs, LRs ν w X σ l0 qs → LRs ν w X σ l qs
  | 0, j, l, h, _, _ => by simp [ixL] at h
  | n + 1, j, l, h, h1, h2 => by
    simp only [ixL] at h
    cases n with
    | zero =>
      simp only [] at h
      obtain rfl : J = j := by omega
      exact ⟨l, h, fun _ h => h⟩
    | succ n =>
      simp only [] at h
      split at h
      · rename_i a b ha hb
        by_cases hj : J = j
        · subst hj
          exact ⟨a, ha, fun qs hq => pkL_LRs h (fun _ => hq) (fun hc => by simp [denB, denI, he] at hc)⟩
        · obtain ⟨l0, g1, g2⟩ := ixL_LRs he (n + 1) (j + 1) hb (by omega) (by omega)
          exact ⟨l0, g1, fun qs hq => pkL_LRs h (fun hc => by simp only [denB, denI, he, beq_iff_eq] at hc; omega) (fun _ => g2 qs hq)⟩
      · simp at h

theorem s_field {T : Tab} (hT : TOK P T) {ρ : Operand → LV} {get : Nat → Option Ob} {fresh : Nat} {t : TypeId} {x : Operand} {f : Nat} {out : Out} (h : opRun T ρ get fresh (.field t x f) = some out) {r : Value} (lx : LR ν w X σ (ρ x) r) :
    Comes' P ν w X σ out ((Instr.field t r f).run P w) := by
  simp only [opRun] at h
  split at h
  rotate_left
  · simp at h
  rename_i fs _ _ _ _ cs hg hx
  have hu := (hT.get hg).1
  split at h
  rotate_left
  · simp at h
  rename_i fl hf
  split at h
  rotate_left
  · simp at h
  rename_i ti hg2
  rw [hx] at lx
  simp only [LR] at lx
  obtain ⟨a, rfl, la⟩ := lx
  have := part_of hT hg2 la h
  simpa only [Instr.field, Sem.run_bind, run_und hu, Result.andThen_ok, hf, asAgg, Sem.run_pure] using this
end
end Go.Proofs.Ytdgjcdhomfhfpaa
