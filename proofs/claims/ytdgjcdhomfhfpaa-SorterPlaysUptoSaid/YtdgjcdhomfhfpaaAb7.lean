/- A symbolic run of Go code, seventh part: what is read from memory. No condition. -/
import Derived.Test.YtdgjcdhomfhfpaaAb6
namespace Go.Proofs.Ytdgjcdhomfhfpaa
open Go.RowKit
set_option linter.unusedSimpArgs false
set_option linter.unusedVariables false
section
variable {P : Program} {ν : Nu} {w : World} {X : Nat → Prop} {σ : List Pl}

theorem spanL_LRs {cs : List LV} {rs : List Value} (h : LRs ν w X σ cs rs) : ∀ (n off : Nat) (l : List LV), spanL cs off n = some l →
    ∃ qs : List Value, LRs ν w X σ l qs ∧ qs.length = n ∧ ∀ (j : Nat) (v : Value), qs[j]? = some v → rs[off + j]? = some v
  | 0, off, l, hl => by
    simp only [spanL, Option.some.injEq] at hl
    subst hl
    exact ⟨[], by simp only [LRs], rfl, fun j v hv => by simp at hv⟩
  | n + 1, off, l, hl => by
    simp only [spanL] at hl
    split at hl
    · rename_i c r hc hr
      simp only [Option.some.injEq] at hl
      subst hl
      obtain ⟨q, hq, lq⟩ := LRs_at h off c hc
      obtain ⟨qs, lqs, hlen, hqs⟩ := spanL_LRs h n (off + 1) r hr
      refine ⟨q :: qs, by simp only [LRs]; exact ⟨lq, lqs⟩, by simp [hlen], fun j v hv => ?_⟩
      cases j with
      | zero => simpa using hv ▸ hq
      | succ j =>
        have := hqs j v (by simpa using hv)
        rw [show off + (j + 1) = off + 1 + j from by omega]
        exact this
    · simp at hl

theorem load_of {T : Tab} (hT : TOK P T) {t : TypeId} {ti : TI} (hg : T.get t = some ti) {l : List LV} {qs : List Value} (hl : LRs ν w X σ l qs) (hn : qs.length = ti.size) (b off : Nat)
    (hc : ∀ (j : Nat) (v : Value), qs[j]? = some v → w.cell? ⟨b, off + j, none⟩ = some v) {v : LV} (hv : aggOr (aggT ti.desc) l = some v) :
    ∃ r, (Instr.loadAt t (.pointer (some ⟨b, off, none⟩))).run P w = .ok r w ∧ LR ν w X σ v r := by
  obtain ⟨hu, ⟨i, hi, hs, _, _⟩, _⟩ := hT.get hg
  unfold aggOr at hv
  cases ha : aggT ti.desc
  · rw [ha] at hv
    simp only [cond_false] at hv
    split at hv
    · rename_i x
      obtain rfl : x = v := by simpa using hv
      obtain ⟨r, rs, rfl, lx, _⟩ := LRs_cons hl
      refine ⟨r, ?_, lx⟩
      have h0 := hc 0 r rfl
      simp only [Instr.loadAt, Instr.sureAddr, loadVar, Sem.run_bind, Sem.run_pure, Result.andThen_ok, run_isAgg hu, ha, Bool.false_eq_true, if_false, run_load]
      rw [Nat.add_zero] at h0
      rw [h0]
    · simp at hv
  · rw [ha] at hv
    simp only [cond_true, Option.some.injEq] at hv
    subst hv
    refine ⟨.agg qs.toArray, ?_, by simp only [LR]; exact ⟨qs.toArray, rfl, by simpa using hl⟩⟩
    have hcc := run_loadCells_list (P := P) w ⟨b, off, none⟩ qs (fun j v hv => by rw [Addr.add_lit]; exact hc j v hv)
    rw [hn] at hcc
    simp only [Instr.loadAt, Instr.sureAddr, loadVar, Sem.run_bind, Sem.run_pure, Result.andThen_ok, run_isAgg hu, ha, if_true, run_size hi, hs, hcc]

theorem getD_of {α : Type} {l : List α} {i : Nat} {a d : α} (h : l[i]? = some a) : l.getD i d = a := by simp [List.getD, h]

theorem lvK_LR {k : Nat} {c i : E} {f : Nat} {v : LV} (hv : lvK k (.cell c i f) = some v) {cv : CV} (hk : kindC cv = k) (hc : cellAt (denC ν c) (denI ν i) f = cv) {r : Value} (hr : CVR w (Exc X σ) cv r) : LR ν w X σ v r := by
  subst hk
  cases hr with
  | v =>
    cases r with
    | int kk z => cases kk <;> simp only [kindC, lvK, Option.some.injEq] at hv <;> subst hv <;> simp only [LR, denI, hc, CV.int]
    | bool z => simp only [kindC, lvK, Option.some.injEq] at hv; subst hv; simp only [LR, denB, hc, CV.bool]
    | string z => simp only [kindC, lvK, Option.some.injEq] at hv; subst hv; simp only [LR, denS, hc, CV.str]
    | _ => simp [kindC, lvK] at hv
  | nil a0 =>
    simp only [kindC, lvK, Option.some.injEq] at hv
    subst hv
    simp only [LR, denC, hc, CV.els]
    exact .nil a0
  | vs els b o sz cc g hsz hcc hcell hval =>
    simp only [kindC, lvK, Option.some.injEq] at hv
    subst hv
    simp only [LR, denC, hc, CV.els]
    exact .vs els b o sz cc g hsz hcc hcell hval
  | sem Q _ h1 hq =>
    simp only [kindC, lvK, Option.some.injEq] at hv
    subst hv
    simp only [LR, cvE, hc]
    exact .sem Q _ h1 hq

/-- the cells of an element, one by one -/
theorem cellsK_LRs {c i : E} {el : List CV} (hel : (denC ν c).getD (denI ν i).toNat [] = el) {g : Nat → Value} : ∀ (ks : List Nat) (f : Nat) (l : List LV), cellsK c i f ks = some l →
    ks = ((el.drop f).take ks.length).map kindC → (∀ (f' : Nat) (cv : CV), el[f']? = some cv → CVR w (Exc X σ) cv (g f')) →
    ∃ qs : List Value, LRs ν w X σ l qs ∧ qs.length = ks.length ∧ ∀ (j : Nat) (v : Value), qs[j]? = some v → v = g (f + j) ∧ f + j < el.length
  | [], f, l, hl, _, _ => by
    simp only [cellsK, Option.some.injEq] at hl
    subst hl
    exact ⟨[], by simp only [LRs], rfl, fun j v hv => by simp at hv⟩
  | k :: ks, f, l, hl, hk, hv => by
    simp only [cellsK] at hl
    split at hl
    · rename_i x r hx hr
      simp only [Option.some.injEq] at hl
      subst hl
      cases hd : el[f]? with
      | none =>
        have : el.drop f = [] := List.drop_eq_nil_of_le (by simpa using hd)
        rw [this] at hk
        simp at hk
      | some cv =>
        have hlt : f < el.length := by
          obtain ⟨h, _⟩ := List.getElem?_eq_some_iff.1 hd
          exact h
        have hcons : el.drop f = cv :: el.drop (f + 1) := by
          rw [List.drop_eq_getElem_cons hlt]
          congr 1
          rw [List.getElem?_eq_getElem hlt] at hd
          simpa using hd
        rw [hcons] at hk
        simp only [List.length_cons, List.take_succ_cons, List.map_cons, List.cons.injEq] at hk
        obtain ⟨qs, lqs, hlen, hqs⟩ := cellsK_LRs hel ks (f + 1) r hr hk.2 hv
        refine ⟨g f :: qs, ?_, by simp [hlen], fun j v hj => ?_⟩
        · simp only [LRs]
          refine ⟨lvK_LR hx hk.1.symm ?_ (hv f cv hd), lqs⟩
          unfold cellAt
          rw [hel]
          exact getD_of hd
        · cases j with
          | zero =>
            simp only [List.getElem?_cons_zero, Option.some.injEq] at hj
            exact ⟨hj.symm, hlt⟩
          | succ j =>
            have := hqs j v (by simpa using hj)
            rw [show f + (j + 1) = f + 1 + j from by omega]
            exact this
    · simp at hl

/-- what is known of the object that a value points into -/
def Known (ν : Nu) (w : World) (X : Nat → Prop) (σ : List Pl) (get : Nat → Option Ob) (id : Nat) : Prop :=
  ∀ ob, get id = some ob → ∃ pl, σ[id]? = some pl ∧ pl.ver = ob.ver ∧ OR ν w X σ pl ob.o

theorem rdE_ok {T : Tab} (hT : TOK P T) {t : TypeId} {ti : TI} (hg : T.get t = some ti) {c i : E} {f : Nat} {out : Out} (h : rdE T t (aggT ti.desc) ti.size c i f = some out) (b o : Nat) {g : Nat → Value}
    (hcell : ∀ (f' : Nat) (cv : CV), ((denC ν c).getD (denI ν i).toNat [])[f']? = some cv → w.cell? ⟨b, o + f', none⟩ = some (g f') ∧ CVR w (Exc X σ) cv (g f')) :
    Comes' P ν w X σ out ((Instr.loadAt t (.pointer (some ⟨b, o + f, none⟩))).run P w) := by
  unfold rdE at h
  split at h
  rotate_left
  · simp at h
  rename_i ks hks
  cases hb : Nat.beq ks.length ti.size
  · rw [hb] at h; simp at h
  rw [hb] at h
  simp only [Bool.not_true, cond_false] at h
  split at h
  rotate_left
  · simp at h
  rename_i l hl
  split at h
  rotate_left
  · simp at h
  rename_i v hv
  simp only [Option.some.injEq] at h
  subst h
  refine ⟨rfl, fun hn => ?_⟩
  have hk : denN ν (.kinds c i f ks) := hn _ (by simp)
  obtain ⟨qs, lqs, hlen, hqs⟩ := cellsK_LRs rfl ks f l hl hk (fun f' cv hf => (hcell f' cv hf).2)
  refine load_of hT hg lqs (by rw [hlen]; exact Nat.eq_of_beq_eq_true hb) b (o + f) (fun j v hj => ?_) hv
  obtain ⟨rfl, hlt⟩ := hqs j v hj
  have := (hcell (f + j) _ (List.getElem?_eq_getElem hlt)).1
  rw [show o + f + j = o + (f + j) from by omega]
  exact this

theorem heap_cell {b o : Nat} {a : Array Value} {e : TypeId} {fr : Nat × Nat} (h : w.heap[b]? = some (.cells a e fr)) : w.cell? ⟨b, o, none⟩ = a[o]? := by
  unfold World.cell?
  rw [h]
  rfl

theorem rows_cell {els : List (List CV)} {a : Array Value} {sz : Nat} {i : Nat}
    (hr : ∀ (i : Nat) (el : List CV), els[i]? = some el → ∀ (f : Nat) (cv : CV), el[f]? = some cv → ∃ r, a[i * sz + f]? = some r ∧ CVR w (Exc X σ) cv r) :
    ∃ g : Nat → Value, ∀ (f' : Nat) (cv : CV), (els.getD i [])[f']? = some cv → a[i * sz + f']? = some (g f') ∧ CVR w (Exc X σ) cv (g f') := by
  refine ⟨fun f => (a[i * sz + f]?).getD undef, fun f' cv hf => ?_⟩
  cases he : els[i]? with
  | none => simp [List.getD, he] at hf
  | some el =>
    have : els.getD i [] = el := getD_of he
    rw [this] at hf
    obtain ⟨r, hr, hc⟩ := hr i el he f' cv hf
    simp only [hr, Option.getD_some]
    exact ⟨trivial, hc⟩

theorem s_load {T : Tab} (hT : TOK P T) {ρ : Operand → LV} {get : Nat → Option Ob} {fresh : Nat} {t : TypeId} {x : Operand} {out : Out} (h : opRun T ρ get fresh (.load t x) = some out) {r : Value} (lx : LR ν w X σ (ρ x) r)
    (hk : ∀ id, (ρ x).id? = some id → Known ν w X σ get id) : Comes' P ν w X σ out ((Instr.loadAt t r).run P w) := by
  simp only [opRun] at h
  split at h
  · rename_i ti id ver off hg hx
    rw [hx] at lx hk
    simp only [LR] at lx
    obtain ⟨p, pl, rfl, hpl, hle, hlive⟩ := lx
    split at h
    · rename_i ver' cs e hob
      cases hb : Nat.beq ver ver'
      · rw [hb] at h; simp at h
      rw [hb] at h
      simp only [cond_true] at h
      obtain rfl := Nat.eq_of_beq_eq_true hb
      obtain ⟨pl', hpl', hver, ho⟩ := hk id rfl _ hob
      obtain rfl : pl = pl' := by rw [hpl] at hpl'; simpa using hpl'
      obtain ⟨b, c, hat, rfl⟩ := hlive hver.symm
      obtain ⟨b', c', a, fr, hat', hh, hfr, lcs⟩ := ho
      rw [hat] at hat'
      simp only [Option.some.injEq, Prod.mk.injEq] at hat'
      obtain ⟨rfl, rfl⟩ := hat'
      unfold rdB at h
      split at h
      rotate_left
      · simp at h
      rename_i l hl
      split at h
      rotate_left
      · simp at h
      rename_i v hv
      simp only [Option.some.injEq] at h
      subst h
      refine ⟨rfl, fun _ => ?_⟩
      obtain ⟨qs, lqs, hlen, hqs⟩ := spanL_LRs lcs ti.size off l hl
      refine load_of hT hg lqs hlen b off (fun j v hj => ?_) hv
      rw [heap_cell hh]
      have := hqs j v hj
      simpa using this
    · simp at h
  · rename_i ti id ver i f hg hx
    rw [hx] at lx hk
    simp only [LR] at lx
    obtain ⟨p, pl, rfl, hpl, hle, hlive⟩ := lx
    split at h
    · rename_i ver' c e sz hob
      cases hb : Nat.beq ver ver'
      · rw [hb] at h; simp at h
      rw [hb] at h
      simp only [cond_true] at h
      obtain rfl := Nat.eq_of_beq_eq_true hb
      obtain ⟨pl', hpl', hver, ho⟩ := hk id rfl _ hob
      obtain rfl : pl = pl' := by rw [hpl] at hpl'; simpa using hpl'
      obtain ⟨b, cc, hat, rfl⟩ := hlive hver.symm
      obtain ⟨hsz, _, _, hrow⟩ := ho
      subst hsz
      rcases hrow with ⟨hno, _⟩ | ⟨b', cap, a, fr, hat', hh, hfr, hcap, hlen, hcells⟩
      · rw [hat] at hno; simp at hno
      · rw [hat] at hat'
        simp only [Option.some.injEq, Prod.mk.injEq] at hat'
        obtain ⟨rfl, rfl⟩ := hat'
        obtain ⟨g, hgc⟩ := rows_cell (i := (denI ν i).toNat) hcells
        exact rdE_ok hT hg h b ((denI ν i).toNat * pl.sz) (fun f' cv hf => by
          obtain ⟨h1, h2⟩ := hgc f' cv hf
          exact ⟨by rw [heap_cell hh]; exact h1, h2⟩)
    · simp at h
  · rename_i ti c i f hg hx
    rw [hx] at lx
    simp only [LR] at lx
    obtain ⟨b, o, g, rfl, hgc⟩ := lx
    exact rdE_ok hT hg h b o (fun f' cv hf => (hgc f' cv hf).2)
  · simp at h
end
end Go.Proofs.Ytdgjcdhomfhfpaa
