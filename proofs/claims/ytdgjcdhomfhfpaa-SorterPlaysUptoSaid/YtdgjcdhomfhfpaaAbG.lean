/- A symbolic run of Go code: rows that are made whole, stores into rows, texts that are gone through. No condition. -/
import Derived.Test.YtdgjcdhomfhfpaaAbF
import Derived.Test.YtdgjcdhomfhfpaaAb14
import Derived.Laws.OwnMore
import Derived.Laws.IdiomStrings
namespace Go.Proofs.Ytdgjcdhomfhfpaa
open Go.RowKit
set_option linter.unusedSimpArgs false
set_option linter.unusedVariables false
section
variable {P : Program} {ν : Nu} {w : World} {X : Nat → Prop} {σ : List Pl}

theorem s_range {T : Tab} (hT : TOK P T) {ρ : Operand → LV} {val : Operand → Value} {get : Nat → Option Ob} {fresh : Nat} {o : Oper} {t : TypeId} {x : Operand} (ho : o.op = .range t x) {out : Out} (h : opRun T ρ get fresh o.op = some out) (lx : LR ν w X σ (ρ x) (val x)) :
    EffOK ν w X σ fresh out ((execOp val o).run P w) := by
  rw [ho] at h
  simp only [opRun] at h
  split at h
  rotate_left
  · simp at h
  rename_i e hg hx
  simp only [Option.some.injEq] at h
  subst h
  have hu := (hT.get hg).1
  rw [hx] at lx
  simp only [LR] at lx
  intro hpl
  have hm : Moved w (w.alloc (.stringIter (denS ν e) 0)) ⟨0, none, 0⟩ ⟨1, some (w.heap.size, 0), 0⟩ := .inr ⟨Turn.alloc w _, .inr ⟨0, rfl, by simp⟩⟩
  refine ⟨.value (.pointer (some ⟨w.heap.size, 0, none⟩)), _, w.alloc (.stringIter (denS ν e) 0), _, ⟨1, some (w.heap.size, 0), 0⟩, ?_, .inl rfl, hpl, rfl, .inr (by simp), hm, ?_, ?_⟩
  · simp [execOp, ho, Instr.range, lx, run_und hu]
  · exact ptr_back (pl := ⟨1, some (w.heap.size, 0), 0⟩) (List.getElem?_set_self (List.getElem?_eq_some_iff.1 hpl).1) rfl rfl
  · exact ⟨_, _, rfl, by simp [denI], by simpa [denI] using heap_new w _⟩

theorem shuts_one : ∀ {cs : List LV}, cs.all LV.shut = true → cs.all LV.one = true
  | [], _ => rfl
  | c :: cs, h => by
    simp only [List.all_cons, Bool.and_eq_true] at h ⊢
    refine ⟨?_, shuts_one h.2⟩
    cases c <;> first | rfl | exact h.1 | (simp [LV.shut] at h)

/-- one element after another -/
theorem holds_lit {cs : List LV} {rs : List Value} (h : LRs ν w X σ cs rs) (hs : cs.all LV.shut = true) (n sz : Nat) (hn : n * sz ≤ cs.length) :
    (∀ el ∈ ((List.range n).map fun j => (cs.drop (j * sz)).take sz).map (·.map (cvOf ν)), el.length = sz) ∧ Holds w (Exc X σ) sz (((List.range n).map fun j => (cs.drop (j * sz)).take sz).map (·.map (cvOf ν))) (fun i => rs[i]?) := by
  have hj : ∀ j, j < n → j * sz + sz ≤ cs.length := fun j hj => by
    have : (j + 1) * sz ≤ n * sz := Nat.mul_le_mul_right _ hj
    rw [Nat.add_mul] at this
    omega
  refine ⟨fun el hel => ?_, fun i el hi f cv hf => ?_⟩
  · simp only [List.map_map, List.mem_map, List.mem_range, Function.comp_apply] at hel
    obtain ⟨j, hjn, rfl⟩ := hel
    have := hj j hjn
    simp
    omega
  · simp only [List.getElem?_map, Option.map_eq_some_iff] at hi
    obtain ⟨el', ⟨j, hj', rfl⟩, rfl⟩ := hi
    have hlt : i < n := by
      have := (List.getElem?_eq_some_iff.1 hj').1
      simpa using this
    rw [List.getElem?_range hlt] at hj'
    simp only [Option.some.injEq] at hj'
    subst hj'
    simp only [List.getElem?_map, Option.map_eq_some_iff] at hf
    obtain ⟨v, hv, rfl⟩ := hf
    have hfl : f < sz := by
      have := (List.getElem?_eq_some_iff.1 hv).1
      simp at this
      omega
    rw [List.getElem?_take_of_lt hfl, List.getElem?_drop] at hv
    have hl := LRs_len h
    have hlt' : i * sz + f < rs.length := by
      rw [← hl]; exact (List.getElem?_eq_some_iff.1 hv).1
    refine ⟨rs[i * sz + f], List.getElem?_eq_getElem hlt', ?_⟩
    have hg := LRs_get h (i * sz + f) _ (List.getElem?_eq_getElem hlt')
    have hgv : getL cs (i * sz + f) = v := by
      have : ∀ (l : List LV) (k : Nat) (v : LV), l[k]? = some v → getL l k = v := by
        intro l
        induction l with
        | nil => intro k v h; simp at h
        | cons y l ih =>
          intro k v h
          cases k with
          | zero => simpa [getL] using h
          | succ k => exact ih k v (by simpa using h)
      exact this _ _ _ hv
    rw [hgv] at hg
    exact cv_LR (List.all_eq_true.1 hs v (List.mem_of_getElem? hv)) hg

theorem overL_get (el : List CV) (f : Nat) (cs : List CV) (h : f + cs.length ≤ el.length) (j : Nat) : (overL el f cs)[j]? = if f ≤ j ∧ j < f + cs.length then cs[j - f]? else el[j]? := by
  unfold overL
  have hl : (el.take f).length = f := by simp; omega
  by_cases h1 : j < f
  · rw [if_neg (by omega), List.append_assoc, List.getElem?_append_left (by omega), List.getElem?_take_of_lt h1]
  · rw [List.append_assoc, List.getElem?_append_right (by omega), hl]
    by_cases h2 : j - f < cs.length
    · rw [if_pos (by omega), List.getElem?_append_left h2]
    · rw [if_neg (by omega), List.getElem?_append_right (by omega), List.getElem?_drop]
      congr 1
      omega
theorem overL_len (el : List CV) (f : Nat) (cs : List CV) (h : f + cs.length ≤ el.length) : (overL el f cs).length = el.length := by
  unfold overL
  simp
  omega

theorem s_storeR {T : Tab} (hT : TOK P T) {ρ : Operand → LV} {val : Operand → Value} {get : Nat → Option Ob} {fresh : Nat} {o : Oper} {t : TypeId} {a x : Operand} (ho : o.op = .store t a x) {out : Out} (h : opRun T ρ get fresh o.op = some out) {id ver f : Nat} {i : E} (hrp : ρ a = .rp id ver i f) (hn : denNs ν out.needs)
    (la : LR ν w X σ (ρ a) (val a)) (lx : LR ν w X σ (ρ x) (val x)) (hk : ∀ id, (ρ a).id? = some id → Known ν w X σ get id) :
    EffOK ν w X σ fresh out ((execOp val o).run P w) := by
  rw [ho] at h
  simp only [opRun, hrp] at h
  rw [hrp] at la hk
  split at h
  · rename_i heq; simp at heq
  · rename_i ti id' ver0 i' f' hg heq
    simp only [LV.rp.injEq] at heq
    obtain ⟨rfl, rfl, rfl, rfl⟩ := heq
    split at h
    rotate_left
    · simp at h
    rename_i ver' c e sz hob
    cases hb : Nat.beq ver ver' && (ρ x).cells.all LV.shut && Nat.beq (ρ x).cells.length ti.size && Nat.ble (f + ti.size) sz
    · rw [hb] at h; simp at h
    rw [hb] at h
    simp only [cond_true, Option.some.injEq] at h
    subst h
    simp only [Bool.and_eq_true] at hb
    obtain ⟨⟨⟨hv, hshut⟩, hlen⟩, hle⟩ := hb
    have hlen := Nat.eq_of_beq_eq_true hlen
    have hle : f + ti.size ≤ sz := Nat.le_of_ble_eq_true hle
    have hone := shuts_one hshut
    obtain ⟨b, cap', pl, hpl, hver, hat, hva, hplsz, hpos, hcsz, hrow⟩ := rp_live la (hk id rfl) hob hv
    have hix : denN ν (.ix i (.clen c)) := hn _ (by simp)
    simp only [denN, denI] at hix
    rcases hrow with ⟨hno, _⟩ | ⟨b2, cap, ar, fr, hat2, hh, hfr, hcap, hlen2, hcells⟩
    · rw [hat] at hno; simp at hno
    rw [hat] at hat2
    simp only [Option.some.injEq, Prod.mk.injEq] at hat2
    obtain ⟨rfl, rfl⟩ := hat2
    obtain ⟨hu, ⟨it, hi, hs, _, _⟩, _⟩ := hT.get hg
    have lxc := cells_LRs hone lx
    have l1 := LRs_len lxc
    simp only [Array.length_toList] at l1
    have hidx : (denI ν i).toNat < (denC ν c).length := by omega
    generalize hn0 : (denI ν i).toNat = k at hva hidx
    have hfit : k * sz + f + 0 + (val x).cells.toList.length ≤ ar.size := by
      have : (k + 1) * sz ≤ cap' * sz := Nat.mul_le_mul_right _ (by omega)
      rw [Nat.add_mul] at this
      simp
      omega
    rw [hplsz] at hva
    obtain ⟨w', hr, ht, hsz', hh'⟩ := store_run (P := P) (k * sz + f) (val x).cells.toList 0 ar w hh hfr.1 hfit (ones_of hone lxc)
    have hst := stays_same (X := X) hpl hat ht
    intro mm hmm
    simp only [denDC, hn0] at hmm
    obtain ⟨e1, e2⟩ := den_at hmm
    have hel : (denC ν c)[k]? = some ((denC ν c).getD k []) := by simp [List.getD, List.getElem?_eq_getElem hidx]
    have hell : ((denC ν c).getD k []).length = sz := hcsz _ (List.mem_of_getElem? hel)
    have hfc : f + ((ρ x).cells.map (cvOf ν)).length ≤ ((denC ν c).getD k []).length := by rw [hell, List.length_map, hlen]; exact hle
    refine ⟨.skip, undef, w', pl, pl, ?_, .inr ⟨rfl, rfl⟩, hpl, hver, .inl rfl, .inl ⟨b, cap', cap', hat, hat, ht⟩, ?_, ?_⟩
    · have hne : ¬ (val x).cells.size ≠ it.size := by rw [hs]; omega
      simp only [execOp, ho, Sem.run_bind, hva, Instr.storeAt, Instr.sureAddr, Sem.run_pure, Result.andThen_ok, storeVar, run_size hi, hne, if_false, hr]
    · simp only [LR]
      exact ⟨#[], rfl, by simp [LRs]⟩
    · rw [set_self hpl]
      refine ⟨hplsz, hpos, ?_, .inr ⟨b, cap', putV ar (k * sz + f) (val x).cells.toList 0, fr, hat, hh', by rw [putV_size]; exact hfr, by rw [putV_size]; exact hcap, by rw [e1, List.length_set]; exact hlen2, fun j el hj g cv hg => ?_⟩⟩
      · rw [e1]
        intro el hel'
        rcases List.mem_or_eq_of_mem_set hel' with h | rfl
        · exact hcsz el h
        · rw [overL_len _ _ _ hfc, hell]
      · rw [e1] at hj
        have hput := putV_get (k * sz + f) (val x).cells.toList 0 ar hfit (j * sz + g)
        rw [Nat.add_zero] at hput
        have hjl : j < (denC ν c).length := by
          have := (List.getElem?_eq_some_iff.1 hj).1
          simpa using this
        have hcl : (val x).cells.toList.length = ti.size := by simp; omega
        by_cases ej : j = k
        · subst ej
          rw [List.getElem?_set_self hidx] at hj
          simp only [Option.some.injEq] at hj
          subst hj
          rw [overL_get _ _ _ hfc] at hg
          simp only [List.length_map, hlen] at hg
          by_cases hin : f ≤ g ∧ g < f + ti.size
          · rw [if_pos hin] at hg
            rw [if_pos (by omega)] at hput
            have lc := cvs_LR hshut lxc
            have get : ∀ (cs : List CV) (rs : List Value), CVRs w (Exc X σ) cs rs → ∀ (n : Nat) (cv : CV), cs[n]? = some cv → ∃ r, rs[n]? = some r ∧ CVR w (Exc X σ) cv r := by
              intro cs
              induction cs with
              | nil => intro rs _ n cv h; simp at h
              | cons c cs ih =>
                intro rs h n cv hc
                cases rs with
                | nil => simp only [CVRs] at h
                | cons r rs =>
                  simp only [CVRs] at h
                  cases n with
                  | zero =>
                    simp only [List.getElem?_cons_zero, Option.some.injEq] at hc
                    subst hc
                    exact ⟨r, rfl, h.1⟩
                  | succ n => exact ih rs h.2 n cv (by simpa using hc)
            obtain ⟨r, g1, g2⟩ := get _ _ lc _ cv hg
            refine ⟨r, ?_, g2.step hst⟩
            rw [hput, show j * sz + g - (j * sz + f) = g - f from by omega]
            exact g1
          · rw [if_neg hin] at hg
            rw [if_neg (by omega)] at hput
            obtain ⟨r, g1, g2⟩ := hcells j _ hel g cv hg
            exact ⟨r, by rw [hput]; exact g1, g2.step hst⟩
        · rw [List.getElem?_set_ne (Ne.symm ej)] at hj
          obtain ⟨r, g1, g2⟩ := hcells j el hj g cv hg
          have hgl : g < sz := by
            rw [← hcsz el (List.mem_of_getElem? hj)]
            exact (List.getElem?_eq_some_iff.1 hg).1
          refine ⟨r, ?_, g2.step hst⟩
          rw [hput, if_neg ?_]
          · exact g1
          · rintro ⟨h1, h2⟩
            rcases Nat.lt_or_gt_of_ne ej with h | h
            · have : (j + 1) * sz ≤ k * sz := Nat.mul_le_mul_right _ h
              rw [Nat.add_mul] at this
              omega
            · have : (k + 1) * sz ≤ j * sz := Nat.mul_le_mul_right _ h
              rw [Nat.add_mul] at this
              omega
  · simp at h

theorem LRs_append : ∀ {cs ds : List LV} {rs qs : List Value}, LRs ν w X σ cs rs → LRs ν w X σ ds qs → LRs ν w X σ (cs ++ ds) (rs ++ qs)
  | [], ds, [], qs, _, h => h
  | c :: cs, ds, r :: rs, qs, h, h' => by
    simp only [LRs] at h
    simp only [List.cons_append, LRs]
    exact ⟨h.1, LRs_append h.2 h'⟩
  | [], _, _ :: _, _, h, _ => by simp only [LRs] at h
  | _ :: _, _, [], _, h, _ => by simp only [LRs] at h
theorem LRs_copies {cs : List LV} {rs : List Value} (h : LRs ν w X σ cs rs) : ∀ n, LRs ν w X σ ((List.range n).flatMap fun _ => cs) ((List.range n).flatMap fun _ => rs)
  | 0 => by simp [LRs]
  | n + 1 => by
    rw [List.range_succ, List.flatMap_append, List.flatMap_append]
    refine LRs_append (LRs_copies h n) ?_
    simpa using h
theorem copies_eq (l : Array Value) (s : Nat) (hs : l.size = s) (h0 : 0 < s) : ∀ n, (List.range (n * s)).map (fun j => l[j % s]!) = (List.range n).flatMap fun _ => l.toList
  | 0 => by simp
  | n + 1 => by
    rw [Nat.add_mul, Nat.one_mul, List.range_add, List.map_append, copies_eq l s hs h0 n, List.range_succ, List.flatMap_append]
    congr 1
    simp only [List.flatMap_cons, List.flatMap_nil, List.append_nil, List.map_map]
    apply List.ext_getElem
    · simp [hs]
    · intro j h1 h2
      simp only [List.length_map, List.length_range] at h1
      simp only [List.getElem_map, List.getElem_range, Function.comp_apply, Array.getElem_toList]
      rw [show (n * s + j) % s = j from by rw [Nat.mul_comm, Nat.mul_add_mod, Nat.mod_eq_of_lt h1]]
      simp [hs, h1]
theorem zero_LRs (z : Value) : LRs ν w X σ (zeroCells z) z.cells.toList := by
  have := lv_LR ν w X σ z
  cases z with
  | agg cs => simpa [zeroCells, lvOf, LV.cells, Value.cells] using lits_LRs ν w X σ cs.toList
  | tuple vs =>
    simp only [zeroCells, lvOf, LV.cells, Value.cells, LRs]
    exact ⟨by simpa only [lvOf] using this, trivial⟩
  | _ =>
    simp only [zeroCells, lvOf, litOf, LV.cells, Value.cells, LRs]
    exact ⟨by simpa only [lvOf, litOf] using this, trivial⟩

theorem s_buildSlice {T : Tab} (hT : TOK P T) {ρ : Operand → LV} {val : Operand → Value} {get : Nat → Option Ob} {fresh : Nat} {o : Oper} {t : TypeId} {len : Nat} {parts : Array (Nat × Operand)} (ho : o.op = .buildSlice t len parts) {out : Out} (h : opRun T ρ get fresh o.op = some out)
    (hρ : ∀ p ∈ parts.toList, LR ν w X σ (ρ p.2) (val p.2)) : EffOK ν w X σ fresh out ((execOp val o).run P w) := by
  rw [ho] at h
  simp only [opRun] at h
  split at h
  rotate_left
  · simp at h
  rename_i el _ _ _ _ hg
  split at h
  rotate_left
  · simp at h
  rename_i desc sz by_ z eq hge
  split at h
  rotate_left
  · simp at h
  rename_i cs hfill
  cases hb : cs.all LV.shut && Nat.ble 1 sz && Nat.ble (len * sz) 16777216 && Nat.beq z.cells.size sz && Nat.beq cs.length (len * sz)
  · rw [hb] at h; simp at h
  rw [hb] at h
  simp only [cond_true, Option.some.injEq] at h
  subst h
  simp only [Bool.and_eq_true] at hb
  obtain ⟨⟨⟨⟨hshut, hpos⟩, hmax⟩, hzs⟩, hcl⟩ := hb
  have hpos : 0 < sz := Nat.le_of_ble_eq_true hpos
  have hmax := Nat.le_of_ble_eq_true hmax
  have hzs := Nat.eq_of_beq_eq_true hzs
  have hcl := Nat.eq_of_beq_eq_true hcl
  have hu := (hT.get hg).1
  obtain ⟨_, ⟨i, hi, hisz, hiby, hiz⟩, _⟩ := hT.get hge
  simp only at hisz hiby hiz hu
  have hiz := hiz z rfl
  have h0 := LRs_copies (zero_LRs (ν := ν) (w := w) (X := X) (σ := σ) z) len
  rw [← copies_eq z.cells sz hzs hpos len] at h0
  have harr : ((Array.range (len * sz)).map (z.cells[· % z.cells.size]!)).toList = (List.range (len * sz)).map (fun j => z.cells[j % sz]!) := by
    rw [hzs]; simp
  obtain ⟨a', hf, hl⟩ := fill_LRs (place := fun i => some (i * sz, sz)) (ρ := ρ) (val := val) parts.toList _ ((Array.range (len * sz)).map (z.cells[· % z.cells.size]!)) cs hfill (by rw [harr]; exact h0) hρ
  obtain ⟨hls, hho⟩ := holds_lit hl hshut len sz (by omega)
  have hla := LRs_len hl
  intro mm hmm hpl
  simp only [denDC] at hmm
  have hrun : (execOp val o).run P w = .ok (.value (.slice (some ⟨w.heap.size, 0, none⟩) len len)) (w.alloc (.cells a' el)) := by
    have hb2 : ¬ (16777216 < len * sz) := by omega
    have hparts : (parts.map fun p => (p.1, val p.2)).toList = parts.toList.map fun (i, x) => (i, val x) := by simp
    by_cases hz0 : len * sz = 0
    · have hz' : len * i.size = 0 := by rw [hisz]; exact hz0
      have hf' : Instr.fill (fun i => some (i * sz, sz)) (Array.map (fun (_ : Nat) => (default : Value)) (Array.range 0)) (parts.toList.map fun (i, x) => (i, val x)) = some a' := by
        rw [← hf]
        congr 1
        simp [hz0]
      simp [execOp, ho, Instr.buildSlice, run_und hu, run_size hi, hisz, hb2, hz0, hf', newRow]
    · simp [execOp, ho, Instr.buildSlice, run_und hu, run_size hi, hisz, hb2, hz0, run_zero hi hiz, hf, newRow]
  have hlen : ((((List.range len).map fun j => (cs.drop (j * sz)).take sz).map (·.map (cvOf ν)))).length = len := by simp
  refine row_new hpl (by simp) hmm (Turn.alloc w _) (heap_new w _) (hmx := by have := Nat.le_mul_of_pos_right len hpos; omega) hpos hls (cap := len) (rc := len) ?_ (by rw [hlen]; exact Nat.le_refl _) (Nat.le_refl _) ?_ hrun rfl (.inl ⟨by rw [hlen], rfl⟩)
  · have : a'.size = cs.length := by simpa using hla.symm
    omega
  · intro i el hi f cv hf
    obtain ⟨r, h1, h2⟩ := hho i el hi f cv hf
    exact ⟨r, by rw [← h1]; simp, h2⟩

/-- a literal of a slice, as closed data -/
theorem s_litC {T : Tab} (hT : TOK P T) {ρ : Operand → LV} {val : Operand → Value} {get : Nat → Option Ob} {fresh : Nat} {o : Oper} {t : TypeId} {len : Nat} {parts : Array (Nat × Operand)} (ho : o.op = .buildSlice t len parts) {ns : List Need} {v0 : LV} {d : DC} {of : E → LO} {vf : E → LV}
    (h : opRun T ρ get fresh (.buildSlice t len parts) = some ⟨ns, v0, .newc d of vf⟩) {m : Nat} (hm : Nu.at ν m = .l (denDC ν d)) (hn : denNs ν ns) (hρ : ∀ p ∈ parts.toList, LR ν w X σ (ρ p.2) (val p.2)) (hown : ∀ b, Own σ b → b < w.heap.size) (hX : ∀ b, X b → b < w.heap.size) :
    ∃ r w', (execOp val o).run P w = .ok (.value r) w' ∧ Turn none w w' ∧ LR ν w' X σ (.vs (.var m)) r := by
  simp only [opRun] at h
  split at h
  rotate_left
  · simp at h
  rename_i el _ _ _ _ hg
  split at h
  rotate_left
  · simp at h
  rename_i desc sz by_ z eq hge
  split at h
  rotate_left
  · simp at h
  rename_i cs hfill
  cases hb : cs.all LV.shut && Nat.ble 1 sz && Nat.ble (len * sz) 16777216 && Nat.beq z.cells.size sz && Nat.beq cs.length (len * sz)
  · rw [hb] at h; simp at h
  rw [hb] at h
  simp only [cond_true, Option.some.injEq, Out.mk.injEq, Eff.newc.injEq] at h
  obtain ⟨rfl, rfl, rfl, rfl, rfl⟩ := h
  simp only [Bool.and_eq_true] at hb
  obtain ⟨⟨⟨⟨hshut, hpos⟩, hmax⟩, hzs⟩, hcl⟩ := hb
  have hpos : 0 < sz := Nat.le_of_ble_eq_true hpos
  have hmax := Nat.le_of_ble_eq_true hmax
  have hzs := Nat.eq_of_beq_eq_true hzs
  have hcl := Nat.eq_of_beq_eq_true hcl
  have hu := (hT.get hg).1
  obtain ⟨_, ⟨i, hi, hisz, hiby, hiz⟩, _⟩ := hT.get hge
  simp only at hisz hiby hiz hu
  have hiz := hiz z rfl
  have h0 := LRs_copies (zero_LRs (ν := ν) (w := w) (X := X) (σ := σ) z) len
  rw [← copies_eq z.cells sz hzs hpos len] at h0
  have harr : ((Array.range (len * sz)).map (z.cells[· % z.cells.size]!)).toList = (List.range (len * sz)).map (fun j => z.cells[j % sz]!) := by
    rw [hzs]; simp
  obtain ⟨a', hf, hl⟩ := fill_LRs (place := fun i => some (i * sz, sz)) (ρ := ρ) (val := val) parts.toList _ ((Array.range (len * sz)).map (z.cells[· % z.cells.size]!)) cs hfill (by rw [harr]; exact h0) hρ
  obtain ⟨hls, hho⟩ := holds_lit hl hshut len sz (by omega)
  have hla := LRs_len hl
  simp only [denDC] at hm
  have hrun : (execOp val o).run P w = .ok (.value (.slice (some ⟨w.heap.size, 0, none⟩) len len)) (w.alloc (.cells a' el)) := by
    have hb2 : ¬ (16777216 < len * sz) := by omega
    have hparts : (parts.map fun p => (p.1, val p.2)).toList = parts.toList.map fun (i, x) => (i, val x) := by simp
    by_cases hz0 : len * sz = 0
    · have hz' : len * i.size = 0 := by rw [hisz]; exact hz0
      have hf' : Instr.fill (fun i => some (i * sz, sz)) (Array.map (fun (_ : Nat) => (default : Value)) (Array.range 0)) (parts.toList.map fun (i, x) => (i, val x)) = some a' := by
        rw [← hf]
        congr 1
        simp [hz0]
      simp [execOp, ho, Instr.buildSlice, run_und hu, run_size hi, hisz, hb2, hz0, hf', newRow]
    · simp [execOp, ho, Instr.buildSlice, run_und hu, run_size hi, hisz, hb2, hz0, run_zero hi hiz, hf, newRow]
  have hlen : ((((List.range len).map fun j => (cs.drop (j * sz)).take sz).map (·.map (cvOf ν)))).length = len := by simp
  have hw : (w.alloc (.cells a' el)).heap[w.heap.size]? = some (.cells a' el (0, 0)) := heap_new w _
  have ht : Turn none w (w.alloc (.cells a' el)) := Turn.alloc w _
  have hst : Stays (Exc X σ) (Exc X σ) w (w.alloc (.cells a' el)) := ⟨fun b _ hb => ht.heap b hb (by simp), fun b hb => .inl hb, ht.size⟩
  refine ⟨_, _, hrun, ht, ?_⟩
  simp only [LR, (den_at hm).1]
  have hfin : CVR (w.alloc (.cells a' el)) (Exc X σ) (.vs (((List.range len).map fun j => (cs.drop (j * sz)).take sz).map (·.map (cvOf ν)))) (.slice (some ⟨w.heap.size, 0, none⟩) (((List.range len).map fun j => (cs.drop (j * sz)).take sz).map (·.map (cvOf ν))).length len) := by
    refine .vs _ w.heap.size 0 sz len (fun i f => (a'.toList[i * sz + f]?).getD undef) hls (by rw [hlen]; exact Nat.le_refl _) (fun i el' hi f cv hf => ?_) (fun i el' hi f cv hf => ?_)
    · obtain ⟨r, h1, h2⟩ := hho i el' hi f cv hf
      refine ⟨fun hx => ?_, ?_⟩
      · rcases hx with hx | hx
        · exact Nat.lt_irrefl _ (hX _ hx)
        · exact Nat.lt_irrefl _ (hown _ hx)
      · rw [heap_cell hw, Nat.zero_add]
        have : a'.toList[i * sz + f]? = some r := h1
        rw [this]
        simpa using this
    · obtain ⟨r, h1, h2⟩ := hho i el' hi f cv hf
      have : a'.toList[i * sz + f]? = some r := h1
      simp only [this, Option.getD_some]
      exact h2.step hst
  rw [hlen] at hfin
  exact hfin

theorem s_allocA {T : Tab} (hT : TOK P T) {ρ : Operand → LV} {val : Operand → Value} {get : Nat → Option Ob} {fresh : Nat} {o : Oper} {e : TypeId} (ho : o.op = .alloc e) {out : Out} (h : opRun T ρ get fresh o.op = some out) :
    EffOK ν w X σ fresh out ((execOp val o).run P w) := by
  by_cases hnc : ∀ d f g, out.e ≠ .newc d f g
  · exact s_alloc hT ho h hnc
  have h' := h
  rw [ho] at h
  simp only [opRun] at h
  split at h
  · rename_i n el size by_ z eq hg
    split at h
    rotate_left
    · simp at h
    rename_i sz _ _ _ hge
    cases hb : (zeroCells z).all LV.shut && Nat.ble 1 sz && Nat.beq (n * sz) size && Nat.beq (zeroCells z).length size && Nat.ble n 1000
    · rw [hb] at h; simp at h
    rw [hb] at h
    simp only [cond_true, Option.some.injEq] at h
    subst h
    simp only [Bool.and_eq_true] at hb
    obtain ⟨⟨⟨⟨hshut, hpos⟩, hns⟩, hzl⟩, h1000⟩ := hb
    have h1000 := Nat.le_of_ble_eq_true h1000
    have hpos : 0 < sz := Nat.le_of_ble_eq_true hpos
    have hns := Nat.eq_of_beq_eq_true hns
    have hzl := Nat.eq_of_beq_eq_true hzl
    obtain ⟨_, ⟨i, hi, hisz, hiby, hiz⟩, _⟩ := hT.get hg
    simp only at hisz hiby hiz
    have hiz := hiz z rfl
    have hl := zero_LRs (ν := ν) (w := w) (X := X) (σ := σ) z
    have hla := LRs_len hl
    obtain ⟨hls, hho⟩ := holds_lit hl hshut n sz (by omega)
    intro mm hmm hpl
    simp only [denDC] at hmm
    have hlen : ((((List.range n).map fun j => ((zeroCells z).drop (j * sz)).take sz).map (·.map (cvOf ν)))).length = n := by simp
    have hrun : (execOp val o).run P w = .ok (.value (.pointer (some ⟨w.heap.size, 0, none⟩))) (w.alloc (.cells z.cells e)) := by
      simp [execOp, ho, Instr.alloc, run_zero hi hiz, newVar, newRow]
    refine row_new hpl (by simp) hmm (Turn.alloc w _) (heap_new w _) (hmx := by omega) hpos hls (cap := n) (rc := n) ?_ (by rw [hlen]; exact Nat.le_refl _) (Nat.le_refl _) ?_ hrun rfl (.inr ⟨rfl, rfl⟩)
    · have : z.cells.size = (zeroCells z).length := by simpa using hla.symm
      omega
    · intro j el' hj f cv hf
      obtain ⟨r, h1, h2⟩ := hho j el' hj f cv hf
      exact ⟨r, by rw [← h1]; simp, h2⟩
  · rename_i z _ _ hg
    simp only [Option.some.injEq] at h
    subst h
    exact absurd (fun d f g => by simp) hnc
  · simp at h

theorem s_makeSlice {T : Tab} (hT : TOK P T) {ρ : Operand → LV} {val : Operand → Value} {get : Nat → Option Ob} {fresh : Nat} {o : Oper} {t : TypeId} {l c : Operand} (ho : o.op = .makeSlice t l c) {out : Out} (h : opRun T ρ get fresh o.op = some out) (hn : denNs ν out.needs)
    (ll : LR ν w X σ (ρ l) (val l)) (lc : LR ν w X σ (ρ c) (val c)) : EffOK ν w X σ fresh out ((execOp val o).run P w) := by
  rw [ho] at h
  simp only [opRun] at h
  split at h
  rotate_left
  · simp at h
  rename_i el _ _ _ _ L C hg hL hC
  split at h
  rotate_left
  · simp at h
  rename_i desc sz by_ z eq hge
  cases hb : Nat.ble 1 sz && (zeroCells z).all LV.shut && Nat.beq (zeroCells z).length sz
  · rw [hb] at h; simp at h
  rw [hb] at h
  simp only [cond_true, Option.some.injEq] at h
  subst h
  simp only [Bool.and_eq_true] at hb
  obtain ⟨⟨hpos, hshut⟩, hzl⟩ := hb
  have hpos : 0 < sz := Nat.le_of_ble_eq_true hpos
  have hzl := Nat.eq_of_beq_eq_true hzl
  have hu := (hT.get hg).1
  obtain ⟨_, ⟨i, hi, hisz, hiby, hiz⟩, _⟩ := hT.get hge
  simp only at hisz hiby hiz hu
  have hiz := hiz z rfl
  obtain ⟨kl, hvl⟩ := intE_LR hL ll
  obtain ⟨kc, hvc⟩ := intE_LR hC lc
  have hcuts : denN ν (.cuts L L C) := hn _ (by simp)
  have hfits : denN ν (.fits C by_) := hn _ (by simp)
  simp only [denN] at hcuts hfits
  have hl := zero_LRs (ν := ν) (w := w) (X := X) (σ := σ) z
  have hla := LRs_len hl
  have hzs : z.cells.size = sz := by rw [← hzl]; simpa using hla.symm
  have hby : (i.bytes : Int) * denI ν C ≤ 281474976710656 := by
    rw [hiby, Int.mul_comm]
    omega
  have hrun := run_make (P := P) w t el i z hu hi hiz kl kc (denI ν L) (denI ν C) hcuts.1 hcuts.2.2 hby hfits.2.2
  intro mm hmm hpl
  simp only [denDC] at hmm
  have hlen : (List.replicate (denI ν L).toNat ((zeroCells z).map (cvOf ν))).length = (denI ν L).toNat := by simp
  have hrun' : (execOp val o).run P w = .ok (.value (.slice (some ⟨w.heap.size, 0, none⟩) (denI ν L).toNat (denI ν C).toNat)) (w.alloc (.cells (madeCells z.cells ((denI ν C).toNat * i.size)) el)) := by
    simp only [execOp, ho, hvl, hvc, Sem.run_bind, hrun, Result.andThen_ok, Sem.run_pure]
  refine row_new hpl (by simp) hmm (Turn.alloc w _) (heap_new w _) (hmx := by omega) hpos (fun el hel => ?_) (cap := (denI ν C).toNat) (rc := (denI ν C).toNat) (by rw [size_madeCells, hisz]) (by rw [hlen]; omega) (Nat.le_refl _) ?_ hrun' rfl (.inl ⟨by rw [hlen], rfl⟩)
  · rw [(List.mem_replicate.1 hel).2, List.length_map, hzl]
  · intro j el' hj f cv hf
    have hjl : j < (denI ν L).toNat := by
      have := (List.getElem?_eq_some_iff.1 hj).1
      simpa using this
    rw [List.getElem?_replicate_of_lt hjl] at hj
    simp only [Option.some.injEq] at hj
    subst hj
    have hfl : f < sz := by
      have := (List.getElem?_eq_some_iff.1 hf).1
      simp only [List.length_map] at this
      omega
    have h1 := (holds_lit hl hshut 1 sz (by omega)).2 0 ((zeroCells z).map (cvOf ν)) (by simp [← hzl]) f cv hf
    obtain ⟨r, g1, g2⟩ := h1
    refine ⟨r, ?_, g2⟩
    simp only [Nat.zero_mul, Nat.zero_add] at g1
    have hlt : j * sz + f < (denI ν C).toNat * sz := by
      have : (j + 1) * sz ≤ (denI ν C).toNat * sz := Nat.mul_le_mul_right _ (by omega)
      rw [Nat.add_mul] at this
      omega
    have hm : (j * sz + f) % sz = f := by rw [Nat.mul_comm, Nat.mul_add_mod, Nat.mod_eq_of_lt hfl]
    have hzf : f < z.cells.size := by omega
    have hr : z.cells[f] = r := by
      rw [Array.getElem?_toList, Array.getElem?_eq_getElem hzf] at g1
      simpa using g1
    simp only [madeCells, hisz, hzs]
    rw [Array.getElem?_map, Array.getElem?_range]
    simp only [hlt, if_true, Option.map_some, hm]
    simp [hzf, hr]

theorem bytes_holds (s : ByteArray) (c : Nat) : (∀ el ∈ byteCells s, el.length = 1) ∧ Holds w (Exc X σ) 1 (byteCells s) (fun i => (bytesRow s c)[i]?) := by
  refine ⟨fun el hel => ?_, fun i el hi f cv hf => ?_⟩
  · simp only [byteCells, List.mem_map] at hel
    obtain ⟨b, _, rfl⟩ := hel
    rfl
  · simp only [byteCells, List.getElem?_map, Option.map_eq_some_iff] at hi
    obtain ⟨b, hb, rfl⟩ := hi
    cases f with
    | zero =>
      simp only [List.getElem?_cons_zero, Option.some.injEq] at hf
      subst hf
      refine ⟨.int .u8 b.toNat, ?_, .v _ rfl⟩
      have hlt : i < s.data.size := by
        have := (List.getElem?_eq_some_iff.1 hb).1
        simpa using this
      simp only [Nat.mul_one, Nat.add_zero, bytesRow]
      rw [Array.getElem?_append_left (by simpa using hlt), Array.getElem?_map]
      rw [Array.getElem?_toList] at hb
      rw [hb]
      rfl
    | succ f => simp at hf

theorem s_toBytes {T : Tab} (hT : TOK P T) {ρ : Operand → LV} {val : Operand → Value} {get : Nat → Option Ob} {fresh : Nat} {o : Oper} {src dst : TypeId} {x : Operand} (ho : o.op = .convert src dst x) {out : Out} (h : opRun T ρ get fresh o.op = some out) (hne : out.e ≠ .no)
    (lx : LR ν w X σ (ρ x) (val x)) : EffOK ν w X σ fresh out ((execOp val o).run P w) := by
  rw [ho] at h
  simp only [opRun] at h
  split at h
  rotate_left
  · simp at h
  rename_i ts td hgs hgd
  have hd := (hT.get hgd).1
  split at h
  · simp only [Option.some.injEq] at h; subst h; exact absurd rfl hne
  · simp only [Option.some.injEq] at h; subst h; exact absurd rfl hne
  · rename_i el e hdesc hx
    rw [hdesc] at hd
    split at h
    rotate_left
    · simp at h
    rename_i by_ z eq hsd hge
    simp only [Option.some.injEq] at h
    subst h
    have he := (hT.get hge).1
    have hsrc := (hT.get hgs).1
    rw [hsd] at hsrc
    simp only at he
    rw [hx] at lx
    simp only [LR] at lx
    intro mm hmm hpl
    simp only [denDC] at hmm
    have hr := run_bytes_of_string (P := P) w src dst el (denS ν e) hsrc hd he
    obtain ⟨hls, hho⟩ := bytes_holds (w := w) (X := X) (σ := σ) (denS ν e) (grownCap w (denS ν e).size 0 el)
    have hbl : (byteCells (denS ν e)).length = (denS ν e).size := by
      unfold byteCells
      rw [List.length_map, Array.length_toList]
      rfl
    have hge' := grownCap_ge w (denS ν e).size 0 el
    have hsz : (bytesRow (denS ν e) (grownCap w (denS ν e).size 0 el)).size = grownCap w (denS ν e).size 0 el := by
      have h0 : (denS ν e).data.size = (denS ν e).size := rfl
      simp only [bytesRow, Array.size_append, Array.size_map, Array.size_replicate, h0]
      omega
    refine row_newF (fr := ((bytesRow (denS ν e) (grownCap w (denS ν e).size 0 el)).size, (bytesRow (denS ν e) (grownCap w (denS ν e).size 0 el)).size + 1)) hpl (by simp) hmm (turn_draw_alloc w _) ?_ (heap_new w.drew _) Nat.one_pos hls (cap := grownCap w (denS ν e).size 0 el) (rc := grownCap w (denS ν e).size 0 el) (by rw [hsz, Nat.mul_one]) (by rw [hbl]; exact hge') (Nat.le_refl _) hho
      (n := .value (.slice (some ⟨w.heap.size, 0, none⟩) (denS ν e).size (grownCap w (denS ν e).size 0 el))) ?_ rfl (.inl ⟨by rw [hbl], rfl⟩)
    · refine ⟨fun o' h1 h2 => ?_, fun h => absurd rfl h⟩
      simp only at h2
      omega
    · simp only [execOp, ho, lx, Sem.run_bind, hr, Result.andThen_ok, Sem.run_pure]
  · split at h
    · split at h
      · simp only [Option.some.injEq] at h; subst h; exact absurd rfl hne
      · simp at h
    · simp at h
  · simp at h

theorem s_storeA {T : Tab} (hT : TOK P T) {ρ : Operand → LV} {val : Operand → Value} {get : Nat → Option Ob} {fresh : Nat} {o : Oper} {t : TypeId} {a x : Operand} (ho : o.op = .store t a x) {out : Out} (h : opRun T ρ get fresh o.op = some out) (hn : denNs ν out.needs)
    (la : LR ν w X σ (ρ a) (val a)) (lx : LR ν w X σ (ρ x) (val x)) (hk : ∀ id, (ρ a).id? = some id → Known ν w X σ get id) :
    EffOK ν w X σ fresh out ((execOp val o).run P w) := by
  by_cases hnc : ∀ d i f g, out.e ≠ .updc d i f g
  · exact s_storeB hT ho h hnc la lx hk
  by_cases hrp : ∃ id ver i f, ρ a = .rp id ver i f
  · obtain ⟨id, ver, i, f, hrp⟩ := hrp
    exact s_storeR hT ho h hrp hn la lx hk
  rw [ho] at h
  simp only [opRun] at h
  split at h
  · rename_i ti id ver off hg hx
    rw [hx] at la hk
    split at h
    · have := cond_some h
      subst this
      exact absurd (fun d i f g => by simp) hnc
    · rename_i ver' c e sz hob
      split at h
      rotate_left
      · simp at h
      rename_i n ne hdesc
      cases hb : Nat.beq ver ver' && (ρ x).cells.all LV.shut && Nat.beq (ρ x).cells.length ti.size && Nat.beq (n * sz) ti.size && Nat.beq off 0 && Nat.ble n 1000
      · rw [hb] at h; simp at h
      rw [hb] at h
      simp only [cond_true, Option.some.injEq] at h
      subst h
      simp only [Bool.and_eq_true] at hb
      obtain ⟨⟨⟨⟨⟨hv, hshut⟩, hlen⟩, hns⟩, hoff⟩, _⟩ := hb
      have hlen := Nat.eq_of_beq_eq_true hlen
      have hns := Nat.eq_of_beq_eq_true hns
      obtain rfl := Nat.eq_of_beq_eq_true hoff
      have hone := shuts_one hshut
      have hle1 : denN ν (.le (.int n) (.clen c)) := hn _ (by simp)
      have hle2 : denN ν (.le (.clen c) (.int n)) := hn _ (by simp)
      simp only [denN, denI] at hle1 hle2
      obtain ⟨b, cap', pl, hpl, hver, hat, hva, hplsz, hpos, hcsz, hrow⟩ := ptr_live (ρ := .junk) la (hk id rfl) hob hv
      rcases hrow with ⟨hno, _⟩ | ⟨b2, cap, ar, fr, hat2, hh, hfr, hcap, hlen2, hcells⟩
      · rw [hat] at hno; simp at hno
      rw [hat] at hat2
      simp only [Option.some.injEq, Prod.mk.injEq] at hat2
      obtain ⟨rfl, rfl⟩ := hat2
      obtain ⟨hu, ⟨it, hi, hs, _, _⟩, _⟩ := hT.get hg
      have lxc := cells_LRs hone lx
      have l1 := LRs_len lxc
      simp only [Array.length_toList] at l1
      have hcn : (denC ν c).length = n := by omega
      have hfit : 0 + 0 + (val x).cells.toList.length ≤ ar.size := by
        have : n * sz ≤ cap' * sz := Nat.mul_le_mul_right _ (by omega)
        simp
        omega
      obtain ⟨w', hr, ht, hsz', hh'⟩ := store_run (P := P) 0 (val x).cells.toList 0 ar w hh hfr.1 hfit (ones_of hone lxc)
      have hst := stays_same (X := X) hpl hat ht
      intro mm hmm
      simp only [denDC] at hmm
      obtain ⟨e1, e2⟩ := den_at hmm
      obtain ⟨hls, hho⟩ := holds_lit lxc hshut n sz (by omega)
      refine ⟨.skip, undef, w', pl, pl, ?_, .inr ⟨rfl, rfl⟩, hpl, hver, .inl rfl, .inl ⟨b, cap', cap', hat, hat, ht⟩, ?_, ?_⟩
      · have hne : ¬ (val x).cells.size ≠ it.size := by rw [hs]; omega
        simp only [execOp, ho, Sem.run_bind, hva, Instr.storeAt, Instr.sureAddr, Sem.run_pure, Result.andThen_ok, storeVar, run_size hi, hne, if_false, hr]
      · simp only [LR]
        exact ⟨#[], rfl, by simp [LRs]⟩
      · rw [set_self hpl]
        refine ⟨hplsz, hpos, by rw [e1]; exact hls, .inr ⟨b, cap', putV ar 0 (val x).cells.toList 0, fr, hat, hh', by rw [putV_size]; exact hfr, by rw [putV_size]; exact hcap, by rw [e1]; simp; omega, fun j el hj g cv hg => ?_⟩⟩
        rw [e1] at hj
        obtain ⟨r, g1, g2⟩ := hho j el hj g cv hg
        have hput := putV_get 0 (val x).cells.toList 0 ar hfit (j * sz + g)
        have hlt := (List.getElem?_eq_some_iff.1 g1).1
        rw [if_pos (by omega)] at hput
        exact ⟨r, by rw [hput]; exact g1, g2.step hst⟩
    · simp at h
  · rename_i id ver i f hg hx
    exact absurd ⟨_, _, _, _, hx⟩ hrp
  · simp at h
end
end Go.Proofs.Ytdgjcdhomfhfpaa
