/- A symbolic run of Go code: append. No condition. -/
import Derived.Test.YtdgjcdhomfhfpaaAbE
namespace Go.Proofs.Ytdgjcdhomfhfpaa
open Go.RowKit
set_option linter.unusedSimpArgs false
set_option linter.unusedVariables false
section
variable {P : Program} {ν : Nu} {w : World} {X : Nat → Prop} {σ : List Pl}

theorem turn_draw_alloc (w : World) (o : Obj) : Turn none w (w.drew.alloc o) := (Turn.drew w).trans (Turn.alloc w.drew o)
theorem toNat_len {a : Int} {n : Nat} (h : a = (n : Int)) : a.toNat = n := by omega

/-- append, where there is no room -/
theorem append_new {t xt ty e : TypeId} {i : TypeInfo} {d : TypeDesc} {z : Value} (ht : P.underlying t = some (.slice e)) (hx : P.underlying xt = some d) (hd : sliceOrStr d = true) (hi : P.info? e = some i) (hz : i.zero = some z) {sz by_ : Nat} (hisz : i.size = sz) (hby : i.bytes = by_) (hzs : z.cells.size = sz) (hpos : 0 < sz)
    {base : Option Addr} {len rc : Nat} {x : Value} {olds news : List Value} {as_ bs : List (List CV)} (hla : as_.length = len) (hsa : ∀ el ∈ as_, el.length = sz) (hsb : ∀ el ∈ bs, el.length = sz)
    (hlo : olds.length = len * sz) (hln : news.length = bs.length * sz) (hfo : (Builtin.firstCells sz len (.slice base len rc)).run P w.drew = .ok olds.toArray w.drew)
    (hrun : ∀ w' : World, w'.heap = w.heap → (Builtin.lenOf x).run P w' = .ok bs.length w' ∧ (Builtin.firstCells sz bs.length x).run P w' = .ok news.toArray w')
    (hg : rc < len + bs.length) (h63 : ((len + bs.length : Nat) : Int) ≤ 9223372036854775807) (hfit : ((len + bs.length : Nat) : Int) * (by_ : Int) ≤ 140737488355328)
    (ha : Holds w (Exc X σ) sz as_ (fun i => olds[i]?)) (hb : Holds w (Exc X σ) sz bs (fun i => news[i]?))
    {m id ver' : Nat} {pl : Pl} (hpl : σ[id]? = some pl) (hv : pl.ver < ver') (hm : Nu.at ν m = .l (as_ ++ bs)) :
    EffU ν w X σ id ⟨ver', .row (.var m) e sz⟩ (.rs id ver' (.int 0) (.clen (.var m))) (((Builtin.append_ #[t, xt] ty #[.slice base len rc, x]).run P w).andThen fun v w' => .ok (.value v) w') := by
  subst hisz hby
  have hfit' : (len + bs.length) * i.bytes ≤ 140737488355328 := by rw [← Int.natCast_mul] at hfit; omega
  have hr := append_grow (ty := ty) ht hx hd hi hz (hrun w rfl).1 hfo (hrun w.drew rfl).2 hg h63 (growslice_fits hg hfit')
  have hge := grownCap_ge w (len + bs.length) rc e
  refine row_new (rc := grownCap w (len + bs.length) rc e) (r := .slice (some ⟨w.heap.size, 0, none⟩) (len + bs.length) (grownCap w (len + bs.length) rc e)) hpl hv hm (turn_draw_alloc w _) (heap_new w.drew _) (hmx := by have := grownCap_le_maxLen w (len + bs.length) rc e (by unfold maxLen; omega); unfold maxLen at this; omega) hpos (fun el hel => ?_) (cap := grownCap w (len + bs.length) rc e) ?_ ?_ (Nat.le_refl _) ?_ (by rw [hr]; rfl) rfl (.inl ⟨?_, rfl⟩)
  · rcases List.mem_append.1 hel with h | h
    · exact hsa el h
    · exact hsb el h
  · simp only [Array.size_append, List.size_toArray, size_zeroCells, hzs, hlo, hln, ← Nat.add_mul]
    congr 1
    omega
  · rw [List.length_append, hla]; exact hge
  · have := holds_append hsa hsb (by rw [hla]; exact hlo) ha hb (Builtin.zeroCells z.cells (grownCap w (len + bs.length) rc e - (len + bs.length))).toList
    intro i el hi f cv hf
    obtain ⟨r, h1, h2⟩ := this i el hi f cv hf
    refine ⟨r, ?_, h2⟩
    rw [← h1]
    simp only [← Array.getElem?_toList, Array.toList_append]
  · rw [List.length_append, hla]

theorem s_append {T : Tab} (hT : TOK P T) {ρ : Operand → LV} {val : Operand → Value} {get : Nat → Option Ob} {fresh : Nat} {o : Oper} {args : Array Operand} {tys : Array TypeId} (ho : o.op = .call ⟨.builtin .append, args, tys⟩) {out : Out} (h : opRun T ρ get fresh o.op = some out) (hn : denNs ν out.needs)
    (hρ : ∀ x ∈ args.toList, LR ν w X σ (ρ x) (val x)) (hk : ∀ x ∈ args.toList, ∀ id, (ρ x).id? = some id → Known ν w X σ get id) : EffOK ν w X σ fresh out ((execOp val o).run P w) := by
  obtain ⟨dst, op, type, pos, after, guard⟩ := o
  simp only at ho
  subst ho
  simp only [opRun] at h
  split at h
  · rename_i hb _ _; simp at hb
  · rename_i s x st xt hb hargs htys
    obtain rfl : args = #[s, x] := by
      apply Array.toList_inj.1; exact hargs
    obtain rfl : tys = #[st, xt] := by
      apply Array.toList_inj.1; exact htys
    have hrun : (execOp val ⟨dst, .call ⟨.builtin .append, #[s, x], #[st, xt]⟩, type, pos, after, guard⟩).run P w = ((Builtin.append_ #[st, xt] type #[val s, val x]).run P w).andThen fun v w' => .ok (.value v) w' := by
      simp [execOp, resolve, invoke, builtin]
    rw [hrun]
    have ls := hρ s (by simp)
    have lx := hρ x (by simp)
    have ks := hk s (by simp)
    have kx := hk x (by simp)
    split at h
    rotate_left
    · simp at h
    rename_i el tx hel hxt
    split at h
    rotate_left
    · simp at h
    rename_i desc sz by_ z eq hge
    cases hb1 : sliceOrStr tx.desc && Nat.ble 1 sz && Nat.beq z.cells.size sz
    · rw [hb1] at h; simp at h
    rw [hb1] at h
    simp only [cond_true] at h
    simp only [Bool.and_eq_true] at hb1
    obtain ⟨⟨hstr, hpos⟩, hzs⟩ := hb1
    have hpos : 0 < sz := Nat.le_of_ble_eq_true hpos
    have hzs := Nat.eq_of_beq_eq_true hzs
    have hxu := (hT.get hxt).1
    obtain ⟨_, ⟨i, hi, hisz, hiby, hiz⟩, _⟩ := hT.get hge
    simp only at hisz hiby hiz
    have hiz := hiz z rfl
    have hst : P.underlying st = some (.slice el) := by
      unfold elemT at hel
      split at hel
      · rename_i hg'
        simp only [Option.some.injEq] at hel
        subst hel
        exact (hT.get hg').1
      · simp at hel
    split at h
    · -- onto a row
      rename_i id ver n hs
      rw [hs] at ls ks
      split at h
      rotate_left
      · simp at h
      rename_i ver' c el' sz' hob
      cases hb2 : Nat.beq ver ver' && Nat.beq el el' && Nat.beq sz sz'
      · rw [hb2] at h; simp at h
      rw [hb2] at h
      simp only [cond_true] at h
      simp only [Bool.and_eq_true] at hb2
      obtain ⟨⟨hbv, hbe⟩, hbs⟩ := hb2
      obtain rfl := Nat.eq_of_beq_eq_true hbe
      obtain rfl := Nat.eq_of_beq_eq_true hbs
      split at h
      rotate_left
      · simp at h
      rename_i d m ns hbh
      simp only [Option.some.injEq] at h
      subst h
      simp only at hn
      obtain ⟨els, news, hd, hm, hels, hnl, hone, hho, hrunx⟩ := behind_ok hbh hpos lx kx (fun p hp => hn p (by simp [hp]))
      have hfits : denN ν (.fits (mkAdd n m) by_) := hn _ (by simp)
      obtain ⟨a, len, rc, pl, hpl, hver, hvs, hrs, hplsz, _, hcsz, hrow⟩ := rs_live ls (ks id rfl) hob hbv
      have hnlen : denI ν n = (len : Int) ∧ len ≤ rc := by
        rcases hrs with ⟨_, _, h1, h3, h2, _⟩ | ⟨b, cc, off, _, _, hn0, _, hl, hl2, _⟩ <;> omega
      have hlc : len ≤ (denC ν c).length := by
        cases hcl : isClen c n
        · have : denN ν (.le n (.clen c)) := hn _ (by simp [hcl])
          simp only [denN, denI] at this
          omega
        · have := isClen_den (ν := ν) hcl
          omega
      rw [den_take', toNat_len hnlen.1] at hd
      have hadd : denI ν (mkAdd n m) = ((len + els.length : Nat) : Int) := by
        unfold mkAdd
        rw [den_bin ν (· + ·) .add (fun _ _ => rfl), hnlen.1, hm]
        omega
      simp only [denN, hadd] at hfits
      obtain ⟨_, hf1, hf2⟩ := hfits
      have hlen' : (denDC ν d).length = len + els.length := by rw [hd]; simp; omega
      have hall' : ∀ el ∈ denDC ν d, el.length = sz := fun el hel => by
        rw [hd] at hel
        rcases List.mem_append.1 hel with hel | hel
        · exact hcsz el (List.mem_of_mem_take hel)
        · exact hels el hel
      intro mm hmm
      have hvv : pl.ver < ver + 1 := by have h2 := Nat.eq_of_beq_eq_true hbv; have h3 : pl.ver = ver' := hver; have h4 : ver = ver' := h2; omega
      rw [hvs]
      rw [hd] at hmm
      -- the elements that are there
      have oldc : ∀ (b cap : Nat) (ar : Array Value) (fr : Nat × Nat), w.heap[b]? = some (.cells ar el fr) → (∀ (i : Nat) (e : List CV), (denC ν c)[i]? = some e → ∀ (f : Nat) (cv : CV), e[f]? = some cv → ∃ r, ar[i * sz + f]? = some r ∧ CVR w (Exc X σ) cv r) →
          ∃ olds : List Value, olds.length = len * sz ∧ (∀ j v, olds[j]? = some v → w.cell? ⟨b, j, none⟩ = some v) ∧ Holds w (Exc X σ) sz ((denC ν c).take len) (fun i => olds[i]?) := fun b cap ar fr hh hc => by
        obtain ⟨olds, o1, o2, _, o4⟩ := cells_of (w := w) (b := b) (o := 0) (g := fun i f => (ar[i * sz + f]?).getD undef) (Y := Exc X σ) (els := (denC ν c).take len) (fun e he => hcsz e (List.mem_of_mem_take he)) hpos (fun i e he f cv hf => by
          have hi : i < len := by
            have := (List.getElem?_eq_some_iff.1 he).1
            simp at this
            omega
          rw [List.getElem?_take_of_lt hi] at he
          obtain ⟨r, h1, h2⟩ := hc i e he f cv hf
          rw [heap_cell hh, Nat.zero_add, h1]
          exact ⟨rfl, h2⟩)
        refine ⟨olds, by rw [o1, List.length_take, Nat.min_eq_left hlc], fun j v hj => by have := o2 j v hj; rw [Nat.zero_add] at this; exact this, o4⟩
      have htl : ((denC ν c).take len).length = len := by rw [List.length_take, Nat.min_eq_left hlc]
      have hts : ∀ e ∈ (denC ν c).take len, e.length = sz := fun e he => hcsz e (List.mem_of_mem_take he)
      rcases hrs with ⟨hat, rfl, rfl, rfl, _, _⟩ | ⟨b, cap, off, hat, rfl, _, _, hlr, _, hz0, _⟩
      · by_cases he : els.length = 0
        · obtain rfl := List.length_eq_zero_iff.1 he
          have h1 := append_nothing (ty := type) hst hxu hstr hi (by have := (hrunx w rfl).1; rwa [he] at this) (by have := (hrunx w rfl).2; rw [he] at this; rw [hisz]; exact this)
          exact row_nil hpl hvv (by simpa using hmm) hpos (by rw [h1]; rfl)
        · exact append_new hst hxu hstr hi hiz hisz hiby hzs hpos htl hts hels (olds := []) (by simp) hnl (by simp [Builtin.firstCells]) hrunx (by omega) (by omega) hf1 (fun i e he => by simp at he) hho hpl hvv hmm
      · have hoff : off = 0 ∧ rc ≤ cap := hz0 (by simp [denI])
        obtain ⟨rfl, hrcc⟩ := hoff
        rcases hrow with ⟨hno, _⟩ | ⟨b2, cap2, ar, fr, hat2, hh, hfr, hcap, hlen2, hcells⟩
        · rw [hat] at hno; simp at hno
        rw [hat] at hat2
        simp only [Option.some.injEq, Prod.mk.injEq] at hat2
        obtain ⟨rfl, rfl⟩ := hat2
        obtain ⟨olds, o1, o2, o3⟩ := oldc b cap ar fr hh hcells
        by_cases hroom : len + els.length ≤ rc
        · -- in place
          have hfit : len * sz + 0 + news.length ≤ ar.size := by
            refine Nat.le_trans ?_ hcap
            rw [hnl, Nat.add_zero, ← Nat.add_mul]
            exact Nat.mul_le_mul_right _ (by omega)
          obtain ⟨w', hr, ht, hsz', hh'⟩ := store_run (P := P) (len * sz) news 0 ar w hh hfr.1 hfit hone
          have h1 := append_room (ty := type) hst hxu hstr hi (b := b) (sLen := len) (sCap := rc) (hrunx w rfl).1 (by rw [hisz]; exact (hrunx w rfl).2) hroom (by rw [hisz]; simpa using hr)
          have hmv : Moved w w' pl ⟨ver + 1, some (b, cap), sz⟩ := .inl ⟨b, cap, cap, hat, rfl, ht⟩
          have hself : (σ.set id ⟨ver + 1, some (b, cap), sz⟩)[id]? = some ⟨ver + 1, some (b, cap), sz⟩ := List.getElem?_set_self (List.getElem?_eq_some_iff.1 hpl).1
          have hst' := stays_set (X := X) hpl hmv
          obtain ⟨e1, e2⟩ := den_at hmm
          have hln : (List.take len (denC ν c) ++ els).length = len + els.length := by rw [List.length_append, htl]
          refine ⟨_, .slice (some ⟨b, 0, none⟩) (len + els.length) rc, w', pl, ⟨ver + 1, some (b, cap), sz⟩, by rw [h1]; rfl, .inl rfl, hpl, rfl, .inr hvv, hmv, ?_, ?_⟩
          · simp only [LR]
            exact ⟨_, _, _, _, rfl, hself, Nat.le_refl _, fun _ => .inr ⟨b, cap, 0, rfl, rfl, by rw [e2]; omega, by simp [denI], by rw [e2, hln]; exact (Int.toNat_natCast _).symm, hroom, fun _ => ⟨rfl, hrcc⟩, fun _ => by simp [denI]⟩⟩
          · refine ⟨rfl, hpos, by rw [e1, ← hd]; exact hall', .inr ⟨b, cap, putV ar (len * sz) news 0, fr, rfl, hh', by rw [putV_size]; exact hfr, by rw [putV_size]; exact hcap, by rw [e1, hln]; omega, fun i e hi' f cv hf => ?_⟩⟩
            rw [e1] at hi'
            have hfl : f < sz := by
              have : e.length = sz := hall' e (by rw [hd]; exact List.mem_of_getElem? hi')
              rw [← this]
              exact (List.getElem?_eq_some_iff.1 hf).1
            have hput := putV_get (len * sz) news 0 ar hfit (i * sz + f)
            rw [Nat.add_zero] at hput
            by_cases hil : i < len
            · have hlt : i * sz + f < len * sz := by
                have : (i + 1) * sz ≤ len * sz := Nat.mul_le_mul_right _ hil
                rw [Nat.add_mul] at this
                omega
              rw [if_neg (by omega)] at hput
              rw [List.getElem?_append_left (by rw [htl]; exact hil), List.getElem?_take_of_lt hil] at hi'
              obtain ⟨r, g1, g2⟩ := hcells i e hi' f cv hf
              exact ⟨r, by rw [hput]; exact g1, g2.step hst'⟩
            · rw [List.getElem?_append_right (by rw [htl]; omega), htl] at hi'
              obtain ⟨r, g1, g2⟩ := hho _ e hi' f cv hf
              have hn : (i - len) * sz + f < news.length := (List.getElem?_eq_some_iff.1 g1).1
              have e3 : i * sz + f = len * sz + ((i - len) * sz + f) := by
                rw [← Nat.add_assoc, ← Nat.add_mul]
                congr 2
                omega
              refine ⟨r, ?_, g2.step hst'⟩
              rw [hput, if_pos (by omega), e3, Nat.add_sub_cancel_left]
              exact g1
        · refine append_new hst hxu hstr hi hiz hisz hiby hzs hpos htl hts hels (olds := olds) o1 hnl ?_ hrunx (by omega) (by omega) hf1 o3 hho hpl hvv hmm
          refine run_firstCells_some (P := P) w.drew sz len ⟨b, 0, none⟩ len rc olds o1 fun j v hj => ?_
          rw [Addr.add_lit, Nat.zero_add]
          exact o2 j v hj
    · -- onto nothing
      rename_i hs
      rw [hs] at ls
      simp only [LR] at ls
      split at h
      rotate_left
      · simp at h
      rename_i d m ns hbh
      simp only [Option.some.injEq] at h
      subst h
      simp only at hn
      obtain ⟨els, news, hd, hm, hels, hnl, hone, hho, hrunx⟩ := behind_ok hbh hpos lx kx (fun p hp => hn p (by simp [hp]))
      have hfits : denN ν (.fits m by_) := hn _ (by simp)
      simp only [denN, hm] at hfits
      obtain ⟨_, hf1, hf2⟩ := hfits
      have hd : denDC ν d = [] ++ els := by rw [hd]; simp [denC]
      intro mm hmm hpl
      rw [hd] at hmm
      rw [ls]
      by_cases he : els.length = 0
      · obtain rfl := List.length_eq_zero_iff.1 he
        have h1 := append_nothing (ty := type) hst hxu hstr hi (by have := (hrunx w rfl).1; rwa [he] at this) (by have := (hrunx w rfl).2; rw [he] at this; rw [hisz]; exact this)
        exact row_nil hpl (by simp) (by simpa using hmm) hpos (by rw [h1]; rfl)
      · exact append_new hst hxu hstr hi hiz hisz hiby hzs hpos (as_ := []) rfl (by simp) hels (olds := []) (by simp) hnl (by simp [Builtin.firstCells]) hrunx (by omega) (by show ((0 + els.length : Nat) : Int) ≤ _; rw [Nat.zero_add]; exact hf2) (by show ((0 + els.length : Nat) : Int) * _ ≤ _; rw [Nat.zero_add]; exact hf1) (fun i e he => by simp at he) hho hpl (by simp) hmm
    · simp at h
  all_goals first
    | (simp at h; done)
    | (rename_i hb; cases hb; done)
    | (rename_i hb _; cases hb; done)
    | (rename_i hb _ _; cases hb; done)
end
end Go.Proofs.Ytdgjcdhomfhfpaa
