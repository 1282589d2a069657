/- A symbolic run of Go code, eleventh part: conversions, lengths, structs; all operations that leave memory alone. No condition. -/
import Derived.Test.YtdgjcdhomfhfpaaAb10
namespace Go.Proofs.Ytdgjcdhomfhfpaa
open Go.RowKit
set_option linter.unusedSimpArgs false
set_option linter.unusedVariables false
section
variable {P : Program} {ν : Nu} {w : World} {X : Nat → Prop} {σ : List Pl}

theorem den_take' (ν : Nu) (c n : E) : denC ν (mkTake c n) = (denC ν c).take (denI ν n).toNat := by
  unfold mkTake
  cases h : isClen c n
  · simp [denC]
  · simp only [cond_true]
    unfold isClen at h
    split at h
    · rename_i a b
      obtain rfl := Nat.eq_of_beq_eq_true h
      simp [denI, denC]
    · simp at h
theorem isZero_den {o : E} (h : isZero o = true) : denI ν o = 0 := by
  unfold isZero at h
  split at h
  · simp [denI]
  · simp at h
theorem isClen_den {c n : E} (h : isClen c n = true) : denI ν n = ((denC ν c).length : Nat) := by
  unfold isClen at h
  split at h
  · rename_i a b
    obtain rfl := Nat.eq_of_beq_eq_true h
    simp [denI, denC]
  · simp at h

/-- A slice of one's own reads as its content. -/
theorem content_CVR {get : Nat → Option Ob} {v : LV} {c : E} {ns : List Need} (h : contentOf get v = some (c, ns)) {r : Value} (lx : LR ν w X σ v r) (hk : ∀ id, v.id? = some id → Known ν w X σ get id) (hn : denNs ν ns) :
    ∃ (a : Option Addr) (len rc : Nat), r = .slice a len rc ∧ len = (denC ν c).length ∧ len ≤ rc ∧
      ((len = 0 ∧ rc = 0) ∨ ∃ (b o sz : Nat) (g : Nat → Nat → Value), a = some ⟨b, o, none⟩ ∧ ((∃ c', v = .vs c') ∨ ∃ (id : Nat) (p : Pl) (c' : Nat), v.id? = some id ∧ σ[id]? = some p ∧ p.at_ = some (b, c')) ∧ (∀ el ∈ denC ν c, el.length = sz) ∧
        (∀ (i : Nat) (el : List CV), (denC ν c)[i]? = some el → ∀ (f : Nat) (cv : CV), el[f]? = some cv → w.cell? ⟨b, o + i * sz + f, none⟩ = some (g i f) ∧ CVR w (Exc X σ) cv (g i f))) := by
  unfold contentOf at h
  split at h
  · rename_i c'
    simp only [Option.some.injEq, Prod.mk.injEq] at h
    obtain ⟨rfl, rfl⟩ := h
    simp only [LR] at lx
    rcases CVR_inv lx with ⟨hnil, ad, rfl⟩ | ⟨b, o, sz, cap, g, rfl, hsz, hcc, hcell, hval⟩
    · exact ⟨ad, 0, 0, rfl, by rw [hnil]; rfl, by omega, .inl ⟨rfl, rfl⟩⟩
    · exact ⟨_, _, _, rfl, rfl, hcc, .inr ⟨b, o, sz, g, rfl, .inl ⟨_, rfl⟩, hsz, fun i el hi f cv hf => ⟨(hcell i el hi f cv hf).2, hval i el hi f cv hf⟩⟩⟩
  · rename_i id ver o n
    split at h
    rotate_left
    · simp at h
    rename_i ver' c' e' sz hob
    cases hb : Nat.beq ver ver'
    · rw [hb] at h; simp at h
    rw [hb] at h
    simp only [cond_true] at h
    obtain ⟨a, len, rc, pl, hpl, hver, rfl, hrs, hsz, hpos, hels, hrow⟩ := rs_live lx (hk id rfl) hob hb
    have hc : denC ν c = ((denC ν c').drop (denI ν o).toNat).take (denI ν n).toNat ∧ ((denI ν n).toNat ≤ (denC ν c').length - (denI ν o).toNat ∨ denI ν o + denI ν n ≤ (denC ν c').length) := by
      cases hz : isZero o && isClen c' n
      · rw [hz] at h
        simp only [cond_false, Option.some.injEq, Prod.mk.injEq] at h
        obtain ⟨rfl, rfl⟩ := h
        refine ⟨by rw [den_take', den_drop0], .inr ?_⟩
        have := hn (.le (mkAdd0 o n) (.clen c')) (by simp)
        simpa only [denN, den_add0, denI] using this
      · rw [hz] at h
        simp only [cond_true, Option.some.injEq, Prod.mk.injEq] at h
        obtain ⟨rfl, rfl⟩ := h
        simp only [Bool.and_eq_true] at hz
        have h1 := isZero_den (ν := ν) hz.1
        have h2 := isClen_den (ν := ν) hz.2
        exact ⟨by rw [h1, h2]; simp, .inl (by omega)⟩
    obtain ⟨hc, hle⟩ := hc
    rcases hrs with ⟨hat, rfl, rfl, rfl, hn0, ho0⟩ | ⟨b, cc, off, hat, rfl, hn0, ho0, rfl, hlr, hz, hoff⟩
    · exact ⟨none, 0, 0, rfl, by rw [hc, hn0]; simp, by omega, .inl ⟨rfl, rfl⟩⟩
    · refine ⟨_, _, _, rfl, ?_, hlr, .inr ⟨b, off, sz, ?_⟩⟩
      · rw [hc]; simp; omega
      · rcases hrow with ⟨hno, _⟩ | ⟨b2, cap, a2, fr, hat2, hh, hfr, hcap, hlen2, hcells⟩
        · rw [hat] at hno; simp at hno
        rw [hat] at hat2
        simp only [Option.some.injEq, Prod.mk.injEq] at hat2
        obtain ⟨rfl, rfl⟩ := hat2
        refine ⟨fun i f => (a2[((denI ν o).toNat + i) * sz + f]?).getD undef, rfl, .inr ⟨id, pl, _, rfl, hpl, hat⟩, fun el hel => ?_, fun i el hi f cv hf => ?_⟩
        · rw [hc] at hel
          exact hels el (List.mem_of_mem_drop (List.mem_of_mem_take hel))
        · rw [hc] at hi
          have hin : i < (denI ν n).toNat := by
            have := (List.getElem?_eq_some_iff.1 hi).1
            simp at this
            omega
          rw [List.getElem?_take_of_lt hin, List.getElem?_drop] at hi
          obtain ⟨r, hr, hv⟩ := hcells _ el hi f cv hf
          have hof := hoff (by omega)
          have he : off + i * sz + f = ((denI ν o).toNat + i) * sz + f := by rw [hof, hsz, Nat.add_mul]
          simp only [heap_cell hh, he, hr, Option.getD_some]
          exact ⟨trivial, hv⟩
  · simp at h

theorem s_bytes {T : Tab} (hT : TOK P T) {c : E} {src dst e : TypeId} (hs : P.underlying src = some (.slice e)) (he : P.underlying e = some (.int .u8)) (hd : P.underlying dst = some .string) {get : Nat → Option Ob} {v : LV} {ns : List Need}
    (h : contentOf get v = some (c, ns)) {r : Value} (lx : LR ν w X σ v r) (hk : ∀ id, v.id? = some id → Known ν w X σ get id) (hn : denNs ν ns) (hb : denN ν (.bytesC c)) :
    (convert src dst r).run P w = .ok (.string (denS ν (.sOf c))) w := by
  obtain ⟨a, len, rc, rfl, hlen, hle, hcase⟩ := content_CVR h lx hk hn
  simp only [denN] at hb
  rcases hcase with ⟨rfl, rfl⟩ | ⟨b, o, sz, g, rfl, _, hsz, hcell⟩
  · have h0 : denC ν c = [] := List.length_eq_zero_iff.1 hlen.symm
    rw [run_convert_bytes_string w src dst e a 0 0 hs he hd]
    cases a <;> simp [Conv.bytesToString, loadCells, loadCellsFrom, denS, h0] <;> rfl
  · have hl := run_loadCells_list (P := P) w ⟨b, o, none⟩ (((denC ν c).map fun el => (el.getD 0 default).int).map (Value.int .u8)) (fun j v hj => by
      rw [List.map_map, List.getElem?_map] at hj
      cases hi : (denC ν c)[j]? with
      | none => rw [hi] at hj; simp at hj
      | some el =>
        rw [hi] at hj
        simp only [Option.map_some, Function.comp_apply, Option.some.injEq] at hj
        obtain ⟨z, rfl⟩ := hb _ (List.mem_of_getElem? hi)
        have h1 := hsz _ (List.mem_of_getElem? hi)
        simp only [List.length_cons, List.length_nil] at h1
        obtain ⟨h2, h3⟩ := hcell j _ hi 0 _ rfl
        have h4 : ∀ r, CVR w (Exc X σ) (.v (.int .u8 z)) r → r = .int .u8 z := by
          intro r hr
          cases hr
          rfl
        have h4 := h4 _ h3
        rw [Addr.add_lit, ← hj]
        rw [← h1, h4] at h2
        simpa [CV.int] using h2)
    simp only [List.length_map] at hl
    rw [run_convert_bytes_string w src dst e _ len rc hs he hd, hlen, run_bytesToString w ⟨b, o, none⟩ _ rc _ hl]
    have fp : ∀ (l : List Int) (acc : ByteArray), l.foldl (fun r n => r.push (UInt8.ofNat n.toNat)) acc = ⟨acc.data ++ (l.map fun n => UInt8.ofNat n.toNat).toArray⟩ := by
      intro l
      induction l with
      | nil => intro acc; simp
      | cons n l ih =>
        intro acc
        rw [List.foldl_cons, ih]
        have : (acc.push (UInt8.ofNat n.toNat)).data = acc.data.push (UInt8.ofNat n.toNat) := rfl
        rw [this]
        congr 1
        apply Array.toList_inj.1
        simp
    rw [fp]
    have he0 : ByteArray.empty.data = #[] := rfl
    simp [denS, he0, List.map_map, Function.comp_def]
end
end Go.Proofs.Ytdgjcdhomfhfpaa
