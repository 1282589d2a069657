/- A symbolic run of Go code: rows are made, grow, are written. No condition. -/
import Derived.Test.YtdgjcdhomfhfpaaAb13
import Derived.Laws.AppendOwn
namespace Go.Proofs.Ytdgjcdhomfhfpaa
open Go.RowKit
set_option linter.unusedSimpArgs false
set_option linter.unusedVariables false
section
variable {P : Program} {ν : Nu} {w : World} {X : Nat → Prop} {σ : List Pl}

theorem not_int {d : TypeDesc} (h : sliceOrStr d = true) (k : IntKind) : d ≠ .int k := fun e => by
  subst e
  simp [sliceOrStr] at h
theorem append_room {t xt ty e : TypeId} {i : TypeInfo} {d : TypeDesc} (ht : P.underlying t = some (.slice e)) (hx : P.underlying xt = some d) (hd : sliceOrStr d = true) (hi : P.info? e = some i) {b sLen sCap : Nat} {x : Value} {m : Nat} {news : Array Value}
    (hl : (Builtin.lenOf x).run P w = .ok m w) (hf : (Builtin.firstCells i.size m x).run P w = .ok news w) (hroom : sLen + m ≤ sCap) {w' : World} (hst : (storeCells ⟨b, sLen * i.size, none⟩ news.toList 0).run P w = .ok () w') :
    (Builtin.append_ #[t, xt] ty #[.slice (some ⟨b, 0, none⟩) sLen sCap, x]).run P w = .ok (.slice (some ⟨b, 0, none⟩) (sLen + m) sCap) w' := by
  cases d <;> simp [sliceOrStr] at hd
  all_goals simp [Builtin.append_, run_underlying ht, run_underlying hx, sizeOf, typeInfo, hi, hl, hroom, hf, Addr.add_lit, hst]
theorem append_nothing {t xt ty e : TypeId} {i : TypeInfo} {d : TypeDesc} (ht : P.underlying t = some (.slice e)) (hx : P.underlying xt = some d) (hd : sliceOrStr d = true) (hi : P.info? e = some i) {x : Value} {news : Array Value}
    (hl : (Builtin.lenOf x).run P w = .ok 0 w) (hf : (Builtin.firstCells i.size 0 x).run P w = .ok news w) :
    (Builtin.append_ #[t, xt] ty #[.slice none 0 0, x]).run P w = .ok (.slice none 0 0) w := by
  cases d <;> simp [sliceOrStr] at hd
  all_goals simp [Builtin.append_, run_underlying ht, run_underlying hx, sizeOf, typeInfo, hi, hl, hf]
theorem append_grow {t xt ty e : TypeId} {i : TypeInfo} {d : TypeDesc} {z : Value} (ht : P.underlying t = some (.slice e)) (hx : P.underlying xt = some d) (hd : sliceOrStr d = true) (hi : P.info? e = some i) (hz : i.zero = some z) {base : Option Addr} {sLen sCap : Nat} {x : Value} {m : Nat} {olds news : Array Value}
    (hl : (Builtin.lenOf x).run P w = .ok m w) (hfo : (Builtin.firstCells i.size sLen (.slice base sLen sCap)).run P w.drew = .ok olds w.drew) (hf : (Builtin.firstCells i.size m x).run P w.drew = .ok news w.drew) (hg : sCap < sLen + m)
    (h63 : ((sLen + m : Nat) : Int) ≤ 9223372036854775807) (hfit : Builtin.nextslicecap (sLen + m) sCap * i.bytes ≤ 281474976710656) :
    (Builtin.append_ #[t, xt] ty #[.slice base sLen sCap, x]).run P w = .ok (.slice (some ⟨w.heap.size, 0, none⟩) (sLen + m) (grownCap w (sLen + m) sCap e))
      (w.drew.alloc (.cells (olds ++ news ++ Builtin.zeroCells z.cells (grownCap w (sLen + m) sCap e - (sLen + m))) e)) := by
  have hn : ¬ (sLen + m ≤ sCap) := by omega
  have h63' : ¬ (9223372036854775807 < ((sLen : Int) + (m : Int))) := by omega
  have h48' : ¬ (281474976710656 < Builtin.nextslicecap (sLen + m) sCap * i.bytes) := by omega
  cases d <;> simp [sliceOrStr] at hd
  all_goals simp [Builtin.append_, run_underlying ht, run_underlying hx, sizeOf, typeInfo, zeroValue, hi, hz, hl, hn, h63', h48', Question.forced, hf, hfo, newRow, grownCap]

/-- cells that hold a content -/
def Holds (w : World) (Y : Nat → Prop) (sz : Nat) (els : List (List CV)) (f0 : Nat → Option Value) : Prop :=
  ∀ (i : Nat) (el : List CV), els[i]? = some el → ∀ (f : Nat) (cv : CV), el[f]? = some cv → ∃ r, f0 (i * sz + f) = some r ∧ CVR w Y cv r
theorem holds_step {w w' : World} {Y Y' : Nat → Prop} (h : Stays Y Y' w w') {sz : Nat} {els : List (List CV)} {f0 : Nat → Option Value} (hh : Holds w Y sz els f0) : Holds w' Y' sz els f0 := fun i el hi f cv hf => by
  obtain ⟨r, h1, h2⟩ := hh i el hi f cv hf
  exact ⟨r, h1, h2.step h⟩
theorem holds_append {w : World} {Y : Nat → Prop} {sz : Nat} {as_ bs : List (List CV)} (hsz : ∀ el ∈ as_, el.length = sz) (hsz' : ∀ el ∈ bs, el.length = sz) {olds news : List Value} (hlo : olds.length = as_.length * sz) (h1 : Holds w Y sz as_ (fun i => olds[i]?)) (h2 : Holds w Y sz bs (fun i => news[i]?)) (rest : List Value) :
    Holds w Y sz (as_ ++ bs) (fun i => (olds ++ news ++ rest)[i]?) := fun i el hi f cv hf => by
  by_cases hlt : i < as_.length
  · rw [List.getElem?_append_left hlt] at hi
    obtain ⟨r, g1, g2⟩ := h1 i el hi f cv hf
    refine ⟨r, ?_, g2⟩
    have : i * sz + f < olds.length := (List.getElem?_eq_some_iff.1 g1).1
    show (olds ++ news ++ rest)[i * sz + f]? = _
    rw [List.append_assoc, List.getElem?_append_left this]
    exact g1
  · rw [List.getElem?_append_right (by omega)] at hi
    obtain ⟨r, g1, g2⟩ := h2 _ el hi f cv hf
    refine ⟨r, ?_, g2⟩
    have hn : (i - as_.length) * sz + f < news.length := (List.getElem?_eq_some_iff.1 g1).1
    have e : i * sz + f = olds.length + ((i - as_.length) * sz + f) := by
      rw [hlo, ← Nat.add_assoc, ← Nat.add_mul]
      congr 2
      omega
    show (olds ++ news ++ rest)[i * sz + f]? = _
    rw [e, List.append_assoc, List.getElem?_append_right (by omega), Nat.add_sub_cancel_left, List.getElem?_append_left hn]
    exact g1

theorem cells_of {b o sz : Nat} {els : List (List CV)} {g : Nat → Nat → Value} {Y : Nat → Prop} (hsz : ∀ el ∈ els, el.length = sz) (h0 : 0 < sz)
    (hc : ∀ (i : Nat) (el : List CV), els[i]? = some el → ∀ (f : Nat) (cv : CV), el[f]? = some cv → w.cell? ⟨b, o + i * sz + f, none⟩ = some (g i f) ∧ CVR w Y cv (g i f)) :
    ∃ news : List Value, news.length = els.length * sz ∧ (∀ j v, news[j]? = some v → w.cell? ⟨b, o + j, none⟩ = some v) ∧ (∀ u ∈ news, u.oneCell' = true) ∧ Holds w Y sz els (fun i => news[i]?) := by
  have at_ : ∀ j, j < els.length * sz → ∃ el cv, els[j / sz]? = some el ∧ el[j % sz]? = some cv := fun j hj => by
    have h1 : j / sz < els.length := Nat.div_lt_of_lt_mul (by rw [Nat.mul_comm]; exact hj)
    refine ⟨els[j / sz], ?_⟩
    have h2 : j % sz < (els[j / sz]).length := by
      rw [hsz _ (List.getElem_mem h1)]
      exact Nat.mod_lt _ h0
    exact ⟨(els[j / sz])[j % sz], List.getElem?_eq_getElem h1, List.getElem?_eq_getElem h2⟩
  refine ⟨(List.range (els.length * sz)).map fun j => g (j / sz) (j % sz), by simp, fun j v hj => ?_, fun u hu => ?_, fun i el hi f cv hf => ?_⟩
  · rw [List.getElem?_map] at hj
    have hlt : j < els.length * sz := by
      by_cases h : j < els.length * sz
      · exact h
      · rw [List.getElem?_eq_none (by simp; omega)] at hj; simp at hj
    obtain ⟨el, cv, h1, h2⟩ := at_ j hlt
    rw [List.getElem?_range hlt] at hj
    simp only [Option.map_some, Option.some.injEq] at hj
    subst hj
    have := (hc _ el h1 _ cv h2).1
    have e := Nat.div_add_mod j sz
    rw [Nat.mul_comm] at e
    rw [← this, Nat.add_assoc, e]
  · simp only [List.mem_map, List.mem_range] at hu
    obtain ⟨j, hj, rfl⟩ := hu
    obtain ⟨el, cv, h1, h2⟩ := at_ j hj
    exact (hc _ el h1 _ cv h2).2.one
  · have hfl : f < sz := by
      rw [← hsz el (List.mem_of_getElem? hi)]
      exact (List.getElem?_eq_some_iff.1 hf).1
    have hil : i < els.length := (List.getElem?_eq_some_iff.1 hi).1
    have hlt : i * sz + f < els.length * sz := by
      have : (i + 1) * sz ≤ els.length * sz := Nat.mul_le_mul_right _ hil
      rw [Nat.add_mul] at this
      omega
    refine ⟨g i f, ?_, (hc i el hi f cv hf).2⟩
    have e1 : (i * sz + f) / sz = i := by rw [Nat.mul_comm, Nat.mul_add_div h0, Nat.div_eq_of_lt hfl, Nat.add_zero]
    have e2 : (i * sz + f) % sz = f := by rw [Nat.mul_comm, Nat.mul_add_mod, Nat.mod_eq_of_lt hfl]
    simp only [List.getElem?_map, List.getElem?_range hlt, Option.map_some, e1, e2]

/-- what is put behind a row -/
theorem behind_ok {get : Nat → Option Ob} {sz : Nat} {c : E} {v : LV} {d : DC} {m : E} {ns : List Need} (h : behind get sz c v = some (d, m, ns)) (h0 : 0 < sz) {r : Value} (lx : LR ν w X σ v r) (hk : ∀ id, v.id? = some id → Known ν w X σ get id) (hn : denNs ν ns) :
    ∃ (els : List (List CV)) (news : List Value), denDC ν d = denC ν c ++ els ∧ denI ν m = (els.length : Int) ∧ (∀ el ∈ els, el.length = sz) ∧ news.length = els.length * sz ∧ (∀ u ∈ news, u.oneCell' = true) ∧ Holds w (Exc X σ) sz els (fun i => news[i]?) ∧
      ∀ w' : World, w'.heap = w.heap → (Builtin.lenOf r).run P w' = .ok els.length w' ∧ (Builtin.firstCells sz els.length r).run P w' = .ok news.toArray w' := by
  have slice : ∀ (els : List (List CV)) (a : Option Addr) (len rc : Nat), (∀ el ∈ els, el.length = sz) → len = els.length →
      ((len = 0 ∧ rc = 0) ∨ ∃ (b o sz' : Nat) (g : Nat → Nat → Value), a = some ⟨b, o, none⟩ ∧ (∀ el ∈ els, el.length = sz') ∧
        (∀ (i : Nat) (el : List CV), els[i]? = some el → ∀ (f : Nat) (cv : CV), el[f]? = some cv → w.cell? ⟨b, o + i * sz' + f, none⟩ = some (g i f) ∧ CVR w (Exc X σ) cv (g i f))) →
      ∃ news : List Value, news.length = els.length * sz ∧ (∀ u ∈ news, u.oneCell' = true) ∧ Holds w (Exc X σ) sz els (fun i => news[i]?) ∧
        ∀ w' : World, w'.heap = w.heap → (Builtin.lenOf (.slice a len rc)).run P w' = .ok els.length w' ∧ (Builtin.firstCells sz els.length (.slice a len rc)).run P w' = .ok news.toArray w' := fun els a len rc hsz hlen hcase => by
    subst hlen
    rcases hcase with ⟨h1, rfl⟩ | ⟨b, o, sz', g, rfl, hsz', hc⟩
    · obtain rfl := List.length_eq_zero_iff.1 h1
      exact ⟨[], by simp, by simp, fun i el hi => by simp at hi, fun w' _ => ⟨by simp [Builtin.lenOf], by cases a <;> simp [Builtin.firstCells, loadCells, loadCellsFrom]⟩⟩
    · have hc' : ∀ (i : Nat) (el : List CV), els[i]? = some el → ∀ (f : Nat) (cv : CV), el[f]? = some cv → w.cell? ⟨b, o + i * sz + f, none⟩ = some (g i f) ∧ CVR w (Exc X σ) cv (g i f) := fun i el hi => by
        have e : sz' = sz := (hsz' el (List.mem_of_getElem? hi)).symm.trans (hsz el (List.mem_of_getElem? hi))
        rw [← e]
        exact hc i el hi
      obtain ⟨news, n1, n2, n3, n4⟩ := cells_of hsz h0 hc'
      refine ⟨news, n1, n3, n4, fun w' hw => ⟨by simp [Builtin.lenOf], ?_⟩⟩
      refine run_firstCells_some (P := P) w' sz els.length ⟨b, o, none⟩ els.length rc news n1 fun j v hj => ?_
      have := n2 j v hj
      rw [Addr.add_lit]
      rw [← this]
      exact cell_of_heap (by rw [hw])
  unfold behind at h
  split at h
  · rename_i e
    cases hb : Nat.beq sz 1
    · rw [hb] at h; simp at h
    have h' := cond_some h
    simp only [Prod.mk.injEq] at h'
    obtain ⟨rfl, rfl, rfl⟩ := h'
    obtain rfl := Nat.eq_of_beq_eq_true hb
    simp only [LR] at lx
    subst lx
    have hbl : (byteCells (denS ν e)).length = (denS ν e).size := by
      unfold byteCells
      rw [List.length_map, Array.length_toList]
      rfl
    refine ⟨byteCells (denS ν e), (denS ν e).data.toList.map fun b => .int .u8 b.toNat, by simp [denDC], by rw [den_len, hbl], fun el hel => ?_, by simp [byteCells], fun u hu => ?_, fun i el hi f cv hf => ?_, fun w' _ => ⟨?_, ?_⟩⟩
    · simp only [byteCells, List.mem_map] at hel
      obtain ⟨b, _, rfl⟩ := hel
      rfl
    · simp only [List.mem_map] at hu
      obtain ⟨b, _, rfl⟩ := hu
      rfl
    · simp only [byteCells, List.getElem?_map, Option.map_eq_some_iff] at hi
      obtain ⟨b, hb, rfl⟩ := hi
      cases f with
      | zero =>
        simp only [List.getElem?_cons_zero, Option.some.injEq] at hf
        subst hf
        refine ⟨.int .u8 b.toNat, ?_, .v _ rfl⟩
        simp only [Nat.mul_one, Nat.add_zero, List.getElem?_map, hb, Option.map_some]
      | succ f => simp at hf
    · rw [hbl]
      simp [Builtin.lenOf]
    · rw [hbl]
      have : (denS ν e).extract 0 (denS ν e).size = denS ν e := by simp
      simp only [Builtin.firstCells, this, Sem.run_pure]
      congr 1
      apply Array.toList_inj.1
      simp
  · simp only [Option.some.injEq, Prod.mk.injEq] at h
    obtain ⟨rfl, rfl, rfl⟩ := h
    simp only [LR] at lx
    subst lx
    refine ⟨[], [], by simp [denDC, denS, byteCells], by simp [denI], by simp, by simp, by simp, fun i el hi => by simp at hi, fun w' _ => ⟨by simp [Builtin.lenOf], by simp [Builtin.firstCells]⟩⟩
  · rename_i c'
    simp only [Option.some.injEq, Prod.mk.injEq] at h
    obtain ⟨rfl, rfl, rfl⟩ := h
    have hall : denN ν (.szAll c' sz) := hn _ (by simp)
    simp only [denN] at hall
    obtain ⟨a, len, rc, rfl, h1, h2, h3⟩ := content_CVR (get := get) (c := c') (ns := []) rfl lx hk (fun n hn => by simp at hn)
    obtain ⟨news, n1, n2, n3, n4⟩ := slice (denC ν c') a len rc hall h1 (h3.imp (fun h => h) fun ⟨b, o, sz', g, e1, _, e3, e4⟩ => ⟨b, o, sz', g, e1, e3, e4⟩)
    exact ⟨_, news, by simp [denDC], by simp [denI], hall, n1, n2, n3, n4⟩
  · rename_i id ver o n
    split at h
    · rename_i ver' c0 e0 sz0 hob
      cases hb : Nat.beq sz sz0
      · rw [hb] at h; simp at h
      rw [hb] at h
      simp only [cond_true] at h
      obtain rfl := Nat.eq_of_beq_eq_true hb
      split at h
      · rename_i d' ns' hc
        simp only [Option.some.injEq, Prod.mk.injEq] at h
        obtain ⟨rfl, rfl, rfl⟩ := h
        obtain ⟨a, len, rc, rfl, h1, h2, h3⟩ := content_CVR hc lx hk hn
        have hlen : denI ν n = (len : Int) ∧ ∀ el ∈ denC ν d', el.length = sz := by
          simp only [contentOf, hob] at hc
          cases hb : Nat.beq ver ver'
          · rw [hb] at hc; simp at hc
          rw [hb] at hc
          simp only [cond_true] at hc
          obtain ⟨a', len', rc', pl, hpl, hver, he, hrs, hsz, hpos, hels, hrow⟩ := rs_live lx (hk id rfl) hob hb
          simp only [Value.slice.injEq] at he
          obtain ⟨rfl, rfl, rfl⟩ := he
          refine ⟨?_, fun el hel => hels el ?_⟩
          · rcases hrs with ⟨_, _, h1, _, h2, _⟩ | ⟨b, cc, off, _, _, hn0, _, hl, _⟩ <;> omega
          · cases hz : isZero o && isClen c0 n
            · rw [hz] at hc
              simp only [cond_false, Option.some.injEq, Prod.mk.injEq] at hc
              obtain ⟨rfl, _⟩ := hc
              rw [den_take', den_drop0] at hel
              exact List.mem_of_mem_drop (List.mem_of_mem_take hel)
            · rw [hz] at hc
              simp only [cond_true, Option.some.injEq, Prod.mk.injEq] at hc
              obtain ⟨rfl, _⟩ := hc
              exact hel
        obtain ⟨news, n1, n2, n3, n4⟩ := slice (denC ν d') a len rc hlen.2 h1 (h3.imp (fun h => h) fun ⟨b, o, sz', g, e1, _, e3, e4⟩ => ⟨b, o, sz', g, e1, e3, e4⟩)
        exact ⟨_, news, by simp [denDC], by rw [hlen.1, h1], hlen.2, n1, n2, n3, n4⟩
      · simp at h
    · simp at h
  · simp at h

theorem den_at {m : Nat} {els : List (List CV)} (hm : Nu.at ν m = .l els) : denC ν (.var m) = els ∧ denI ν (.clen (.var m)) = (els.length : Int) := by
  have : denC ν (.var m) = els := by simp [denC, hm, D.els]
  exact ⟨this, by simp [denI, this]⟩

/-- a row in a new block -/
theorem row_newF {m id ver' : Nat} {pl : Pl} (hpl : σ[id]? = some pl) (hv : pl.ver < ver') {els : List (List CV)} (hm : Nu.at ν m = .l els) {w' : World} (ht : Turn none w w') {ar : Array Value} {e : TypeId} {fr : Nat × Nat} {sz : Nat} (hfr : FreeR fr ar.size sz) (hh : w'.heap[w.heap.size]? = some (.cells ar e fr))
    {cap rc : Nat} (hsz : 0 < sz) (hall : ∀ el ∈ els, el.length = sz) (has : ar.size = cap * sz) (hle : els.length ≤ rc) (hrc : rc ≤ cap) (hd : Holds w (Exc X σ) sz els (fun i => ar[i]?)) {n : Next} {r : Value} {res : Result Next}
    (hr : res = .ok n w') (hn : n = .value r) {v : LV} (hvv : (r = .slice (some ⟨w.heap.size, 0, none⟩) els.length rc ∧ v = .rs id ver' (.int 0) (.clen (.var m))) ∨ (r = .pointer (some ⟨w.heap.size, 0, none⟩) ∧ v = .ptr id ver' 0)) :
    EffU ν w X σ id ⟨ver', .row (.var m) e sz⟩ v res := by
  subst hr hn
  obtain ⟨e1, e2⟩ := den_at hm
  have hlt : w.heap.size < w'.heap.size := (Array.getElem?_eq_some_iff.1 hh).1
  have hmv : Moved w w' pl ⟨ver', some (w.heap.size, cap), sz⟩ := .inr ⟨ht, .inr ⟨cap, rfl, hlt⟩⟩
  have hst := stays_set (X := X) hpl hmv
  have hself : (σ.set id ⟨ver', some (w.heap.size, cap), sz⟩)[id]? = some ⟨ver', some (w.heap.size, cap), sz⟩ := List.getElem?_set_self (List.getElem?_eq_some_iff.1 hpl).1
  refine ⟨_, r, w', pl, _, rfl, .inl rfl, hpl, rfl, .inr hv, hmv, ?_, ?_⟩
  · rcases hvv with ⟨h1, rfl⟩ | ⟨h1, rfl⟩
    · subst h1
      simp only [LR]
      refine ⟨_, _, _, _, rfl, hself, Nat.le_refl _, fun _ => .inr ⟨w.heap.size, cap, 0, rfl, rfl, by rw [e2]; omega, by simp [denI], by rw [e2]; simp, hle, fun _ => ⟨rfl, hrc⟩, fun _ => by simp [denI]⟩⟩
    · subst h1
      exact ptr_back hself rfl rfl
  · refine ⟨rfl, hsz, by rw [e1]; exact hall, .inr ⟨w.heap.size, cap, ar, fr, rfl, hh, hfr, Nat.le_of_eq has.symm, by rw [e1]; omega, fun i el hi f cv hf => ?_⟩⟩
    rw [e1] at hi
    obtain ⟨r, h1, h2⟩ := hd i el hi f cv hf
    exact ⟨r, h1, h2.step hst⟩

/-- a row in a new block -/
theorem row_new {m id ver' : Nat} {pl : Pl} (hpl : σ[id]? = some pl) (hv : pl.ver < ver') {els : List (List CV)} (hm : Nu.at ν m = .l els) {w' : World} (ht : Turn none w w') {ar : Array Value} {e : TypeId} (hh : w'.heap[w.heap.size]? = some (.cells ar e (0, 0)))
    {cap rc sz : Nat} (hmx : cap ≤ 9223372036854775807) (hsz : 0 < sz) (hall : ∀ el ∈ els, el.length = sz) (has : ar.size = cap * sz) (hle : els.length ≤ rc) (hrc : rc ≤ cap) (hd : Holds w (Exc X σ) sz els (fun i => ar[i]?)) {n : Next} {r : Value} {res : Result Next}
    (hr : res = .ok n w') (hn : n = .value r) {v : LV} (hvv : (r = .slice (some ⟨w.heap.size, 0, none⟩) els.length rc ∧ v = .rs id ver' (.int 0) (.clen (.var m))) ∨ (r = .pointer (some ⟨w.heap.size, 0, none⟩) ∧ v = .ptr id ver' 0)) :
    EffU ν w X σ id ⟨ver', .row (.var m) e sz⟩ v res :=
  row_newF hpl hv hm ht (fr := (0, 0)) (FreeR.none has hmx) hh hsz hall has hle hrc hd hr hn hvv

/-- nothing is made -/
theorem row_nil {m id ver' : Nat} {pl : Pl} (hpl : σ[id]? = some pl) (hv : pl.ver < ver') (hm : Nu.at ν m = .l []) {e : TypeId} {sz : Nat} (hsz : 0 < sz) {res : Result Next} (hr : res = .ok (.value (.slice none 0 0)) w) :
    EffU ν w X σ id ⟨ver', .row (.var m) e sz⟩ (.rs id ver' (.int 0) (.clen (.var m))) res := by
  subst hr
  obtain ⟨e1, e2⟩ := den_at hm
  have hmv : Moved w w pl ⟨ver', none, sz⟩ := .inr ⟨Turn.refl _ _, .inl rfl⟩
  have hself : (σ.set id ⟨ver', none, sz⟩)[id]? = some ⟨ver', none, sz⟩ := List.getElem?_set_self (List.getElem?_eq_some_iff.1 hpl).1
  refine ⟨_, _, w, pl, _, rfl, .inl rfl, hpl, rfl, .inr hv, hmv, ?_, ?_⟩
  · simp only [LR]
    exact ⟨_, _, _, _, rfl, hself, Nat.le_refl _, fun _ => .inl ⟨rfl, rfl, rfl, rfl, by rw [e2]; rfl, by simp [denI]⟩⟩
  · exact ⟨rfl, hsz, by rw [e1]; simp, .inl ⟨rfl, e1⟩⟩
theorem putV_get (o : Nat) : ∀ (vs : List Value) (k : Nat) (a : Array Value), o + k + vs.length ≤ a.size → ∀ j, (putV a o vs k)[j]? = if o + k ≤ j ∧ j < o + k + vs.length then vs[j - (o + k)]? else a[j]?
  | [], k, a, _, j => by
    simp only [putV, List.zipIdx_nil, List.foldl_nil, List.length_nil]
    rw [if_neg (by omega)]
  | v :: vs, k, a, h, j => by
    have ih := putV_get o vs (k + 1) (a.setIfInBounds (o + k) v) (by simp at h ⊢; omega) j
    unfold putV at ih ⊢
    rw [List.zipIdx_cons, List.foldl_cons, ih]
    simp only [List.length_cons] at h ⊢
    by_cases e : j = o + k
    · subst e
      rw [if_neg (by omega), if_pos (by omega), Nat.sub_self, Array.getElem?_setIfInBounds, if_pos rfl, if_pos (by omega)]
      rfl
    · by_cases h1 : o + (k + 1) ≤ j ∧ j < o + (k + 1) + vs.length
      · rw [if_pos h1, if_pos (by omega)]
        have : j - (o + k) = (j - (o + (k + 1))) + 1 := by omega
        rw [this]
        rfl
      · rw [if_neg h1, if_neg (by omega), Array.getElem?_setIfInBounds, if_neg (fun h => e h.symm)]
end
end Go.Proofs.Ytdgjcdhomfhfpaa
