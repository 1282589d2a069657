/- A symbolic run of Go code, ninth part: indexes and slices. No condition. -/
import Derived.Test.YtdgjcdhomfhfpaaAb8
namespace Go.Proofs.Ytdgjcdhomfhfpaa
open Go.RowKit
set_option linter.unusedSimpArgs false
set_option linter.unusedVariables false
section
variable {P : Program} {ν : Nu} {w : World} {X : Nat → Prop} {σ : List Pl}

theorem den_add0 (ν : Nu) (a b : E) : denI ν (mkAdd0 a b) = denI ν a + denI ν b := by
  unfold mkAdd0
  split
  · simp [denI]
  · simp [denI]
  · unfold mkAdd
    rw [den_bin ν (· + ·) .add (fun _ _ => rfl)]
theorem den_sub' (ν : Nu) (a b : E) : denI ν (mkSub a b) = denI ν a - denI ν b := by
  unfold mkSub
  split
  · simp [denI]
  · rw [den_bin ν (· - ·) .sub (fun _ _ => rfl)]
theorem den_drop0 (ν : Nu) (c n : E) : denC ν (mkDrop c n) = (denC ν c).drop (denI ν n).toNat := by
  unfold mkDrop
  split <;> simp [denI, denC]

theorem intE_LR {v : LV} {e : E} (h : intE v = some e) {r : Value} (lx : LR ν w X σ v r) : ∃ k, r = .int k (denI ν e) := by
  unfold intE at h
  split at h
  · rename_i k e'
    simp only [Option.some.injEq] at h
    subst h
    simp only [LR] at lx
    exact ⟨k, lx⟩
  · simp at h

theorem nat_mul_toNat (a b : Int) (s : Nat) (ha : 0 ≤ a) (hb : 0 ≤ b) : (a + b).toNat * s = a.toNat * s + b.toNat * s := by
  rw [Int.toNat_add ha hb, Nat.add_mul]

theorem CVR_el {els : List (List CV)} {r : Value} {Y : Nat → Prop} (h : CVR w Y (.vs els) r) {i : Nat} (hi : i < els.length) {sz : Nat} (hsz : ∀ el ∈ els, el.length = sz) :
    ∃ b o c, r = .slice (some ⟨b, o, none⟩) els.length c ∧ els.length ≤ c ∧ ElR w Y (els.getD i []) 0 (.pointer (some ⟨b, o + i * sz, none⟩)) := by
  cases h with
  | nil => simp at hi
  | vs _ b o sz' c g hsz' hc hcell hval =>
    refine ⟨b, o, c, rfl, hc, b, o + i * sz, g i, rfl, fun f' cv hf => ?_⟩
    have he : els[i]? = some (els.getD i []) := by simp [List.getD, List.getElem?_eq_getElem hi]
    have e : sz' = sz := by
      have h1 := hsz' _ (List.mem_of_getElem? he)
      have h2 := hsz _ (List.mem_of_getElem? he)
      omega
    subst e
    obtain ⟨h1, h2⟩ := hcell i _ he f' cv hf
    exact ⟨h1, h2, hval i _ he f' cv hf⟩

theorem s_indexAddr {T : Tab} (hT : TOK P T) {ρ : Operand → LV} {get : Nat → Option Ob} {fresh : Nat} {t : TypeId} {x ix : Operand} {out : Out} (h : opRun T ρ get fresh (.indexAddr t x ix) = some out) {r ri : Value} (lx : LR ν w X σ (ρ x) r) (li : LR ν w X σ (ρ ix) ri)
    (hk : ∀ id, (ρ x).id? = some id → Known ν w X σ get id) : Comes' P ν w X σ out ((Instr.indexAt t r ri).run P w) := by
  simp only [opRun] at h
  split at h
  · rename_i el _ _ _ _ e hg hi
    have hu := (hT.get hg).1
    obtain ⟨k, rfl⟩ := intE_LR hi li
    split at h
    rotate_left
    · simp at h
    rename_i _ es _ _ _ hg2
    obtain ⟨_, ⟨i, hinf, hs, _, _⟩, _⟩ := hT.get hg2
    simp only at hs
    have go : ∀ (b o len cap : Nat), 0 ≤ denI ν e → denI ν e < len → (Instr.indexAt t (.slice (some ⟨b, o, none⟩) len cap) (.int k (denI ν e))).run P w = .ok (.pointer (some ⟨b, o + (denI ν e).toNat * es, none⟩)) w := fun b o len cap h0 h1 => by
      simp [Instr.indexAt, asIntOf, run_und hu, h0, h1, run_size hinf, hs, Addr.add_lit]
    split at h
    · rename_i id ver o n hx
      rw [hx] at lx hk
      split at h
      · rename_i ver' _ _ sz hob
        cases hb : Nat.beq ver ver' && Nat.beq sz es
        · rw [hb] at h; simp at h
        rw [hb] at h
        simp only [cond_true, Option.some.injEq] at h
        subst h
        simp only [Bool.and_eq_true] at hb
        refine ⟨rfl, fun hn => ?_⟩
        have h1 : denN ν (.ix e n) := hn _ (by simp)
        obtain ⟨h1, h2⟩ := h1
        obtain ⟨a, len, rc, pl, hpl, hver, rfl, hrs, ho⟩ := rs_live lx (hk id rfl) hob hb.1
        have hver' := Nat.eq_of_beq_eq_true hb.1
        have hsz' := Nat.eq_of_beq_eq_true hb.2
        obtain ⟨hsz, _⟩ := ho
        rcases hrs with ⟨_, _, _, _, hn0, _⟩ | ⟨b, c, off, hat, rfl, hn0, ho0, hlen, hle, _, hoff⟩
        · omega
        · have hoff := hoff (by omega)
          refine ⟨_, go b off len rc h1 (by omega), ?_⟩
          refine rp_back hpl (by simp only at hver; omega) hat ?_
          rw [den_add0, hsz, hsz', nat_mul_toNat _ _ _ ho0 h1, hoff, hsz, hsz']
          omega
      · simp at h
    · rename_i c hx
      rw [hx] at lx
      simp only [Option.some.injEq] at h
      subst h
      refine ⟨rfl, fun hn => ?_⟩
      have h1 : denN ν (.ix e (.clen c)) := hn _ (by simp)
      have h2 : denN ν (.szAll c es) := hn _ (by simp)
      simp only [denN, denI] at h1 h2
      simp only [LR] at lx
      obtain ⟨b, o, cc, rfl, hcc, hel⟩ := CVR_el lx (i := (denI ν e).toNat) (by omega) h2
      refine ⟨_, go b o _ cc h1.1 h1.2, ?_⟩
      simp only [LR]
      exact hel
    · simp at h
  · rename_i n el _ _ _ _ e hg hi
    have hu := (hT.get hg).1
    obtain ⟨k, rfl⟩ := intE_LR hi li
    split at h
    rotate_left
    · simp at h
    rename_i _ es _ _ _ hg2
    obtain ⟨_, ⟨i, hinf, hs, _, _⟩, _⟩ := hT.get hg2
    simp only at hs
    split at h
    · rename_i id ver hx
      rw [hx] at lx hk
      split at h
      · rename_i ver' _ _ sz hob
        cases hb : Nat.beq ver ver' && Nat.beq sz es
        · rw [hb] at h; simp at h
        rw [hb] at h
        simp only [cond_true, Option.some.injEq] at h
        subst h
        simp only [Bool.and_eq_true] at hb
        refine ⟨rfl, fun hn => ?_⟩
        have h1 : denN ν (.ix e (.int n)) := hn _ (by simp)
        simp only [denN, denI] at h1
        obtain ⟨h1, h2⟩ := h1
        obtain ⟨b, c, pl, hpl, hver, hat, rfl, ho⟩ := ptr_live (ρ := .junk) lx (hk id rfl) hob hb.1
        have hver' := Nat.eq_of_beq_eq_true hb.1
        have hsz' := Nat.eq_of_beq_eq_true hb.2
        obtain ⟨hsz, _⟩ := ho
        refine ⟨.pointer (some ⟨b, 0 + (denI ν e).toNat * es, none⟩), ?_, ?_⟩
        · simp [Instr.indexAt, asIntOf, run_und hu, h1, h2, run_size hinf, hs, Addr.add_lit, Instr.sureAddr]
        · exact rp_back hpl (by simp only at hver; omega) hat (by rw [hsz, hsz']; omega)
      · simp at h
    · simp at h
  · simp at h

theorem s_index {T : Tab} (hT : TOK P T) {ρ : Operand → LV} {get : Nat → Option Ob} {fresh : Nat} {t : TypeId} {x ix : Operand} {out : Out} (h : opRun T ρ get fresh (.index t x ix) = some out) {r ri : Value} (lx : LR ν w X σ (ρ x) r) (li : LR ν w X σ (ρ ix) ri) :
    Comes' P ν w X σ out ((Instr.index t r ri).run P w) := by
  simp only [opRun] at h
  split at h
  · rename_i _ _ _ _ e s hg hi hx
    have hu := (hT.get hg).1
    obtain ⟨k, rfl⟩ := intE_LR hi li
    rw [hx] at lx
    simp only [LR] at lx
    subst lx
    simp only [Option.some.injEq] at h
    subst h
    refine ⟨rfl, fun hn => ?_⟩
    have h1 : denN ν (.ix e (mkLen s)) := hn _ (by simp)
    simp only [denN, den_len] at h1
    obtain ⟨h1, h2⟩ := h1
    have hlt : (denI ν e).toNat < (denS ν s).size := by omega
    refine ⟨.int .u8 ((denS ν s)[(denI ν e).toNat]'hlt).toNat, ?_, ?_⟩
    · simp only [Instr.index, asIntOf, Sem.run_bind, Sem.run_pure, Result.andThen_ok, run_und hu, h1, if_true]
      rw [getElem?_pos (denS ν s) (denI ν e).toNat hlt]
      rfl
    · simp only [LR, denI]
      congr 2
      have hlt' : (denI ν e).toNat < (denS ν s).data.size := hlt
      rw [Array.getD_eq_getD_getElem?, Array.getElem?_eq_getElem hlt']
      rfl
  · rename_i n el _ _ _ _ j cs hg hi hx
    have hu := (hT.get hg).1
    obtain ⟨k, rfl⟩ := intE_LR hi li
    rw [hx] at lx
    simp only [LR] at lx
    obtain ⟨a, rfl, la⟩ := lx
    split at h
    rotate_left
    · simp at h
    rename_i ti hg2
    cases hb : Nat.blt j n
    · rw [hb] at h; simp at h
    rw [hb] at h
    simp only [cond_true] at h
    have hlt : j < n := by simpa using hb
    obtain ⟨_, ⟨i, hinf, hs, _, _⟩, _⟩ := hT.get hg2
    have := part_of hT hg2 la h
    have e : (Instr.index t (.agg a) (.int k (denI ν (.int (Int.ofNat j))))).run P w = (part el a (j * ti.size)).run P w := by
      simp [Instr.index, asIntOf, run_und hu, denI, hlt, run_size hinf, hs]
    rw [e]
    exact this
  · rename_i n el _ _ _ _ e cs _ hg hi hx
    have hu := (hT.get hg).1
    obtain ⟨k, rfl⟩ := intE_LR hi li
    rw [hx] at lx
    simp only [LR] at lx
    obtain ⟨a, rfl, la⟩ := lx
    split at h
    rotate_left
    · simp at h
    rename_i ti hg2
    split at h
    rotate_left
    · simp at h
    rename_i l hl
    split at h
    rotate_left
    · simp at h
    rename_i v hv
    simp only [Option.some.injEq] at h
    subst h
    refine ⟨rfl, fun hn => ?_⟩
    have h1 : denN ν (.ix e (.int n)) := hn _ (by simp)
    simp only [denN, denI] at h1
    obtain ⟨h1, h2⟩ := h1
    obtain ⟨J, hJ⟩ : ∃ J : Nat, denI ν e = (J : Int) := ⟨(denI ν e).toNat, by omega⟩
    obtain ⟨l0, g1, g2⟩ := ixL_LRs (w := w) (X := X) (σ := σ) hJ n 0 hl (by omega) (by omega)
    obtain ⟨_, ⟨i, hinf, hs, _, _⟩, _⟩ := hT.get hg2
    have hlt : J < n := by omega
    obtain ⟨r, hr, lr⟩ := part_of2 hT hg2 la g1 g2 hv
    refine ⟨r, ?_, lr⟩
    rw [hJ]
    have e : (Instr.index t (.agg a) (.int k (J : Int))).run P w = (part el a (J * ti.size)).run P w := by
      simp [Instr.index, asIntOf, run_und hu, hlt, run_size hinf, hs]
    rw [e]
    exact hr
  · simp at h
end
end Go.Proofs.Ytdgjcdhomfhfpaa
