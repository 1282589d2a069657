/- A symbolic run of Go code, fourth part: the operations that only compute. No condition. -/
import Derived.Test.YtdgjcdhomfhfpaaAb3
import Derived.Laws.StructEq
import Derived.Laws.Concat
import Derived.Lib.Bytes
namespace Go.Proofs.Ytdgjcdhomfhfpaa
open Go.RowKit
set_option linter.unusedSimpArgs false
set_option linter.unusedVariables false

/- more variables change nothing of what is there -/
theorem at_app (ν ds : Nu) (n : Nat) (h : n < ν.length) : Nu.at (ν ++ ds) n = Nu.at ν n := by
  induction ν generalizing n with
  | nil => simp at h
  | cons d r ih =>
    cases n with
    | zero => rfl
    | succ n => simpa [Nu.at] using ih n (by simpa using h)
theorem den_app (ν ds : Nu) (e : E) (h : e.ok ν.length = true) :
    denI (ν ++ ds) e = denI ν e ∧ denB (ν ++ ds) e = denB ν e ∧ denS (ν ++ ds) e = denS ν e ∧ denC (ν ++ ds) e = denC ν e := by
  induction e with
  | var m =>
    simp only [E.ok, Nat.blt_eq] at h
    simp [denI, denB, denS, denC, at_app ν ds m h]
  | int _ | bool _ | str _ => simp [denI, denB, denS, denC]
  | wr _ a iha | not a iha | len a iha | clen a iha | sOf a iha | shr a _ iha | shl _ a _ iha =>
    simp only [E.ok] at h
    obtain ⟨a1, a2, a3, a4⟩ := iha h
    simp [denI, denB, denS, denC, a1, a2, a3, a4]
  | ite a b c iha ihb ihc | cut a b c iha ihb ihc =>
    simp only [E.ok, Bool.and_eq_true] at h
    obtain ⟨a1, a2, a3, a4⟩ := iha h.1.1
    obtain ⟨b1, b2, b3, b4⟩ := ihb h.1.2
    obtain ⟨c1, c2, c3, c4⟩ := ihc h.2
    simp [denI, denB, denS, denC, a1, a2, a3, a4, b1, b2, b3, b4, c1, c2, c3, c4]
  | cell a b _ iha ihb | add a b iha ihb | sub a b iha ihb | mul a b iha ihb | quo a b iha ihb | rem a b iha ihb | lt a b iha ihb | le a b iha ihb | eq a b iha ihb | eqb a b iha ihb
  | eqs a b iha ihb | lts a b iha ihb | and a b iha ihb | byte a b iha ihb | cat a b iha ihb | drop a b iha ihb | take a b iha ihb | rune a b iha ihb | runeW a b iha ihb | band _ a b iha ihb | bor _ a b iha ihb | shrv _ a b iha ihb | shlv _ a b iha ihb | mpos a b iha ihb =>
    simp only [E.ok, Bool.and_eq_true] at h
    obtain ⟨a1, a2, a3, a4⟩ := iha h.1
    obtain ⟨b1, b2, b3, b4⟩ := ihb h.2
    simp [denI, denB, denS, denC, a1, a2, a3, a4, b1, b2, b3, b4]
theorem denI_app (ν ds : Nu) (e : E) (h : e.ok ν.length = true) : denI (ν ++ ds) e = denI ν e := (den_app ν ds e h).1
theorem denB_app (ν ds : Nu) (e : E) (h : e.ok ν.length = true) : denB (ν ++ ds) e = denB ν e := (den_app ν ds e h).2.1
theorem denS_app (ν ds : Nu) (e : E) (h : e.ok ν.length = true) : denS (ν ++ ds) e = denS ν e := (den_app ν ds e h).2.2.1
theorem denC_app (ν ds : Nu) (e : E) (h : e.ok ν.length = true) : denC (ν ++ ds) e = denC ν e := (den_app ν ds e h).2.2.2
theorem cvE_app (ν ds : Nu) (e : E) (h : e.ok ν.length = true) : cvE (ν ++ ds) e = cvE ν e := by
  cases e with
  | cell c i f =>
    simp only [E.ok, Bool.and_eq_true] at h
    simp only [cvE, denC_app ν ds c h.1, denI_app ν ds i h.2]
  | _ => simp only [cvE, denC_app ν ds _ h]

mutual
theorem LR_app (ν ds : Nu) (w : World) (X : Nat → Prop) (σ : List Pl) : ∀ (v : LV) (r : Value), v.ok ν.length = true → LR ν w X σ v r → LR (ν ++ ds) w X σ v r
  | .b e, r, h, hr => by simpa only [LR, denB_app ν ds e h] using hr
  | .i k e, r, h, hr => by simpa only [LR, denI_app ν ds e h] using hr
  | .s e, r, h, hr => by simpa only [LR, denS_app ν ds e h] using hr
  | .k v, r, h, hr => by simpa only [LR] using hr
  | .vs e, r, h, hr => by simpa only [LR, denC_app ν ds e h] using hr
  | .o e, r, h, hr => by simpa only [LR, cvE_app ν ds e h] using hr
  | .vp c i f, r, h, hr => by
    simp only [LV.ok, Bool.and_eq_true] at h
    simpa only [LR, denC_app ν ds c h.1, denI_app ν ds i h.2] using hr
  | .agg cs, r, h, hr => by
    simp only [LR] at hr ⊢
    obtain ⟨a, hr, ha⟩ := hr
    exact ⟨a, hr, LRs_app ν ds w X σ cs _ (by simpa only [LV.ok] using h) ha⟩
  | .tup cs, r, h, hr => by
    simp only [LR] at hr ⊢
    obtain ⟨a, hr, ha⟩ := hr
    exact ⟨a, hr, LRs_app ν ds w X σ cs _ (by simpa only [LV.ok] using h) ha⟩
  | .fn f cs, r, h, hr => by
    simp only [LR] at hr ⊢
    obtain ⟨a, hr, ha⟩ := hr
    exact ⟨a, hr, LRs_app ν ds w X σ cs _ (by simpa only [LV.ok] using h) ha⟩
  | .nl c n, r, h, hr => by
    simp only [LV.ok] at h
    simpa only [LR, denC_app ν ds c h] using hr
  | .ptr id ver off, r, h, hr => by simpa only [LR] using hr
  | .mp id ver, r, h, hr => by simpa only [LR] using hr
  | .rp id ver i f, r, h, hr => by
    simp only [LV.ok] at h
    simpa only [LR, denI_app ν ds i h] using hr
  | .rs id ver o n, r, h, hr => by
    simp only [LV.ok, Bool.and_eq_true] at h
    simpa only [LR, denI_app ν ds o h.1, denI_app ν ds n h.2] using hr
  | .ifc t v, r, h, hr => by
    simp only [LV.ok] at h
    simp only [LR] at hr ⊢
    obtain ⟨x, hr, hx⟩ := hr
    exact ⟨x, hr, LR_app ν ds w X σ v x h hx⟩
  | .junk, _, _, _ => by simp only [LR]
  | .g c v, r, h, hr => by
    simp only [LV.ok, Bool.and_eq_true] at h
    simp only [LR, denB_app ν ds c h.1] at hr ⊢
    exact ⟨fun hc => LR_app ν ds w X σ v r h.2 (hr.1 hc), hr.2⟩
theorem LRs_app (ν ds : Nu) (w : World) (X : Nat → Prop) (σ : List Pl) : ∀ (cs : List LV) (rs : List Value), LVs.ok ν.length cs = true → LRs ν w X σ cs rs → LRs (ν ++ ds) w X σ cs rs
  | [], [], _, _ => by simp only [LRs]
  | c :: cs, r :: rs, h, hr => by
    simp only [LVs.ok, Bool.and_eq_true] at h
    simp only [LRs] at hr ⊢
    exact ⟨LR_app ν ds w X σ c r h.1 hr.1, LRs_app ν ds w X σ cs rs h.2 hr.2⟩
  | [], _ :: _, _, hr => by simp only [LRs] at hr
  | _ :: _, [], _, hr => by simp only [LRs] at hr
end
theorem OR_app (ν ds : Nu) (w : World) (X : Nat → Prop) (σ : List Pl) (pl : Pl) (o : LO) (h : o.ok ν.length = true) (ho : OR ν w X σ pl o) : OR (ν ++ ds) w X σ pl o := by
  cases o with
  | box cs elem =>
    obtain ⟨b, c, a, fr, h1, h2, h3, h4⟩ := ho
    exact ⟨b, c, a, fr, h1, h2, h3, LRs_app ν ds w X σ _ _ h h4⟩
  | row c elem sz =>
    simp only [OR, denC_app ν ds c h] at ho ⊢
    exact ho
  | iter s p =>
    simp only [LO.ok, Bool.and_eq_true] at h
    simp only [OR, denS_app ν ds s h.1, denI_app ν ds p h.2] at ho ⊢
    exact ho
  | mp c vk =>
    simp only [OR, denC_app ν ds c h] at ho ⊢
    exact ho
  | hole => exact ho

/- lists -/
theorem LRs_len {ν : Nu} {w : World} {X : Nat → Prop} {σ : List Pl} : ∀ {cs : List LV} {rs : List Value}, LRs ν w X σ cs rs → cs.length = rs.length
  | [], [], _ => rfl
  | c :: cs, r :: rs, h => by
    simp only [LRs] at h
    simp [LRs_len h.2]
  | [], _ :: _, h => by simp only [LRs] at h
  | _ :: _, [], h => by simp only [LRs] at h
theorem LRs_get {ν : Nu} {w : World} {X : Nat → Prop} {σ : List Pl} : ∀ {cs : List LV} {rs : List Value} (_ : LRs ν w X σ cs rs) (i : Nat) (r : Value), rs[i]? = some r → LR ν w X σ (getL cs i) r
  | [], [], _, i, r, hr => by simp at hr
  | c :: cs, r' :: rs, h, 0, r, hr => by
    simp only [LRs] at h
    simp only [List.getElem?_cons_zero, Option.some.injEq] at hr
    subst hr
    exact h.1
  | c :: cs, r' :: rs, h, i + 1, r, hr => by
    simp only [LRs] at h
    exact LRs_get h.2 i r (by simpa using hr)
  | [], _ :: _, h, _, _, _ => by simp only [LRs] at h
  | _ :: _, [], h, _, _, _ => by simp only [LRs] at h
theorem LRs_at {ν : Nu} {w : World} {X : Nat → Prop} {σ : List Pl} : ∀ {cs : List LV} {rs : List Value} (_ : LRs ν w X σ cs rs) (i : Nat) (v : LV), atL cs i = some v → ∃ r, rs[i]? = some r ∧ LR ν w X σ v r
  | [], [], _, i, r, hr => by simp [atL] at hr
  | c :: cs, r' :: rs, h, 0, v, hr => by
    simp only [LRs] at h
    simp only [atL, Option.some.injEq] at hr
    subst hr
    exact ⟨r', rfl, h.1⟩
  | c :: cs, r' :: rs, h, i + 1, v, hr => by
    simp only [LRs] at h
    simpa using LRs_at h.2 i v (by simpa [atL] using hr)
  | [], _ :: _, h, _, _, _ => by simp only [LRs] at h
  | _ :: _, [], h, _, _, _ => by simp only [LRs] at h
theorem LRs_set {ν : Nu} {w : World} {X : Nat → Prop} {σ : List Pl} : ∀ {cs : List LV} {rs : List Value} (_ : LRs ν w X σ cs rs) (i : Nat) (v : LV) (r : Value), LR ν w X σ v r → LRs ν w X σ (setL cs i v) (rs.set i r)
  | [], [], _, i, v, r, hr => by simp [setL, LRs]
  | c :: cs, r' :: rs, h, 0, v, r, hr => by
    simp only [LRs] at h
    simp only [setL, List.set_cons_zero, LRs]
    exact ⟨hr, h.2⟩
  | c :: cs, r' :: rs, h, i + 1, v, r, hr => by
    simp only [LRs] at h
    simp only [setL, List.set_cons_succ, LRs]
    exact ⟨h.1, LRs_set h.2 i v r hr⟩
  | [], _ :: _, h, _, _, _, _ => by simp only [LRs] at h
  | _ :: _, [], h, _, _, _, _ => by simp only [LRs] at h
theorem LRs_junk {ν : Nu} {w : World} {X : Nat → Prop} {σ : List Pl} : ∀ {cs : List LV} {rs : List Value} (_ : LRs ν w X σ cs rs) (i : Nat), LRs ν w X σ (setL cs i .junk) rs
  | [], [], _, i => by simp [setL, LRs]
  | c :: cs, r' :: rs, h, 0 => by
    simp only [LRs] at h
    simp only [setL, LRs, LR]
    exact ⟨trivial, h.2⟩
  | c :: cs, r' :: rs, h, i + 1 => by
    simp only [LRs] at h
    simp only [setL, LRs]
    exact ⟨h.1, LRs_junk h.2 i⟩
  | [], _ :: _, h, _ => by simp only [LRs] at h
  | _ :: _, [], h, _ => by simp only [LRs] at h
theorem getL_out : ∀ (cs : List LV) (i : Nat), cs.length ≤ i → getL cs i = .junk
  | [], _, _ => rfl
  | _ :: _, 0, h => by simp at h
  | _ :: cs, i + 1, h => getL_out cs i (by simpa using h)

theorem lit_LR (ν : Nu) (w : World) (X : Nat → Prop) (σ : List Pl) (v : Value) : LR ν w X σ (litOf v) v := by
  cases v <;> simp [litOf, LR, denB, denI, denS]
theorem lits_LRs (ν : Nu) (w : World) (X : Nat → Prop) (σ : List Pl) : ∀ (vs : List Value), LRs ν w X σ (vs.map litOf) vs
  | [] => by simp [LRs]
  | v :: vs => by
    simp only [List.map_cons, LRs]
    exact ⟨lit_LR ν w X σ v, lits_LRs ν w X σ vs⟩
theorem lv_LR (ν : Nu) (w : World) (X : Nat → Prop) (σ : List Pl) (v : Value) : LR ν w X σ (lvOf v) v := by
  cases v with
  | agg cs => simpa only [lvOf, LR] using ⟨cs, rfl, lits_LRs ν w X σ cs.toList⟩
  | tuple vs => simpa only [lvOf, LR] using ⟨vs, rfl, lits_LRs ν w X σ vs.toList⟩
  | _ =>
    simp only [lvOf]
    exact lit_LR ν w X σ _

theorem ev_LR {ν : Nu} {w : World} {X : Nat → Prop} {σ : List Pl} {S : St} {a : Act} (h : LRs ν w X σ S.F a.tmps.toList) (x : Operand) : LR ν w X σ (S.ev x) (a.eval x) := by
  cases x with
  | tmp t =>
    simp only [St.ev, Act.eval]
    by_cases ht : t < a.tmps.size
    · exact LRs_get h t _ (by simp [Array.getD_eq_getD_getElem?, ht])
    · have hl := LRs_len h
      have ht' : a.tmps.size ≤ t := Nat.le_of_not_lt ht
      rw [getL_out S.F t (by simp at hl; omega)]
      simp only [LR]
  | const v => exact lv_LR ν w X σ v
  | global g => simp [St.ev, Act.eval, LR]
  | func f => simp [St.ev, Act.eval, LR]

/- the terms made with a look -/
theorem den_wr (ν : Nu) (k : IntKind) (e : E) : denI ν (mkWr k e) = k.wrap (denI ν e) := by
  cases e <;> simp [mkWr, denI]
theorem den_bin (ν : Nu) (f : Int → Int → Int) (g : E → E → E) (hg : ∀ a b, denI ν (g a b) = f (denI ν a) (denI ν b)) (a b : E) : denI ν (mkBin f g a b) = f (denI ν a) (denI ν b) := by
  unfold mkBin
  split
  · simp [denI]
  · exact hg _ _
theorem den_rel (ν : Nu) (f : Int → Int → Bool) (g : E → E → E) (hg : ∀ a b, denB ν (g a b) = f (denI ν a) (denI ν b)) (a b : E) : denB ν (mkRel f g a b) = f (denI ν a) (denI ν b) := by
  unfold mkRel
  split
  · simp [denI, denB]
  · exact hg _ _
theorem den_not (ν : Nu) (e : E) : denB ν (mkNot e) = !denB ν e := by
  cases e <;> simp [mkNot, denB]
theorem den_and (ν : Nu) (a b : E) : denB ν (mkAnd a b) = (denB ν a && denB ν b) := by
  unfold mkAnd
  split <;> simp [denB]
theorem den_iteB (ν : Nu) (c a b : E) : denB ν (mkIte c a b) = if denB ν c then denB ν a else denB ν b := by
  unfold mkIte
  split <;> simp [denB]
theorem den_iteI (ν : Nu) (c a b : E) : denI ν (mkIte c a b) = if denB ν c then denI ν a else denI ν b := by
  unfold mkIte
  split <;> simp [denB, denI]
theorem toList_mk (l : List UInt8) : (ByteArray.mk l.toArray).toList = l := by
  rw [Lib.toList_data]
theorem den_eqs (ν : Nu) (a b : E) : denB ν (mkEqs a b) = ((denS ν a).toList == (denS ν b).toList) := by
  unfold mkEqs
  split
  · simp [denB, denS, toList_mk]
  · simp [denB]
theorem den_len (ν : Nu) (e : E) : denI ν (mkLen e) = (denS ν e).size := by
  cases e <;> first | rfl | simp [mkLen, denI, denS]
theorem kEq_iff (a b : IntKind) : kEq a b = true ↔ a = b := by
  cases a <;> cases b <;> simp [kEq]

/-- who is called, with what -/
theorem isCall_eq {ρ : Operand → LV} {op : Op} {f : FuncId} {as_ : List LV} (h : isCall ρ op = some (f, as_)) : ∃ x args tys, op = .call ⟨.value x, args, tys⟩ ∧
    ((ρ x = .k (.func (.func f) #[] #[]) ∧ as_ = args.toList.map ρ) ∨ ∃ caps, caps.all shutV = true ∧ ρ x = .fn f caps ∧ as_ = args.toList.map ρ ++ caps) := by
  unfold isCall at h
  split at h
  · rename_i x args' tys
    split at h
    · rename_i f' a b hx
      cases hb : a.isEmpty && b.isEmpty
      · rw [hb] at h; simp at h
      rw [hb] at h
      simp only [cond_true, Option.some.injEq, Prod.mk.injEq] at h
      obtain ⟨rfl, rfl⟩ := h
      simp only [Bool.and_eq_true, Array.isEmpty_iff] at hb
      obtain ⟨rfl, rfl⟩ := hb
      exact ⟨x, args', tys, rfl, .inl ⟨hx, rfl⟩⟩
    · rename_i f' caps hx
      cases hb : caps.all shutV
      · rw [hb] at h; simp at h
      rw [hb] at h
      simp only [cond_true, Option.some.injEq, Prod.mk.injEq] at h
      obtain ⟨rfl, rfl⟩ := h
      exact ⟨x, args', tys, rfl, .inr ⟨caps, hb, hx, rfl⟩⟩
    · simp at h
  · simp at h
theorem methL_eq : ∀ {l : List (Nat × List Nat × Nat)} {t : Nat} {s : String} {f : Nat}, methL l t s = some f → ∃ k, (t, k, f) ∈ l ∧ s = strOf k
  | [], _, _, _, h => by simp [methL] at h
  | (u, k, g) :: r, t, s, f, h => by
    simp only [methL] at h
    cases hb : Nat.beq u t && (s == strOf k)
    · rw [hb] at h
      obtain ⟨k', h1, h2⟩ := methL_eq (l := r) h
      exact ⟨k', by simp [h1], h2⟩
    · rw [hb] at h
      simp only [cond_true, Option.some.injEq] at h
      simp only [Bool.and_eq_true, beq_iff_eq] at hb
      obtain rfl := Nat.eq_of_beq_eq_true hb.1
      subst h
      exact ⟨k, by simp, hb.2⟩
/-- who is run in place, with what -/
theorem isCallI_eq {T : Tab} {ρ : Operand → LV} {op : Op} {f : FuncId} {as_ : List LV} (h : isCallI T ρ op = some (f, as_)) : (∃ x args tys, op = .call ⟨.value x, args, tys⟩ ∧
    ((ρ x = .k (.func (.func f) #[] #[]) ∧ as_ = args.toList.map ρ) ∨ ∃ caps, ρ x = .fn f caps ∧ as_ = args.toList.map ρ ++ caps)) ∨
    ∃ x s args tys t v, op = .call ⟨.invoke x s, args, tys⟩ ∧ ρ x = .ifc t v ∧ T.meth t s = some f ∧ as_ = v :: args.toList.map ρ := by
  unfold isCallI at h
  split at h
  · rename_i x s args' tys
    split at h
    · rename_i t v hx
      split at h
      · rename_i f' hm
        simp only [Option.some.injEq, Prod.mk.injEq] at h
        obtain ⟨rfl, rfl⟩ := h
        exact .inr ⟨x, s, args', tys, t, v, rfl, hx, hm, rfl⟩
      · simp at h
    · simp at h
  · rename_i x args' tys
    refine .inl ?_
    split at h
    · rename_i f' a b hx
      cases hb : a.isEmpty && b.isEmpty
      · rw [hb] at h; simp at h
      rw [hb] at h
      simp only [cond_true, Option.some.injEq, Prod.mk.injEq] at h
      obtain ⟨rfl, rfl⟩ := h
      simp only [Bool.and_eq_true, Array.isEmpty_iff] at hb
      obtain ⟨rfl, rfl⟩ := hb
      exact ⟨x, args', tys, rfl, .inl ⟨hx, rfl⟩⟩
    · rename_i f' caps hx
      simp only [Option.some.injEq, Prod.mk.injEq] at h
      obtain ⟨rfl, rfl⟩ := h
      exact ⟨x, args', tys, rfl, .inr ⟨caps, hx, rfl⟩⟩
    · simp at h
  · simp at h
/-- what must hold -/
def denN (ν : Nu) : Need → Prop
  | .ix i n => 0 ≤ denI ν i ∧ denI ν i < denI ν n
  | .cuts a b n => 0 ≤ denI ν a ∧ denI ν a ≤ denI ν b ∧ denI ν b ≤ denI ν n
  | .ne0 a => denI ν a ≠ 0
  | .kinds c i f ks => ks = ((((denC ν c).getD (denI ν i).toNat []).drop f).take ks.length).map kindC
  | .fits n by_ => 0 ≤ denI ν n ∧ denI ν n * by_ ≤ 140737488355328 ∧ denI ν n ≤ 9223372036854775807
  | .strs a b => (((denS ν a).size + (denS ν b).size : Nat) : Int) ≤ 9223372036854775807
  | .bytesC c => ∀ el ∈ denC ν c, ∃ z : Int, el = [.v (.int .u8 z)]
  | .szAll c n => ∀ el ∈ denC ν c, el.length = n
  | .le a b => denI ν a ≤ denI ν b
/-- the datum that a cell is -/
def cvOf (ν : Nu) : LV → CV
  | .b e => .v (.bool (denB ν e))
  | .i k e => .v (.int k (denI ν e))
  | .s e => .v (.string (denS ν e))
  | .k v => .v v
  | .vs c => .vs (denC ν c)
  | .o e => cvE ν e
  | _ => default
def byteCells (s : ByteArray) : List (List CV) := s.data.toList.map fun b => [.v (.int .u8 b.toNat)]
def overL (el : List CV) (f : Nat) (cs : List CV) : List CV := el.take f ++ cs ++ el.drop (f + cs.length)
/-- an entry put into a map -/
def mputL (c : List (List CV)) (k : ByteArray) (cv : CV) : List (List CV) := if mposL c k < c.length then c.set (mposL c k) [.v (.string k), cv] else c ++ [[.v (.string k), cv]]
/-- a new content -/
def denDC (ν : Nu) : DC → List (List CV)
  | .app c d => denC ν c ++ denC ν d
  | .appS c s => denC ν c ++ byteCells (denS ν s)
  | .set c i f cells => (denC ν c).set (denI ν i).toNat (overL ((denC ν c).getD (denI ν i).toNat []) f (cells.map (cvOf ν)))
  | .rep n cells => List.replicate (denI ν n).toNat (cells.map (cvOf ν))
  | .lit els => els.map (·.map (cvOf ν))
  | .bytes s => byteCells (denS ν s)
  | .mput c k v => mputL (denC ν c) (denS ν k) (cvOf ν v)
def denNs (ν : Nu) (ns : List Need) : Prop := ∀ n ∈ ns, denN ν n

theorem cvOf_app (ν ds : Nu) (v : LV) (h : v.ok ν.length = true) : cvOf (ν ++ ds) v = cvOf ν v := by
  cases v with
  | b e => simp only [cvOf, denB_app ν ds e h]
  | i k e => simp only [cvOf, denI_app ν ds e h]
  | s e => simp only [cvOf, denS_app ν ds e h]
  | vs c => simp only [cvOf, denC_app ν ds c h]
  | o e => simp only [cvOf, cvE_app ν ds e h]
  | _ => rfl
theorem cvsOf_app (ν ds : Nu) : ∀ (vs : List LV), LVs.ok ν.length vs = true → vs.map (cvOf (ν ++ ds)) = vs.map (cvOf ν)
  | [], _ => rfl
  | v :: vs, h => by
    simp only [LVs.ok, Bool.and_eq_true] at h
    simp only [List.map_cons, cvOf_app ν ds v h.1, cvsOf_app ν ds vs h.2]
theorem denN_app (ν ds : Nu) (p : Need) (h : p.ok ν.length = true) : denN (ν ++ ds) p ↔ denN ν p := by
  cases p <;> simp only [Need.ok, Bool.and_eq_true] at h
  case ix i n => simp only [denN, denI_app ν ds _ h.1, denI_app ν ds _ h.2]
  case cuts a b n => simp only [denN, denI_app ν ds _ h.1.1, denI_app ν ds _ h.1.2, denI_app ν ds _ h.2]
  case ne0 a => simp only [denN, denI_app ν ds _ h]
  case kinds c i f ks => simp only [denN, denC_app ν ds _ h.1, denI_app ν ds _ h.2]
  case fits n by_ => simp only [denN, denI_app ν ds _ h]
  case strs a b => simp only [denN, denS_app ν ds _ h.1, denS_app ν ds _ h.2]
  case bytesC c => simp only [denN, denC_app ν ds _ h]
  case szAll c n => simp only [denN, denC_app ν ds _ h]
  case le a b => simp only [denN, denI_app ν ds _ h.1, denI_app ν ds _ h.2]
theorem denNs_app (ν ds : Nu) : ∀ (ns : List Need), needsOk ν.length ns = true → (denNs (ν ++ ds) ns ↔ denNs ν ns)
  | [], _ => by simp [denNs]
  | p :: ns, h => by
    simp only [needsOk, Bool.and_eq_true] at h
    have h1 := denN_app ν ds p h.1
    have h2 := denNs_app ν ds ns h.2
    simp only [denNs, List.mem_cons, forall_eq_or_imp] at h2 ⊢
    rw [h1, h2]
theorem denDC_app (ν ds : Nu) (d : DC) (h : d.ok ν.length = true) : denDC (ν ++ ds) d = denDC ν d := by
  cases d with
  | app c d =>
    simp only [DC.ok, Bool.and_eq_true] at h
    simp only [denDC, denC_app ν ds _ h.1, denC_app ν ds _ h.2]
  | appS c s =>
    simp only [DC.ok, Bool.and_eq_true] at h
    simp only [denDC, denC_app ν ds _ h.1, denS_app ν ds _ h.2]
  | set c i f cells =>
    simp only [DC.ok, Bool.and_eq_true] at h
    simp only [denDC, denC_app ν ds _ h.1.1, denI_app ν ds _ h.1.2, cvsOf_app ν ds _ h.2]
  | rep m cells =>
    simp only [DC.ok, Bool.and_eq_true] at h
    simp only [denDC, denI_app ν ds _ h.1, cvsOf_app ν ds _ h.2]
  | lit els =>
    simp only [DC.ok, List.all_eq_true] at h
    simp only [denDC]
    exact List.map_congr_left fun l hl => cvsOf_app ν ds l (h l hl)
  | bytes s => simp only [denDC, denS_app ν ds s h]
  | mput c k v =>
    simp only [DC.ok, Bool.and_eq_true] at h
    simp only [denDC, denC_app ν ds _ h.1.1, denS_app ν ds _ h.1.2, cvOf_app ν ds _ h.2]

/-- The types are the program's. -/
def TiOK (P : Program) (t : Nat) (ti : TI) : Prop :=
  P.underlying t = some ti.desc ∧ (∃ i : TypeInfo, P.info? t = some i ∧ i.size = ti.size ∧ i.bytes = ti.bytes ∧ (∀ z, ti.zero = some z → i.zero = some z)) ∧
    (ti.eq = true → P.stoodInHeld t = false ∧ P.eqGuardType P.depth t = false)
theorem tiOK_of {P : Program} {t : Nat} {d : TypeDesc} {s b : Nat} {z : Option Value} {e : Bool} (h1 : P.underlying t = some d) (h2 : (P.info? t).map (fun i => (i.size, i.bytes, i.zero)) = some (s, b, z))
    (h3 : e = true → P.stoodInHeld t = false ∧ P.eqGuardType P.depth t = false) : TiOK P t ⟨d, s, b, z, e⟩ := by
  cases hi : P.info? t with
  | none => rw [hi] at h2; simp at h2
  | some i =>
    rw [hi] at h2
    simp only [Option.map_some, Option.some.injEq, Prod.mk.injEq] at h2
    exact ⟨h1, ⟨i, hi, h2.1, h2.2.1, fun z' hz => by rw [h2.2.2]; exact hz⟩, h3⟩
def TOKl (P : Program) : List (Nat × TI) → Prop
  | [] => True
  | (t, ti) :: r => TiOK P t ti ∧ TOKl P r
/-- a method of a pointer, its receiver a pointer -/
def MethOK (P : Program) (t : Nat) (k : List Nat) (f : Nat) : Prop :=
  (∃ e, P.underlying t = some (.pointer e)) ∧ ∃ i m, P.info? t = some i ∧ i.methods.find? (fun m => m.name == strOf k) = some m ∧ m.path = #[] ∧ m.func = some (f, true)
theorem methOK_of {P : Program} {t : Nat} {k : List Nat} {f e : Nat} (h1 : P.underlying t = some (.pointer e)) (h2 : ((P.info? t).bind fun i => (i.methods.find? fun m => m.name == strOf k).map fun m => (m.path.isEmpty, m.func)) = some (true, some (f, true))) : MethOK P t k f := by
  refine ⟨⟨e, h1⟩, ?_⟩
  cases hi : P.info? t with
  | none => rw [hi] at h2; simp at h2
  | some i =>
    rw [hi] at h2
    simp only [Option.bind_some] at h2
    cases hm : i.methods.find? fun m => m.name == strOf k with
    | none => rw [hm] at h2; simp at h2
    | some m =>
      rw [hm] at h2
      simp only [Option.map_some, Option.some.injEq, Prod.mk.injEq, Array.isEmpty_iff] at h2
      exact ⟨i, m, rfl, hm, h2.1, h2.2⟩
def MOKl (P : Program) : List (Nat × List Nat × Nat) → Prop
  | [] => True
  | (t, k, f) :: r => MethOK P t k f ∧ MOKl P r
theorem MOKl.get {P : Program} : ∀ {l : List (Nat × List Nat × Nat)} (_ : MOKl P l) {t : Nat} {k : List Nat} {f : Nat}, (t, k, f) ∈ l → MethOK P t k f
  | [], _, _, _, _, h => by simp at h
  | (u, k', g) :: r, hl, t, k, f, h => by
    rcases List.mem_cons.1 h with h | h
    · simp only [Prod.mk.injEq] at h
      obtain ⟨rfl, rfl, rfl⟩ := h
      exact hl.1
    · exact MOKl.get hl.2 h
def TOK (P : Program) (T : Tab) : Prop := TOKl P T.ts ∧ MOKl P T.mt
theorem TOKl.get {P : Program} : ∀ {T : List (Nat × TI)} (_ : TOKl P T) {t : Nat} {ti : TI}, getT T t = some ti → TiOK P t ti
  | [], _, _, _, h => by simp [getT] at h
  | (t', ti') :: r, hT, t, ti, h => by
    simp only [getT] at h
    cases hb : Nat.beq t' t
    · rw [hb] at h
      exact TOKl.get hT.2 h
    · rw [hb] at h
      obtain rfl := Nat.eq_of_beq_eq_true hb
      obtain rfl : ti' = ti := by simpa using h
      exact hT.1
theorem TOK.get {P : Program} {T : Tab} (hT : TOK P T) {t : Nat} {ti : TI} (h : T.get t = some ti) : TiOK P t ti := TOKl.get hT.1 h
theorem TOK.meth {P : Program} {T : Tab} (hT : TOK P T) {t : Nat} {s : String} {f : Nat} (h : T.meth t s = some f) : ∃ k, MethOK P t k f ∧ s = strOf k := by
  obtain ⟨k, h1, h2⟩ := methL_eq h
  exact ⟨k, MOKl.get hT.2 h1, h2⟩
end Go.Proofs.Ytdgjcdhomfhfpaa
