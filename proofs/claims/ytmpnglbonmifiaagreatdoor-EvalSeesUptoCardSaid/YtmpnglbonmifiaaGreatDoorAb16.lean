/- A symbolic run of Go code, sixteenth part: an operation, a region. No condition. -/
import Derived.Test.YtmpnglbonmifiaaGreatDoorAbM
namespace Go.Proofs.YtmpnglbonmifiaaGreatDoor
open Go.RowKit
set_option linter.unusedSimpArgs false
set_option linter.unusedVariables false

/-- What a tree owes: at its ends Fin, where it is to come under the head of a loop Ag. -/
def den (P : Program) (Fin : Nu → Ex → St → Prop) : (Nu → Nat → List D → Prop) → Nu → Tr → Prop
  | _, ν, .done e S => Fin ν e S
  | Ag, ν, .br c t f => (denB ν c = true → den P Fin Ag ν t) ∧ (denB ν c = false → den P Fin Ag ν f)
  | Ag, ν, .need g p t => (denB ν g = true → denN ν p) ∧ den P Fin Ag ν t
  | Ag, ν, .letC d t => ∀ l, l = denDC ν d → den P Fin Ag (ν ++ [.l l]) t
  | Ag, ν, .call g f as_ sh n m t => ∃ ds : Nu, n + ds.length = m ∧ (denB ν g = true → FnC P f (dvsOf ν as_) (dvOf (ν ++ ds) sh)) ∧ den P Fin Ag (ν ++ ds) t
  | Ag, ν, .loop m θ t => ∃ I : List D → Nat → Prop, (∃ k, I (θ.map (mkD ν)) k) ∧
      ∀ k ds, ds.length = θ.length → I ds k → den P Fin (fun ν' m' ds' => if m' = m then ∃ k', k' < k ∧ I ds' k' else Ag ν' m' ds') (ν ++ ds) t
  | Ag, ν, .again m θ => Ag ν m (θ.map (mkD ν))
  | _, _, .stop _ _ => False
  | _, _, .fail _ => False

theorem den_mono {P : Program} {Fin : Nu → Ex → St → Prop} : ∀ (t : Tr) (Ag Ag' : Nu → Nat → List D → Prop) (ν : Nu), (∀ ν' m ds, ν <+: ν' → Ag ν' m ds → Ag' ν' m ds) → den P Fin Ag ν t → den P Fin Ag' ν t
  | .done e S, Ag, Ag', ν, h, hd => hd
  | .br c t f, Ag, Ag', ν, h, hd => ⟨fun hc => den_mono t Ag Ag' ν h (hd.1 hc), fun hc => den_mono f Ag Ag' ν h (hd.2 hc)⟩
  | .need g p t, Ag, Ag', ν, h, hd => ⟨hd.1, den_mono t Ag Ag' ν h hd.2⟩
  | .letC d t, Ag, Ag', ν, h, hd => fun l hl => den_mono t Ag Ag' _ (fun ν' m ds hp => h ν' m ds ((List.prefix_append _ _).trans hp)) (hd l hl)
  | .call g f as_ sh n m t, Ag, Ag', ν, h, hd => by
    obtain ⟨ds, h1, h2, h3⟩ := hd
    exact ⟨ds, h1, h2, den_mono t Ag Ag' _ (fun ν' m ds hp => h ν' m ds ((List.prefix_append _ _).trans hp)) h3⟩
  | .loop m θ t, Ag, Ag', ν, h, hd => by
    obtain ⟨I, hk, hI⟩ := hd
    refine ⟨I, hk, fun k ds hl hi => den_mono t _ _ _ (fun ν' m' ds' hp => ?_) (hI k ds hl hi)⟩
    by_cases hm : m' = m
    · simp only [hm, if_true]; exact id
    · simp only [hm, if_false]; exact h ν' m' ds' ((List.prefix_append _ _).trans hp)
  | .again m θ, Ag, Ag', ν, h, hd => h _ _ _ (List.prefix_refl _) hd
  | .stop _ _, Ag, Ag', ν, h, hd => hd
  | .fail _, Ag, Ag', ν, h, hd => hd

section
variable {P : Program} {T : Tab} {w0 : World} {X : Nat → Prop} {Fin : Nu → Ex → St → Prop} {Ag : Nu → Nat → List D → Prop}

theorem den_needs {ν : Nu} {g : E} {t : Tr} : ∀ (ns : List Need), den P Fin Ag ν (needs g ns t) → (denB ν g = true → denNs ν ns) ∧ den P Fin Ag ν t
  | [], h => ⟨fun _ n hn => by simp at hn, h⟩
  | p :: ns, h => by
    simp only [needs, den] at h
    obtain ⟨h1, h2⟩ := den_needs ns h.2
    refine ⟨fun hg n hn => ?_, h2⟩
    rcases List.mem_cons.1 hn with rfl | hn
    · exact h.1 hg
    · exact h1 hg n hn

theorem known_of {ν : Nu} {S : St} {σ : List Pl} {a : Act} {w : World} (h : Rel w0 X ν S σ a w) (id : Nat) (hs : (σ[id]?).isSome = true) : Known ν w X σ (getO S.L) id := fun ob hob => by
  obtain ⟨pl, hpl⟩ := Option.isSome_iff_exists.1 hs
  obtain ⟨h1, h2⟩ := h.L id ob pl hob hpl
  exact ⟨pl, hpl, h1, h2⟩
theorem id_some {ν : Nu} {σ : List Pl} {w : World} {v : LV} {r : Value} (h : LR ν w X σ v r) {id : Nat} (hid : v.id? = some id) : (σ[id]?).isSome = true := by
  cases v with
  | ptr i _ _ =>
    simp only [LV.id?, Option.some.injEq] at hid
    subst hid
    simp only [LR] at h
    obtain ⟨_, pl, _, hpl, _⟩ := h
    rw [hpl]; rfl
  | rp i _ _ _ =>
    simp only [LV.id?, Option.some.injEq] at hid
    subst hid
    simp only [LR] at h
    obtain ⟨_, pl, _, hpl, _⟩ := h
    rw [hpl]; rfl
  | rs i _ _ _ =>
    simp only [LV.id?, Option.some.injEq] at hid
    subst hid
    simp only [LR] at h
    obtain ⟨_, _, _, pl, _, hpl, _⟩ := h
    rw [hpl]; rfl
  | _ => simp [LV.id?] at hid

/-- memory that is made or written, all operations -/
theorem s_eff (hT : TOK P T) {ν : Nu} {σ : List Pl} {w : World} {ρ : Operand → LV} {val : Operand → Value} {get : Nat → Option Ob} {fresh : Nat} {o : Oper} {out : Out} (h : opRun T ρ get fresh o.op = some out) (hn : denNs ν out.needs)
    (hρ : ∀ x ∈ o.op.operands, LR ν w X σ (ρ x) (val x)) (hk : ∀ x ∈ o.op.operands, ∀ id, (ρ x).id? = some id → Known ν w X σ get id) (hown : ∀ b, Own σ b → b < w.heap.size) : EffOK ν w X σ fresh out ((execOp val o).run P w) := by
  by_cases hne : out.e = .no
  · unfold EffOK; rw [hne]; trivial
  obtain ⟨dst, op, type, pos, after, guard⟩ := o
  cases op
  case box e x => exact s_box rfl h (hρ x (by simp [Op.operands]))
  case alloc e => exact s_allocA hT rfl h
  case store t a x => exact s_storeA hT rfl h hn (hρ a (by simp [Op.operands])) (hρ x (by simp [Op.operands])) (hk a (by simp [Op.operands]))
  case range t x => exact s_range hT rfl h (hρ x (by simp [Op.operands]))
  case makeSlice t l c => exact s_makeSlice hT rfl h hn (hρ l (by simp [Op.operands])) (hρ c (by simp [Op.operands]))
  case buildSlice t len parts =>
    exact s_buildSlice hT rfl h fun p hp => hρ p.2 (by
      simp only [Op.operands]
      simp only [List.mem_toArray, List.mem_map]
      exact ⟨p, hp, rfl⟩)
  case convert s d x => exact s_toBytes hT rfl h hne (hρ x (by simp [Op.operands]))
  case load t x => exact absurd (s_load hT h (hρ x (by simp [Op.operands])) (hk x (by simp [Op.operands]))).1 hne
  case binOp op t x y yt => exact absurd (s_binO hT op t _ _ out (by simpa only [opRun] using h) x y _ _ (hρ x (by simp [Op.operands])) (hρ y (by simp [Op.operands]))).1 hne
  case fieldAddr t x f => exact absurd (s_fieldAddr hT h (hρ x (by simp [Op.operands])) (hk x (by simp [Op.operands]))).1 hne
  case field t x f => exact absurd (s_field hT h (hρ x (by simp [Op.operands]))).1 hne
  case indexAddr t x ix => exact absurd (s_indexAddr hT h (hρ x (by simp [Op.operands])) (hρ ix (by simp [Op.operands])) (hk x (by simp [Op.operands]))).1 hne
  case index t x ix => exact absurd (s_index hT h (hρ x (by simp [Op.operands])) (hρ ix (by simp [Op.operands]))).1 hne
  case extract x k => exact absurd (s_extract (P := P) h (hρ x (by simp [Op.operands]))).1 hne
  case slice t x lo hi mx => exact absurd (s_slice hT h (hρ x (by simp [Op.operands])) (fun y hy => hρ y (by simp [Op.operands, hy])) (fun y hy => hρ y (by simp [Op.operands, hy])) (fun y hy => hρ y (by simp [Op.operands, hy])) (hk x (by simp [Op.operands]))).1 hne
  case call c =>
    obtain ⟨callee, args, argTypes⟩ := c
    cases callee
    case builtin b =>
      by_cases hb : b = .append
      · subst hb
        exact s_append hT rfl h hn (fun x hx => hρ x (by simpa [Op.operands, Call.operands] using hx)) (fun x hx => hk x (by simpa [Op.operands, Call.operands] using hx))
      · exfalso
        simp only [opRun] at h
        (repeat' (first | split at h | replace h := cond_some' h)) <;> first
          | (simp at h; done)
          | (simp only [Option.some.injEq] at h; subst h; exact hne rfl)
          | (exact hb rfl)
    all_goals simp [opRun] at h
  all_goals
    exfalso
    simp only [opRun] at h
    (repeat' (first | split at h | replace h := cond_some' h)) <;> first
      | (simp at h; done)
      | (simp only [Option.some.injEq] at h; subst h; exact hne rfl)

theorem Rel.turn {ν : Nu} {S : St} {σ : List Pl} {a : Act} {w w' : World} (h : Rel w0 X ν S σ a w) (ht : Turn none w w') : Rel w0 X ν S σ a w' := by
  have hst : Stays (Exc X σ) (Exc X σ) w w' := ⟨fun b _ hb => ht.heap b hb (by simp), fun b hb => .inl hb⟩
  have hla := Later'.refl σ
  exact { defers := h.defers, F := LRs.step hst hla _ _ h.F, len := h.len, L := fun i ob pl hob hi => by
            obtain ⟨h1, h2⟩ := h.L i ob pl hob hi
            exact ⟨h1, OR.step hst hla (fun b c hc => ht.heap b (h.own b ⟨i, pl, c, hi, hc⟩).2 (by simp)) _ h2⟩
          inj := h.inj, own := fun b hb => ⟨(h.own b hb).1, Nat.lt_of_lt_of_le (h.own b hb).2 ht.size⟩
          old := h.old.trans (ht.below h.old.size (fun b hb => by simp at hb)), ex := h.ex, glo := h.glo, n := h.n }
theorem Turn.of_below {w w' : World} (h : Below w.heap.size w w') : Turn none w w' := ⟨h.os, h.tape, h.output, h.size, fun b hb _ => h.block b hb⟩

theorem upon_of {o : Oper} {a : Act} {w w' : World} {n : Next} {r : Value} {K : Act → World → Prop} {Q : Exit → Act → World → Prop} (hr : (execOp a.eval o).run P w = .ok n w') (hn : NextR n r) (h : K (a.put o.dst r) w') : o.wp P a w K Q := by
  unfold Oper.wp
  rw [hr]
  rcases hn with rfl | ⟨rfl, rfl⟩
  · exact h
  · exact h

theorem effU_use {ν : Nu} {S : St} {σ : List Pl} {a : Act} {w : World} (hR : Rel w0 X ν S σ a w) {i : Nat} {ob : Ob} {v : LV} {o : Oper} (h : EffU ν w X σ i ob v ((execOp a.eval o).run P w)) {K : Act → World → Prop} {Q : Exit → Act → World → Prop}
    (hK : ∀ (σ' : List Pl) (r : Value) (w' : World), Rel w0 X ν { S with L := setO S.L i ob } σ' a w' → LR ν w' X σ' v r → K (a.put o.dst r) w') : o.wp P a w K Q := by
  obtain ⟨n, r, w', pl, pl', hr, hnr, hpl, hv, hvv, hm, lr, hob⟩ := h
  exact upon_of hr hnr (hK _ r w' (hR.upd hpl hv hvv hm hob) lr)

theorem at_last (ν : Nu) (d : D) (n : Nat) (h : ν.length = n) : Nu.at (ν ++ [d]) n = d := by
  subst h
  induction ν with
  | nil => rfl
  | cons x ν ih => simpa [Nu.at] using ih
theorem Rel.hole_k {ν : Nu} {S : St} {σ : List Pl} {a : Act} {w : World} (h : Rel w0 X ν { S with L := S.L ++ [⟨0, .hole⟩] } (σ ++ [⟨0, none, 0⟩]) a w) {v : LV} {r : Value} (l : LR ν w X (σ ++ [⟨0, none, 0⟩]) v r) (id : Nat) (hid : v.id? = some id) :
    Known ν w X (σ ++ [⟨0, none, 0⟩]) (getO S.L) id := fun ob hob =>
  known_of h id (id_some l hid) ob (by simp only [getO_app, if_pos (getO_lt _ _ _ hob)]; exact hob)
theorem hole_at {ν : Nu} {S : St} {σ : List Pl} {a : Act} {w : World} (h : Rel w0 X ν S σ a w) : (σ ++ [(⟨0, none, 0⟩ : Pl)])[S.L.length]? = some ⟨0, none, 0⟩ := by
  rw [← h.len]
  simp

/-- An operation that computes, or makes or writes memory. -/
theorem op_sound (hT : TOK P T) {ν : Nu} {S : St} {σ : List Pl} {a : Act} {w : World} (hR : Rel w0 X ν S σ a w) {o : Oper}
    {ns : List Need} {v : LV} {e : Eff} (h : opRun T S.ev (getO S.L) S.L.length o.op = some ⟨ns, v, e⟩) (hok : isNo e = true ∨ needsOk S.n ns = true)
    (hn : denNs ν ns) {k : St → LV → Tr} (hd : den P Fin Ag ν (effs S v e k)) {K : Act → World → Prop} {Q : Exit → Act → World → Prop}
    (hK : ∀ (ν' : Nu) (S' : St) (v' : LV) (σ' : List Pl) (r : Value) (w' : World), den P Fin Ag ν' (k S' v') → Rel w0 X ν' S' σ' a w' → LR ν' w' X σ' v' r → S'.F = S.F → K (a.put o.dst r) w') : o.wp P a w K Q := by
  have own : ∀ {ν : Nu} {S : St} {σ : List Pl} {w : World}, Rel w0 X ν S σ a w → ∀ b, Own σ b → b < w.heap.size := fun h b hb => (h.own b hb).2
  -- where memory is made
  have fresh : ∀ {ν : Nu} {S' : St}, Rel w0 X ν S' σ a w → S'.F = S.F → S'.L = S.L → denNs ν ns → EffOK ν w X (σ ++ [⟨0, none, 0⟩]) S.L.length ⟨ns, v, e⟩ ((execOp a.eval o).run P w) := fun {ν S'} hR' hF hL hn' => by
    have hh := hR'.hole
    have hρ : ∀ x, LR ν w X (σ ++ [⟨0, none, 0⟩]) (S.ev x) (a.eval x) := fun x => by
      have := ev_LR hh.F x
      cases x <;> simpa only [St.ev, hF] using this
    have := s_eff hT h hn' (fun x _ => hρ x) (fun x _ id hid => by
      have := Rel.hole_k hh (hρ x) id hid
      rw [hL] at this
      exact this) (own hh)
    exact this
  have old : ∀ {ν : Nu} {S' : St}, Rel w0 X ν S' σ a w → S'.F = S.F → S'.L = S.L → denNs ν ns → EffOK ν w X σ S.L.length ⟨ns, v, e⟩ ((execOp a.eval o).run P w) := fun {ν S'} hR' hF hL hn' => by
    have hρ : ∀ x, LR ν w X σ (S.ev x) (a.eval x) := fun x => by
      have := ev_LR hR'.F x
      cases x <;> simpa only [St.ev, hF] using this
    exact s_eff hT h hn' (fun x _ => hρ x) (fun x _ id hid => by
      have := known_of hR' id (id_some (hρ x) hid)
      rw [hL] at this
      exact this) (own hR')
  cases e with
  | no =>
    obtain ⟨r, hr, lr⟩ := s_calm hT o h rfl (fun x _ => ev_LR hR.F x) (fun x _ id hid => known_of hR id (id_some (ev_LR hR.F x) hid)) hn
    exact upon_of hr (.inl rfl) (hK ν S v σ r w hd hR lr rfl)
  | new ob =>
    simp only [effs] at hd
    have h1 := fresh hR rfl rfl hn (hole_at hR)
    refine effU_use hR.hole h1 fun σ' r w' hR' lr => hK ν _ v σ' r w' hd ?_ lr rfl
    rw [setO_app] at hR'
    exact hR'
  | upd i ob =>
    simp only [effs] at hd
    have h1 := old hR rfl rfl hn
    exact effU_use hR h1 fun σ' r w' hR' lr => hK ν _ v σ' r w' hd hR' lr rfl
  | newc d ob vf =>
    simp only [effs] at hd
    cases hok' : S.ok && d.ok S.n
    · rw [hok'] at hd; simp [den] at hd
    rw [hok'] at hd
    simp only [Bool.and_eq_true] at hok'
    simp only [cond_true, den] at hd
    have hd := hd _ rfl
    have hR' := hR.more hok'.1 [.l (denDC ν d)]
    have hns := hok.resolve_left (by simp [isNo])
    have h1 := fresh hR' rfl rfl ((denNs_app ν _ ns (by rw [hR.n]; exact hns)).2 hn) S.n (by rw [denDC_app ν _ d (by rw [hR.n]; exact hok'.2)]; exact at_last ν _ _ hR.n) (hole_at hR)
    refine effU_use hR'.hole h1 fun σ' r w' hR2 lr => hK _ _ _ σ' r w' hd ?_ lr rfl
    rw [setO_app] at hR2
    exact hR2
  | updc d i ob vf =>
    simp only [effs] at hd
    cases hok' : S.ok && d.ok S.n
    · rw [hok'] at hd; simp [den] at hd
    rw [hok'] at hd
    simp only [Bool.and_eq_true] at hok'
    simp only [cond_true, den] at hd
    have hd := hd _ rfl
    have hR' := hR.more hok'.1 [.l (denDC ν d)]
    have hns := hok.resolve_left (by simp [isNo])
    have h1 := old hR' rfl rfl ((denNs_app ν _ ns (by rw [hR.n]; exact hns)).2 hn) S.n (by rw [denDC_app ν _ d (by rw [hR.n]; exact hok'.2)]; exact at_last ν _ _ hR.n)
    exact effU_use hR' h1 fun σ' r w' hR2 lr => hK _ _ _ σ' r w' hd hR2 lr rfl
end
end Go.Proofs.YtmpnglbonmifiaaGreatDoor
