/- A symbolic run of Go code: regions that draw their order. No condition. -/
import Derived.Test.YtmpnglbonmifiaaGreatDoorAb17
import Derived.Orders
namespace Go.Proofs.YtmpnglbonmifiaaGreatDoor
open Go.RowKit
set_option linter.unusedSimpArgs false
set_option linter.unusedVariables false

section
variable {P : Program} {T : Tab} {w0 : World} {X : Nat → Prop} {Fin : Nu → Ex → St → Prop} {Ag : Nu → Nat → List D → Prop} {ops : Array Oper}

mutual
theorem dvOf_app (ν ds : Nu) : ∀ (v : LV), v.ok ν.length = true → dvOf (ν ++ ds) v = dvOf ν v
  | .b e, h => by simp only [dvOf, denB_app ν ds e h]
  | .i k e, h => by simp only [dvOf, denI_app ν ds e h]
  | .s e, h => by simp only [dvOf, denS_app ν ds e h]
  | .k v, h => rfl
  | .vs c, h => by simp only [dvOf, denC_app ν ds c h]
  | .vp _ _ _, h => rfl
  | .agg cs, h => by simp only [dvOf, cvsOf_app ν ds cs h]
  | .tup vs, h => by simp only [dvOf, dvsOf_app ν ds vs h]
  | .ptr _ _ _, h => rfl
  | .rp _ _ _ _, h => rfl
  | .rs _ _ _ _, h => rfl
  | .junk, h => rfl
  | .g _ _, h => rfl
theorem dvsOf_app (ν ds : Nu) : ∀ (vs : List LV), LVs.ok ν.length vs = true → dvsOf (ν ++ ds) vs = dvsOf ν vs
  | [], _ => rfl
  | v :: vs, h => by
    simp only [LVs.ok, Bool.and_eq_true] at h
    simp only [dvsOf, dvOf_app ν ds v h.1, dvsOf_app ν ds vs h.2]
end

/-- what a tree says of an operation -/
structure EvOK (P : Program) (ν : Nu) (e : Ev) : Prop where
  ns : denB ν e.g = true → denNs ν e.ns
  call : ∀ f as_ sh n m, e.call = some (f, as_, sh, n, m) → denB ν e.g = true → FnC P f (dvsOf ν as_) (dvOf ν sh)
  dc : e.call = none → ∀ d, e.dc = some d → Nu.at ν e.n = .l (denDC ν d)
/-- its variables are those that there are -/
structure EvIn (S : St) (e : Ev) : Prop where
  n : e.n = S.n
  g : e.g.ok S.n = true
  ns : needsOk S.n e.ns = true
  call : ∀ f as_ sh n m, e.call = some (f, as_, sh, n, m) → n = S.n ∧ LVs.ok S.n as_ = true ∧ sh.ok m = true ∧ e.S'.n = m
  dc : e.call = none → ∀ d, e.dc = some d → d.ok S.n = true ∧ e.S'.n = S.n + 1
  no : e.call = none → e.dc = none → e.S'.n = S.n

theorem put_n (S : St) (d : Option Tmp) (v : LV) : (S.put d v).n = S.n := by cases d <;> rfl
theorem put_L (S : St) (d : Option Tmp) (v : LV) : (S.put d v).L = S.L := by cases d <;> rfl
theorem upS_n (S : St) (u : Option (Nat × Ob)) : (upS S u).n = S.n := by
  cases u with
  | none => rfl
  | some x => obtain ⟨j, ob⟩ := x; simp only [upS]; cases Nat.beq j S.L.length <;> rfl
theorem upS_F (S : St) (u : Option (Nat × Ob)) : (upS S u).F = S.F := by
  cases u with
  | none => rfl
  | some x => obtain ⟨j, ob⟩ := x; simp only [upS]; cases Nat.beq j S.L.length <;> rfl

theorem effD_ok {S : St} {g : E} {v v' : LV} {e : Eff} {up : Option (Nat × Ob)} {dc : Option DC} {m : Nat} (h : effD S g v e = some (v', up, dc, m)) :
    (dc = none → m = S.n) ∧ (∀ d, dc = some d → d.ok S.n = true ∧ m = S.n + 1) := by
  unfold effD at h
  split at h
  · simp only [Option.some.injEq, Prod.mk.injEq] at h
    obtain ⟨rfl, rfl, rfl, rfl⟩ := h
    exact ⟨fun _ => rfl, fun d hd => by simp at hd⟩
  all_goals
    have h' := cond_some h
    simp only [Prod.mk.injEq] at h'
    obtain ⟨rfl, rfl, rfl, rfl⟩ := h'
  · exact ⟨fun _ => rfl, fun d hd => by simp at hd⟩
  · exact ⟨fun _ => rfl, fun d hd => by simp at hd⟩
  · rename_i d _ _
    cases hb : isTrue g && d.ok S.n
    · rw [hb] at h; simp at h
    simp only [Bool.and_eq_true] at hb
    exact ⟨fun h => by simp at h, fun d' hd => by
      simp only [Option.some.injEq] at hd
      subst hd
      exact ⟨hb.2, rfl⟩⟩
  · rename_i d i _ _
    cases hb : isTrue g && Nat.blt i S.L.length && d.ok S.n
    · rw [hb] at h; simp at h
    simp only [Bool.and_eq_true] at hb
    exact ⟨fun h => by simp at h, fun d' hd => by
      simp only [Option.some.injEq] at hd
      subst hd
      exact ⟨hb.2, rfl⟩⟩

/-- the state behind an operation -/
theorem stepD0_in {o : Oper} {S : St} {e : Ev} (h : stepD0 T ops o S = some e) : EvIn S e ∧ e.S'.F = (S.put o.dst e.v).F ∧ e.S'.L = (upS S e.up).L := by
  unfold stepD0 at h
  split at h
  · simp at h
  · simp only [Option.some.injEq] at h
    subst h
    exact ⟨⟨rfl, rfl, rfl, fun f as_ sh n m h => by simp at h, fun _ d hd => by simp at hd, fun _ _ => put_n _ _ _⟩, rfl, put_L _ _ _⟩
  rename_i g _ hg
  cases hgo : g.ok S.n
  · rw [hgo] at h; simp at h
  rw [hgo] at h
  simp only [cond_true] at h
  have putF : ∀ (S S' : St) (v : LV), S'.F = S.F → (S'.put o.dst v).F = (S.put o.dst v).F := fun S S' v h => by
    cases o.dst with
    | none => exact h
    | some d => simp only [St.put, h]
  unfold evOp at h
  split at h
  · rename_i f args hc
    split at h
    · rename_i as_ ns sh m hs hsh
      cases hb : needsOk S.n ns && LVs.ok S.n as_ && sh.ok m
      · rw [hb] at h; simp at h
      rw [hb] at h
      simp only [cond_true] at h
      simp only [Bool.and_eq_true] at hb
      cases hfr : (args.toList.map fun x => strip g (S.ev x)).any isRs && !flatR sh
      · rw [hfr] at h
        simp only [cond_false, Option.some.injEq] at h
        subst h
        refine ⟨⟨rfl, hgo, hb.1.1, fun f as_ sh n m h => ?_, fun h => by simp at h, fun h => by simp at h⟩, putF _ _ _ rfl, put_L _ _ _⟩
        simp only [Option.some.injEq, Prod.mk.injEq] at h
        obtain ⟨rfl, rfl, rfl, rfl, rfl⟩ := h
        exact ⟨rfl, hb.1.2, hb.2, put_n _ _ _⟩
      · rw [hfr] at h
        simp only [cond_true] at h
        split at h
        · have h' := cond_some h
          subst h'
          refine ⟨⟨rfl, hgo, hb.1.1, fun f as_ sh n m h => ?_, fun h => by simp at h, fun h => by simp at h⟩, putF _ _ _ (upS_F _ _), ?_⟩
          · simp only [Option.some.injEq, Prod.mk.injEq] at h
            obtain ⟨rfl, rfl, rfl, rfl, rfl⟩ := h
            exact ⟨rfl, hb.1.2, hb.2, put_n _ _ _⟩
          · rw [put_L]
        · simp at h
    · simp at h
  · split at h
    · split at h
      · split at h
        · simp only [Option.some.injEq] at h
          subst h
          exact ⟨⟨rfl, hgo, rfl, fun f as_ sh n m h => by simp at h, fun _ d hd => by simp at hd, fun _ _ => put_n _ _ _⟩, rfl, put_L _ _ _⟩
        · simp at h
      · simp at h
    · split at h
      · rename_i ns v e' hop
        split at h
        · rename_i v' up dc m hE
          have h' := cond_some h
          cases hb : needsOk S.n ns
          · rw [hb] at h; simp at h
          subst h'
          obtain ⟨h1, h2⟩ := effD_ok hE
          refine ⟨⟨rfl, hgo, hb, fun f as_ sh n m h => by simp at h, fun _ d hd => ⟨(h2 d hd).1, by rw [put_n]; exact (h2 d hd).2⟩, fun _ hd => by rw [put_n]; exact h1 hd⟩, putF _ _ _ (upS_F _ _), ?_⟩
          rw [put_L]
        · simp at h
      · simp at h

theorem setL_setL : ∀ (F : List LV) (d : Nat) (v v' : LV), setL (setL F d v) d v' = setL F d v'
  | [], d, v, v' => by cases d <;> rfl
  | _ :: _, 0, v, v' => rfl
  | x :: F, d + 1, v, v' => by simp only [setL, setL_setL F d v v']
theorem knE_eq (K : List (Nat × Bool)) (dst : Option Tmp) (n : Nat) (e : Ev) : knE K dst n e = e ∨ ∃ d b x, dst = some d ∧ e.v = .b x ∧ e.g = .bool true ∧ x.ok n = true ∧ knE K dst n e = { e with ns := needB x b :: e.ns, v := .b (.bool b), S' := { e.S' with F := setL e.S'.F d (.b (.bool b)) } } := by
  unfold knE
  cases dst with
  | none => exact .inl rfl
  | some d =>
    simp only
    cases lookK K d with
    | none => exact .inl rfl
    | some b =>
      simp only
      split
      · rename_i x hx
        cases hb : isTrue e.g && x.ok n
        · exact .inl rfl
        · simp only [Bool.and_eq_true] at hb
          have : e.g = .bool true := by
            have := hb.1
            unfold isTrue at this
            split at this
            · assumption
            · simp at this
          exact .inr ⟨d, b, x, rfl, hx, this, hb.2, rfl⟩
      · exact .inl rfl
theorem needB_ok {x : E} {b : Bool} {n : Nat} (h : x.ok n = true) : (needB x b).ok n = true := by
  cases b <;> simp [needB, Need.ok, E.ok, h]
theorem needB_den {ν : Nu} {x : E} {b : Bool} (h : denN ν (needB x b)) : denB ν x = b := by
  cases b <;> cases hx : denB ν x <;> simp [needB, denN, denI, hx] at h ⊢
theorem stepD_in {K : List (Nat × Bool)} {o : Oper} {S : St} {e : Ev} (h : stepD T K ops o S = some e) : EvIn S e ∧ e.S'.F = (S.put o.dst e.v).F ∧ e.S'.L = (upS S e.up).L := by
  unfold stepD at h
  split at h
  · simp at h
  rename_i e0 he0
  simp only [Option.some.injEq] at h
  obtain ⟨h1, h2, h3⟩ := stepD0_in he0
  rcases knE_eq K o.dst S.n e0 with hk | ⟨d, b, x, hd, hv, hg, hx, hk⟩
  · rw [hk] at h; subst h; exact ⟨h1, h2, h3⟩
  · rw [hk] at h
    subst h
    refine ⟨⟨h1.n, h1.g, ?_, h1.call, h1.dc, h1.no⟩, ?_, h3⟩
    · simp only [needsOk, needB_ok hx, h1.ns, Bool.and_self]
    · simp only [h2, hd, St.put, setL_setL]

theorem at_mid : ∀ (ν : Nu) (x : D) (r : Nu) (n : Nat), ν.length = n → Nu.at (ν ++ [x] ++ r) n = x
  | [], x, r, _, rfl => rfl
  | _ :: ν, x, r, _, rfl => by
    have := at_mid ν x r ν.length rfl
    simpa [Nu.at] using this
/-- what the tree of a region owes -/
theorem treeD_facts {K : List (Nat × Bool)} : ∀ (l : List Oper) (S : St) (evs : List Ev) (S' : St) (ν : Nu) (t : Tr), chainD T K ops l S = some (evs, S') → ν.length = S.n → den P Fin Ag ν (treeD evs t) →
    ∃ ds : Nu, den P Fin Ag (ν ++ ds) t ∧ (ν ++ ds).length = S'.n ∧ ∀ e ∈ evs, EvOK P (ν ++ ds) e
  | [], S, evs, S', ν, t, h, hν, hd => by
    simp only [chainD, Option.some.injEq, Prod.mk.injEq] at h
    obtain ⟨rfl, rfl⟩ := h
    exact ⟨[], by simpa [treeD] using hd, by simpa using hν, fun e he => by simp at he⟩
  | o :: l, S, evs, S', ν, t, h, hν, hd => by
    simp only [chainD] at h
    split at h
    · simp at h
    rename_i e he
    split at h
    · simp at h
    rename_i evs' S'' hc
    simp only [Option.some.injEq, Prod.mk.injEq] at h
    obtain ⟨rfl, rfl⟩ := h
    obtain ⟨hin, _, _⟩ := stepD_in he
    simp only [treeD, evNode] at hd
    obtain ⟨hns, hd⟩ := den_needs _ hd
    -- what the tail says, of a longer valuation
    have tail : ∀ ds1 : Nu, (ν ++ ds1).length = e.S'.n → den P Fin Ag (ν ++ ds1) (treeD evs' t) → (∀ ds2 : Nu, EvOK P (ν ++ ds1 ++ ds2) e) → ∃ ds : Nu, den P Fin Ag (ν ++ ds) t ∧ (ν ++ ds).length = S''.n ∧ ∀ e' ∈ e :: evs', EvOK P (ν ++ ds) e' := fun ds1 h1 h2 h3 => by
      obtain ⟨ds2, g1, g2, g3⟩ := treeD_facts l e.S' evs' S'' (ν ++ ds1) t hc h1 h2
      refine ⟨ds1 ++ ds2, by rw [← List.append_assoc]; exact g1, by rw [← List.append_assoc]; exact g2, fun e' he' => ?_⟩
      rw [← List.append_assoc]
      rcases List.mem_cons.1 he' with rfl | he'
      · exact h3 ds2
      · exact g3 e' he'
    have hg : ∀ ds : Nu, denB (ν ++ ds) e.g = denB ν e.g := fun ds => denB_app ν ds e.g (by rw [hν]; exact hin.g)
    have hns' : ∀ ds : Nu, denB (ν ++ ds) e.g = true → denNs (ν ++ ds) e.ns := fun ds h => (denNs_app ν ds e.ns (by rw [hν]; exact hin.ns)).2 (hns (by rw [← hg ds]; exact h))
    split at hd
    · rename_i f as_ sh n m hcall
      simp only [den] at hd
      obtain ⟨ds1, hm, hF, hd⟩ := hd
      obtain ⟨c1, c2, c3, c4⟩ := hin.call f as_ sh n m hcall
      refine tail ds1 (by rw [c4, List.length_append, hν, ← c1]; exact hm) hd fun ds2 => ⟨?_, ?_, fun h => by rw [hcall] at h; simp at h⟩
      · rw [List.append_assoc]; exact hns' _
      · intro f' as' sh' n' m' h' hgt
        rw [hcall] at h'
        simp only [Option.some.injEq, Prod.mk.injEq] at h'
        obtain ⟨rfl, rfl, rfl, rfl, rfl⟩ := h'
        rw [List.append_assoc, hg] at hgt
        have := hF hgt
        rw [dvOf_app (ν ++ ds1) ds2 sh (by rw [List.length_append, hν, ← c1, hm]; exact c3), List.append_assoc, dvsOf_app ν (ds1 ++ ds2) as_ (by rw [hν]; exact c2)]
        exact this
    · rename_i hcall
      split at hd
      · rename_i d hdc
        simp only [den] at hd
        have hd := hd _ rfl
        obtain ⟨c1, c2⟩ := hin.dc hcall d hdc
        refine tail [.l (denDC ν d)] (by rw [c2]; simp [hν]) hd fun ds2 => ⟨?_, ?_, ?_⟩
        · rw [List.append_assoc]; exact hns' _
        · intro f' as' sh' n' m' h' hgt
          rw [hcall] at h'; simp at h'
        · intro _ d' hd'
          rw [hdc] at hd'
          simp only [Option.some.injEq] at hd'
          subst hd'
          rw [List.append_assoc, denDC_app ν _ d (by rw [hν]; exact c1), hin.n]
          rw [← List.append_assoc]
          exact at_mid ν _ ds2 S.n hν
      · rename_i hdc
        have hS := hin.no hcall hdc
        refine tail [] (by rw [hS]; simpa using hν) (by simpa using hd) fun ds2 => ⟨?_, ?_, ?_⟩
        · rw [List.append_assoc]; exact hns' _
        · intro f' as' sh' n' m' h' hgt
          rw [hcall] at h'; simp at h'
        · intro _ d' hd'
          rw [hdc] at hd'; simp at hd'

/-- the states between -/
theorem chain_fun {K : List (Nat × Bool)} : ∀ (l : List Oper) (S : St) (evs : List Ev) (S' : St), chainD T K ops l S = some (evs, S') →
    ∃ (s : Nat → St) (ev : Nat → Ev), s 0 = S ∧ s l.length = S' ∧ evs.length = l.length ∧ (∀ i e, evs[i]? = some e → ev i = e) ∧ ∀ i o, l[i]? = some o → stepD T K ops o (s i) = some (ev i) ∧ s (i + 1) = (ev i).S'
  | [], S, evs, S', h => by
    simp only [chainD, Option.some.injEq, Prod.mk.injEq] at h
    obtain ⟨rfl, rfl⟩ := h
    exact ⟨fun _ => S, fun _ => ⟨.bool false, [], none, none, .junk, none, [], 0, S⟩, rfl, rfl, rfl, fun i e h => by simp at h, fun i o h => by simp at h⟩
  | o :: l, S, evs, S', h => by
    simp only [chainD] at h
    split at h
    · simp at h
    rename_i e he
    split at h
    · simp at h
    rename_i evs' S'' hc
    simp only [Option.some.injEq, Prod.mk.injEq] at h
    obtain ⟨rfl, rfl⟩ := h
    obtain ⟨s, ev, h1, h2, h3, h4, h5⟩ := chain_fun l e.S' evs' S'' hc
    refine ⟨fun i => match i with | 0 => S | i + 1 => s i, fun i => match i with | 0 => e | i + 1 => ev i, rfl, by simpa using h2, by simp [h3], fun i e' hi => ?_, fun i o' hi => ?_⟩
    · cases i with
      | zero => simpa using hi
      | succ i => exact h4 i e' (by simpa using hi)
    · cases i with
      | zero =>
        simp only [List.getElem?_cons_zero, Option.some.injEq] at hi
        subst hi
        exact ⟨he, h1⟩
      | succ i => exact h5 i o' (by simpa using hi)

theorem getO_hole_at {ν : Nu} {S : St} {σ : List Pl} {a : Act} {w : World} (hR : Rel w0 X ν S σ a w) {i : Nat} (h : getO S.L i = some ⟨0, .hole⟩) : σ[i]? = some ⟨0, none, 0⟩ := by
  have hi : i < σ.length := by rw [hR.len]; exact getO_lt _ _ _ h
  have h1 := hR.L i _ σ[i] h (by simp [hi])
  have : σ[i] = ⟨0, none, 0⟩ := by simpa only [OR] using h1.2
  rw [List.getElem?_eq_getElem hi, this]

theorem guardE_same {o : Oper} {F F' : List LV} (h : ∀ t ∈ o.looksAt ops, getL F t = getL F' t) : guardE ops F o.guard = guardE ops F' o.guard := by
  unfold guardE
  cases hg : o.guard with
  | none => rfl
  | some gw =>
    obtain ⟨j, want⟩ := gw
    simp only
    cases hd : (ops[j]?).bind (·.dst) with
    | none => rfl
    | some d =>
      have := h d (by simp [Oper.looksAt, hg, hd])
      simp only [this]
theorem ev_same {o : Oper} {S S' : St} (h : ∀ t ∈ o.looksAt ops, getL S.F t = getL S'.F t) {x : Operand} (hx : x ∈ o.op.operands) : S.ev x = S'.ev x := by
  cases x with
  | tmp t => exact h t (List.mem_append_left _ (List.mem_filterMap.2 ⟨.tmp t, by simpa using hx, rfl⟩))
  | _ => rfl
theorem touchOf_mem {ρ : Operand → LV} {x : Operand} {id : Nat} (h : (ρ x).id? = some id) : ∀ {l : List Operand}, x ∈ l → id ∈ touchOf ρ l
  | y :: l, hx => by
    simp only [touchOf]
    rcases List.mem_cons.1 hx with rfl | hx
    · rw [h]; simp
    · have := touchOf_mem h hx
      split
      · exact List.mem_cons_of_mem _ this
      · exact this
theorem touchO_mem {ρ : Operand → LV} {op : Op} {x : Operand} {id : Nat} (h : (ρ x).id? = some id) (hx : x ∈ op.operands) (hm : ∀ y, op ≠ .move y ∧ op ≠ .assign y) : id ∈ touchO ρ op := by
  have := touchOf_mem h (l := op.operands.toList) (by simpa using hx)
  cases op <;> first | exact this | exact absurd rfl (hm _).1 | exact absurd rfl (hm _).2
theorem gv_yes {ν : Nu} {w : World} {σ : List Pl} {g : E} {v : LV} {r : Value} (hg : denB ν g = true) (h : LR ν w X σ v r) : LR ν w X σ (gv g v) r := by
  unfold gv
  cases isTrue g
  · simp only [cond_false, LR]
    exact ⟨fun _ => h, fun h' => by rw [hg] at h'; simp at h'⟩
  · exact h
theorem isTrue_of {g : E} (h : isTrue g = true) : g = .bool true := by
  unfold isTrue at h
  split at h
  · rfl
  · simp at h
theorem gv_no {ν : Nu} {w : World} {σ : List Pl} {g : E} {v : LV} (hg : denB ν g = false) : LR ν w X σ (gv g v) undef := by
  unfold gv
  cases hb : isTrue g
  · simp only [cond_false, LR]
    exact ⟨fun h' => by rw [hg] at h'; simp at h', fun _ => trivial⟩
  · rw [isTrue_of hb] at hg
    simp [denB] at hg

/-- a call of a function of closed data, all variables known -/
theorem call_core {ν : Nu} {S : St} {σ : List Pl} {a : Act} {w : World} (hR : Rel w0 X ν S σ a w) {vs : List LV} {o : Oper} {f : FuncId} {args : Array Operand} (ho : ∃ x tys, o.op = .call ⟨.value x, args, tys⟩ ∧ a.eval x = .func (.func f) #[] #[]) (hl : LRs ν w X σ vs (args.toList.map a.eval))
    {get : Nat → Option Ob} (hk : ∀ v ∈ vs, ∀ id, v.id? = some id → Known ν w X σ get id) {as_ : List LV} {ns : List Need} (hs : shutArgs get vs = some (as_, ns)) {sh : LV} (hsh : shapeOK sh = true) (hfl : (vs.any isRs && !flatR sh) = false)
    (hn : denNs ν ns) (hF : FnC P f (dvsOf ν as_) (dvOf ν sh)) {K : Act → World → Prop} {Q : Exit → Act → World → Prop}
    (hK : ∀ (r : Value) (w' : World), Rel w0 X ν S σ a w' → LR ν w' X σ sh r → K (a.put o.dst r) w') : o.wp P a w K Q := by
  obtain ⟨dst, op, type, pos, after, guard⟩ := o
  obtain ⟨x, tys, hop, hx⟩ := ho
  have hop : op = .call ⟨.value x, args, tys⟩ := hop
  subst hop
  have hd := fun (Y : Nat → Prop) hY hY2 => args_LR (Y := Y) hY hs hl hk hn hY2
  obtain ⟨hent, hF⟩ := hF
  have hexec : (execOp a.eval ⟨dst, .call ⟨.value x, args, tys⟩, type, pos, after, guard⟩).run P w = .ok (.enter f (args.toList.map a.eval).toArray) w := by
    have e : (args.map a.eval) = (args.toList.map a.eval).toArray := by
      apply Array.toList_inj.1
      simp
    simp only [execOp, Sem.run_bind, resolve, hx, Deferred.ofValue, Sem.run_pure, Result.andThen_ok, invoke, Array.append_empty, Array.empty_append]
    rw [e]
    exact hent _ _
  have hlow : ∀ b, Exc X σ b → b < w.heap.size := fun b hb => by
    rcases hb with hb | hb
    · exact Nat.lt_of_lt_of_le (hR.ex b hb) hR.old.size
    · exact (hR.own b hb).2
  have key : ∀ (Y : Nat → Prop), (∀ b, Y b → b < w.heap.size) → DVRs w Y (dvsOf ν as_) (args.toList.map a.eval) → (flatR sh = true ∨ Y = Exc X σ) →
      Oper.wp P ⟨dst, .call ⟨.value x, args, tys⟩, type, pos, after, guard⟩ a w K Q := fun Y hY hD hfr => by
    unfold Oper.wp
    rw [hexec]
    refine (hF w Y _ (hR.glo.step hR.old) hY hD).mono ?_
    rintro e w' ⟨v, rfl, hv, hb⟩
    exact hK v w' (hR.turn (Turn.of_below hb)) (res_LR hsh hfr hv)
  cases hany : vs.any isRs
  · exact key _ hlow (hd _ (fun b hb => hb) (fun v hv => .inl (Bool.eq_false_iff.2 (List.any_eq_false.1 hany v hv)))) (.inr rfl)
  · rw [hany] at hfl
    exact key (fun _ => False) (fun b hb => hb.elim) (hd _ (fun b hb => hb.elim) (fun v hv => .inr fun _ _ b _ _ _ _ hb => hb)) (.inl (by simpa using hfl))
theorem call_core2 {ν : Nu} {S : St} {σ : List Pl} {a : Act} {w : World} (hR : Rel w0 X ν S σ a w) {vs : List LV} {o : Oper} {f : FuncId} {args : Array Operand} (ho : ∃ x tys, o.op = .call ⟨.value x, args, tys⟩ ∧ a.eval x = .func (.func f) #[] #[]) (hl : LRs ν w X σ vs (args.toList.map a.eval))
    {get : Nat → Option Ob} (hk : ∀ v ∈ vs, ∀ id, v.id? = some id → Known ν w X σ get id) {as_ : List LV} {ns : List Need} (hs : shutArgs get vs = some (as_, ns)) {sh : LV} (hsh : shapeOK sh = true) {i : Nat} {ob : Ob} (hf : frz get vs = some (i, ob))
    (hn : denNs ν ns) (hF : FnC P f (dvsOf ν as_) (dvOf ν sh)) {K : Act → World → Prop} {Q : Exit → Act → World → Prop}
    (hK : ∀ (σ' : List Pl) (r : Value) (w' : World), Rel w0 X ν { S with L := setO S.L i ob } σ' a w' → LR ν w' X σ' sh r → K (a.put o.dst r) w') : o.wp P a w K Q := by
  obtain ⟨dst, op, type, pos, after, guard⟩ := o
  obtain ⟨x, tys, hop, hx⟩ := ho
  have hop : op = .call ⟨.value x, args, tys⟩ := hop
  subst hop
  obtain ⟨σ', hR', hD⟩ := frz_args hR hs hl hk hn hf
  obtain ⟨hent, hF⟩ := hF
  have hexec : (execOp a.eval ⟨dst, .call ⟨.value x, args, tys⟩, type, pos, after, guard⟩).run P w = .ok (.enter f (args.toList.map a.eval).toArray) w := by
    have e : (args.map a.eval) = (args.toList.map a.eval).toArray := by
      apply Array.toList_inj.1
      simp
    simp only [execOp, Sem.run_bind, resolve, hx, Deferred.ofValue, Sem.run_pure, Result.andThen_ok, invoke, Array.append_empty, Array.empty_append]
    rw [e]
    exact hent _ _
  have hlow : ∀ b, Exc X σ' b → b < w.heap.size := fun b hb => by
    rcases hb with hb | hb
    · exact Nat.lt_of_lt_of_le (hR'.ex b hb) hR'.old.size
    · exact (hR'.own b hb).2
  unfold Oper.wp
  rw [hexec]
  refine (hF w _ _ (hR.glo.step hR.old) hlow hD).mono ?_
  rintro e w' ⟨v, rfl, hv, hb⟩
  exact hK σ' v w' (hR'.turn (Turn.of_below hb)) (res_LR hsh (.inr rfl) hv)

/-- An operation, carried out in a state that agrees with the order of the text in all that it looks at. -/
theorem stepD0_run (hT : TOK P T) {ν : Nu} {S Si : St} {σ : List Pl} {a : Act} {w : World} {o : Oper} {e : Ev} (hR : Rel w0 X ν S σ a w) (hst : stepD0 T ops o Si = some e) (hE : EvOK P ν e)
    (hsl : ∀ t ∈ o.looksAt ops, getL S.F t = getL Si.F t) (hob : ∀ id ∈ e.touch, ∀ ob, getO Si.L id = some ob → getO S.L id = some ob) (hfr : ∀ ob, e.up = some (Si.L.length, ob) → getO S.L Si.L.length = some ⟨0, .hole⟩)
    {K : Act → World → Prop} {Q : Exit → Act → World → Prop}
    (hK : ∀ (S' : St) (σ' : List Pl) (r : Value) (w' : World), S'.F = (S.put o.dst e.v).F → S'.L = (match e.up with | none => S.L | some (j, ob) => setO S.L j ob) → Rel w0 X ν S' σ' (a.put o.dst r) w' → K (a.put o.dst r) w') :
    if Region.wanted o (yielded ops a.tmps) = true then o.wp P a w K Q else K (a.put o.dst undef) w := by
  have lu : LR ν w X σ (.tup []) undef := by
    simp only [LR]
    exact ⟨#[], rfl, by simp [LRs]⟩
  unfold stepD0 at hst
  rw [← guardE_same hsl] at hst
  split at hst
  · simp at hst
  · rename_i hg
    simp only [Option.some.injEq] at hst
    subst hst
    rw [guardE_ok hR hg]
    simp only [denB, Bool.false_eq_true, if_false]
    exact hK _ _ _ _ rfl (put_L _ _ _) (hR.put o.dst lu)
  rename_i g _ hg
  cases hgo : g.ok Si.n
  · rw [hgo] at hst; simp at hst
  rw [hgo] at hst
  simp only [cond_true] at hst
  rw [guardE_ok hR hg]
  have hρ : ∀ x ∈ o.op.operands, denB ν g = true → LR ν w X σ (strip g (Si.ev x)) (a.eval x) := fun x hx hgt => by
    rw [← ev_same hsl hx]
    exact strip_LR hgt (ev_LR hR.F x)
  unfold evOp at hst
  split at hst
  · rename_i f args hc
    split at hst
    · rename_i as_ ns sh m hs hsh
      cases hb : needsOk Si.n ns && LVs.ok Si.n as_ && sh.ok m
      · rw [hb] at hst; simp at hst
      rw [hb] at hst
      simp only [cond_true] at hst
      have hargs : ∀ x ∈ args.toList, x ∈ o.op.operands := fun x hx => by
        obtain ⟨y, tys, hop, _⟩ := isCall_eq hc
        rw [hop]
        simp only [Op.operands, Call.operands]
        simp only [Array.mem_append]
        exact .inr (by simpa using hx)
      have hl0 : denB ν g = true → ∀ (l : List Operand), (∀ x ∈ l, x ∈ o.op.operands) → LRs ν w X σ (l.map fun x => strip g (Si.ev x)) (l.map a.eval) := by
        intro hgt l
        induction l with
        | nil => intro _; simp [LRs]
        | cons x l ih =>
          intro hx
          simp only [List.map_cons, LRs]
          exact ⟨hρ x (hx x (by simp)) hgt, ih fun y hy => hx y (by simp [hy])⟩
      have hnm : ∀ y, o.op ≠ .move y ∧ o.op ≠ .assign y := fun y => by
        constructor <;> (intro e; rw [e] at hc; simp [isCall] at hc)
      have hce0 : denB ν g = true → ∃ x tys, o.op = .call ⟨.value x, args, tys⟩ ∧ a.eval x = .func (.func f) #[] #[] := fun hgt => by
        obtain ⟨y, tys, hop, hy⟩ := isCall_eq hc
        refine ⟨y, tys, hop, ?_⟩
        have := hρ y (by rw [hop]; simp [Op.operands, Call.operands]) hgt
        rw [hy] at this
        simpa only [LR] using this
      have hkn : denB ν g = true → touchO (fun x => strip g (Si.ev x)) o.op = e.touch → ∀ v ∈ args.toList.map (fun x => strip g (Si.ev x)), ∀ id, v.id? = some id → Known ν w X σ (getO Si.L) id := fun hgt ht v hv id hid => by
        obtain ⟨x, hx, rfl⟩ := List.mem_map.1 hv
        have lx := hρ x (hargs x hx) hgt
        exact fun ob h => known_of hR id (id_some lx hid) ob (hob id (by rw [← ht]; exact touchO_mem (ρ := fun x => strip g (Si.ev x)) hid (hargs x hx) hnm) ob h)
      cases hfz : (args.toList.map fun x => strip g (Si.ev x)).any isRs && !flatR sh
      · rw [hfz] at hst
        simp only [cond_false, Option.some.injEq] at hst
        subst hst
        cases hgt : denB ν g
        · simp only [Bool.false_eq_true, if_false]
          exact hK _ _ _ _ rfl (put_L _ _ _) (hR.put o.dst (gv_no hgt))
        · simp only [if_true]
          exact call_core hR (hce0 hgt) (hl0 hgt _ hargs) (get := getO Si.L) (hkn hgt rfl) hs (shapeR_ok hsh).1 hfz (hE.ns hgt) (hE.call _ _ _ _ _ rfl hgt) fun r w' hR' lr => hK _ _ _ _ rfl (put_L _ _ _) (hR'.put o.dst (gv_yes hgt lr))
      · rw [hfz] at hst
        simp only [cond_true] at hst
        split at hst
        · rename_i i ob hf
          have h' := cond_some hst
          cases hgi : isTrue g && Nat.blt i Si.L.length
          · rw [hgi] at hst; simp at hst
          subst h'
          simp only [Bool.and_eq_true] at hgi
          have hgt : denB ν g = true := by rw [isTrue_of hgi.1]; rfl
          simp only [hgt, if_true]
          exact call_core2 hR (hce0 hgt) (hl0 hgt _ hargs) (get := getO Si.L) (hkn hgt rfl) hs (shapeR_ok hsh).1 hf (hE.ns hgt) (hE.call _ _ _ _ _ rfl hgt) fun σ' r w' hR' lr => hK { ({ S with L := setO S.L i ob } : St).put o.dst sh with n := S.n } _ _ _ (by cases o.dst <;> rfl) (by cases o.dst <;> rfl) (by
            have := hR'.put o.dst lr
            cases hd : o.dst <;> rw [hd] at this <;> exact this)
        · simp at hst
    · simp at hst
  · rename_i hc
    split at hst
    · rename_i c x y hp
      split at hst
      · rename_i t ht
        split at hst
        · rename_i v hv
          simp only [Option.some.injEq] at hst
          subst hst
          obtain ⟨dst, op, type, pos, after, guard⟩ := o
          have hop : op = .pick c x y := by
            simp only [isPick] at hp
            split at hp
            · simp only [Option.some.injEq, Prod.mk.injEq] at hp
              obtain ⟨rfl, rfl, rfl⟩ := hp
              rfl
            · simp at hp
          subst hop
          cases hgt : denB ν g
          · simp only [Bool.false_eq_true, if_false]
            exact hK _ _ _ _ rfl (put_L _ _ _) (hR.put dst (gv_no hgt))
          · simp only [if_true]
            have mem : ∀ z, z = c ∨ z = x ∨ z = y → z ∈ (Op.pick c x y).operands := fun z hz => by simpa [Op.operands] using hz
            have lc := hρ c (mem c (.inl rfl)) hgt
            rw [ht] at lc
            simp only [LR] at lc
            have el : ∀ z, z = c ∨ z = x ∨ z = y → LR ν w X σ (Si.ev z) (a.eval z) := fun z hz => by
              rw [← ev_same hsl (mem z hz)]
              exact ev_LR hR.F z
            have lv := pk_LR hv (fun ht => strip_LR (by rw [den_and, hgt, ht]; rfl) (el x (.inr (.inl rfl)))) (fun hf => strip_LR (by rw [den_and, den_not, hgt, hf]; rfl) (el y (.inr (.inr rfl))))
            refine upon_of (n := .value (if denB ν t = true then a.eval x else a.eval y)) ?_ (.inl rfl) (hK _ _ _ _ rfl (put_L _ _ _) (hR.put dst (gv_yes hgt lv)))
            simp only [execOp, Sem.run_bind, lc, asBool, Sem.run_pure, Result.andThen_ok]
        · simp at hst
      · simp at hst
    · split at hst
      rotate_left
      · simp at hst
      rename_i ns v eff hop
      split at hst
      rotate_left
      · simp at hst
      rename_i v' up dc m hEf
      have h' := cond_some hst
      cases hb : needsOk Si.n ns
      · rw [hb] at hst; simp at hst
      subst h'
      -- what is passed over
      cases hgt : denB ν g
      · simp only [Bool.false_eq_true, if_false]
        have hnt : isTrue g = false := by
          cases hb : isTrue g
          · rfl
          · rw [isTrue_of hb] at hgt; simp [denB] at hgt
        unfold effD at hEf
        split at hEf
        · simp only [Option.some.injEq, Prod.mk.injEq] at hEf
          obtain ⟨rfl, rfl, rfl, rfl⟩ := hEf
          exact hK _ _ _ _ rfl (put_L _ _ _) (hR.put o.dst (gv_no hgt))
        all_goals
          rw [hnt] at hEf
          simp at hEf
      simp only [if_true]
      have hns := hE.ns hgt
      simp only at hns
      -- a value that is handed on
      by_cases hmv : ∃ y, o.op = .move y ∨ o.op = .assign y
      · obtain ⟨y, hy⟩ := hmv
        have ho : opRun T (fun x => strip g (Si.ev x)) (getO Si.L) Si.L.length o.op = some ⟨[], strip g (Si.ev y), .no⟩ := by
          rcases hy with hy | hy <;> rw [hy] <;> rfl
        rw [ho] at hop
        simp only [Option.some.injEq, Out.mk.injEq] at hop
        obtain ⟨rfl, rfl, rfl⟩ := hop
        simp only [effD, Option.some.injEq, Prod.mk.injEq] at hEf
        obtain ⟨rfl, rfl, rfl, rfl⟩ := hEf
        have ly := hρ y (by rcases hy with hy | hy <;> rw [hy] <;> simp [Op.operands]) hgt
        refine upon_of (n := .value (a.eval y)) ?_ (.inl rfl) (hK _ _ _ _ rfl (put_L _ _ _) (hR.put o.dst (gv_yes hgt ly)))
        rcases hy with hy | hy
        · simp only [execOp, hy, Sem.run_pure]
        · simp only [execOp, hy, Sem.run_pure]
      have hnm : ∀ y, o.op ≠ .move y ∧ o.op ≠ .assign y := fun y => ⟨fun e => hmv ⟨y, .inl e⟩, fun e => hmv ⟨y, .inr e⟩⟩
      have hk : ∀ x ∈ o.op.operands, ∀ id, (strip g (Si.ev x)).id? = some id → Known ν w X σ (getO Si.L) id := fun x hx id hid ob h =>
        known_of hR id (id_some (hρ x hx hgt) hid) ob (hob id (touchO_mem (ρ := fun x => strip g (Si.ev x)) hid hx hnm) ob h)
      have hown : ∀ b, Own σ b → b < w.heap.size := fun b hb => (hR.own b hb).2
      have hS := s_eff hT (val := a.eval) hop hns (fun x hx => hρ x hx hgt) hk hown
      have hdc := fun d (hd : dc = some d) => hE.dc rfl d hd
      simp only at hdc
      cases eff with
      | no =>
        simp only [effD, Option.some.injEq, Prod.mk.injEq] at hEf
        obtain ⟨rfl, rfl, rfl, rfl⟩ := hEf
        obtain ⟨r, hr, lr⟩ := s_calm hT o hop rfl (fun x hx => hρ x hx hgt) hk hns
        exact upon_of hr (.inl rfl) (hK _ _ _ _ rfl (put_L _ _ _) (hR.put o.dst (gv_yes hgt lr)))
      | new ob =>
        simp only [effD] at hEf
        have h' := cond_some hEf
        simp only [Prod.mk.injEq] at h'
        obtain ⟨rfl, rfl, rfl, rfl⟩ := h'
        exact effU_use hR (hS (getO_hole_at hR (hfr _ rfl))) fun σ' r w' hR' lr => hK _ _ _ _ (by cases o.dst <;> rfl) (put_L _ _ _) (hR'.put o.dst lr)
      | upd i ob =>
        simp only [effD] at hEf
        have h' := cond_some hEf
        simp only [Prod.mk.injEq] at h'
        obtain ⟨rfl, rfl, rfl, rfl⟩ := h'
        exact effU_use hR hS fun σ' r w' hR' lr => hK _ _ _ _ (by cases o.dst <;> rfl) (put_L _ _ _) (hR'.put o.dst lr)
      | newc d ob vf =>
        simp only [effD] at hEf
        have h' := cond_some hEf
        simp only [Prod.mk.injEq] at h'
        obtain ⟨rfl, rfl, rfl, rfl⟩ := h'
        exact effU_use hR (hS Si.n (hdc d rfl) (getO_hole_at hR (hfr _ rfl))) fun σ' r w' hR' lr => hK _ _ _ _ (by cases o.dst <;> rfl) (put_L _ _ _) (hR'.put o.dst lr)
      | updc d i ob vf =>
        simp only [effD] at hEf
        have h' := cond_some hEf
        simp only [Prod.mk.injEq] at h'
        obtain ⟨rfl, rfl, rfl, rfl⟩ := h'
        exact effU_use hR (hS Si.n (hdc d rfl)) fun σ' r w' hR' lr => hK _ _ _ _ (by cases o.dst <;> rfl) (put_L _ _ _) (hR'.put o.dst lr)

end
end Go.Proofs.YtmpnglbonmifiaaGreatDoor
