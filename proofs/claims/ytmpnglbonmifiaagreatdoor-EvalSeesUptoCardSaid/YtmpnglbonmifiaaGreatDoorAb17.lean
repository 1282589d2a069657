/- A symbolic run of Go code, seventeenth part: calls, guarded operations, regions in the order of the text. No condition. -/
import Derived.Test.YtmpnglbonmifiaaGreatDoorAb16
namespace Go.Proofs.YtmpnglbonmifiaaGreatDoor
open Go.RowKit
set_option linter.unusedSimpArgs false
set_option linter.unusedVariables false
section
variable {P : Program} {T : Tab} {w0 : World} {X : Nat → Prop} {Fin : Nu → Ex → St → Prop} {Ag : Nu → Nat → List D → Prop}

theorem any_ids {ν : Nu} {S : St} {σ : List Pl} {a : Act} {w : World} (h : Rel w0 X ν S σ a w) : ∀ {vs : List LV} {rs : List Value}, LRs ν w X σ vs rs → ∀ v ∈ vs, ∀ id, v.id? = some id → Known ν w X σ (getO S.L) id
  | [], [], _, v, hv, _, _ => by simp at hv
  | c :: cs, r :: rs, hl, v, hv, id, hid => by
    simp only [LRs] at hl
    rcases List.mem_cons.1 hv with rfl | hv
    · exact known_of h id (id_some hl.1 hid)
    · exact any_ids h hl.2 v hv id hid
  | [], _ :: _, hl, _, _, _, _ => by simp only [LRs] at hl
  | _ :: _, [], hl, _, _, _, _ => by simp only [LRs] at hl
theorem map_LRs {ν : Nu} {w : World} {σ : List Pl} {ρ : Operand → LV} {val : Operand → Value} (hρ : ∀ x, LR ν w X σ (ρ x) (val x)) : ∀ (l : List Operand), LRs ν w X σ (l.map ρ) (l.map val)
  | [] => by simp [LRs]
  | x :: l => by
    simp only [List.map_cons, LRs]
    exact ⟨hρ x, map_LRs hρ l⟩

theorem aggOr_ok {b : Bool} {l : List LV} {v : LV} (h : aggOr b l = some v) (hl : l.all LV.shut = true) : shapeB v = true := by
  unfold aggOr at h
  cases b
  · simp only [cond_false] at h
    split at h
    · rename_i x
      simp only [Option.some.injEq] at h
      subst h
      simp only [List.all_cons, List.all_nil, Bool.and_true] at hl
      cases x <;> first | exact hl | simp [LV.shut] at hl
    · simp at h
  · simp only [cond_true, Option.some.injEq] at h
    subst h
    exact hl
theorem lvK_shut {k : Nat} {e : E} {v : LV} (h : lvK k e = some v) : v.shut = true := by
  unfold lvK at h
  split at h <;> first | (simp only [Option.some.injEq] at h; subst h; rfl) | simp at h
theorem shapeKs_ok : ∀ (ks : List Nat) (n : Nat) (l : List LV) (m : Nat), shapeKs ks n = some (l, m) → l.all LV.shut = true ∧ n ≤ m
  | [], n, l, m, h => by
    simp only [shapeKs, Option.some.injEq, Prod.mk.injEq] at h
    obtain ⟨rfl, rfl⟩ := h
    exact ⟨rfl, Nat.le_refl _⟩
  | k :: ks, n, l, m, h => by
    simp only [shapeKs] at h
    split at h
    · rename_i v r m' hv hr
      simp only [Option.some.injEq, Prod.mk.injEq] at h
      obtain ⟨rfl, rfl⟩ := h
      obtain ⟨h1, h2⟩ := shapeKs_ok ks (n + 1) r m' hr
      simp only [List.all_cons, Bool.and_eq_true]
      exact ⟨⟨lvK_shut hv, h1⟩, by omega⟩
    · simp at h
theorem shapeT_ok {t : TypeId} {n m : Nat} {v : LV} (h : shapeT T t n = some (v, m)) : shapeB v = true ∧ n ≤ m := by
  unfold shapeT at h
  split at h
  · split at h
    · rename_i l m' hl
      split at h
      · rename_i v' hv
        simp only [Option.some.injEq, Prod.mk.injEq] at h
        obtain ⟨rfl, rfl⟩ := h
        obtain ⟨h1, h2⟩ := shapeKs_ok _ _ _ _ hl
        exact ⟨aggOr_ok hv h1, h2⟩
      · simp at h
    · simp at h
  · simp at h
theorem shapeTs_ok : ∀ (ts : List TypeId) (n : Nat) (l : List LV) (m : Nat), shapeTs T ts n = some (l, m) → l.all shapeB = true ∧ n ≤ m
  | [], n, l, m, h => by
    simp only [shapeTs, Option.some.injEq, Prod.mk.injEq] at h
    obtain ⟨rfl, rfl⟩ := h
    exact ⟨rfl, Nat.le_refl _⟩
  | t :: ts, n, l, m, h => by
    simp only [shapeTs] at h
    split at h
    · rename_i v n' hv
      split at h
      · rename_i r m' hr
        simp only [Option.some.injEq, Prod.mk.injEq] at h
        obtain ⟨rfl, rfl⟩ := h
        obtain ⟨h1, h2⟩ := shapeT_ok hv
        obtain ⟨h3, h4⟩ := shapeTs_ok ts n' r m' hr
        simp only [List.all_cons, Bool.and_eq_true]
        exact ⟨⟨h1, h3⟩, by omega⟩
      · simp at h
    · simp at h
theorem shapeR_ok {t : TypeId} {n m : Nat} {v : LV} (h : shapeR T t n = some (v, m)) : shapeOK v = true ∧ n ≤ m := by
  unfold shapeR at h
  split at h
  · split at h
    · rename_i l m' hl
      simp only [Option.some.injEq, Prod.mk.injEq] at h
      obtain ⟨rfl, rfl⟩ := h
      exact shapeTs_ok _ _ _ _ hl
    · simp at h
  · obtain ⟨h1, h2⟩ := shapeT_ok h
    refine ⟨?_, h2⟩
    cases v <;> first | exact h1 | simp [shapeB, LV.shut] at h1

/-- A call of a function of closed data. -/
theorem call_sound {ν : Nu} {S : St} {σ : List Pl} {a : Act} {w : World} (hR : Rel w0 X ν S σ a w) {ρ : Operand → LV} (hρ : ∀ x, LR ν w X σ (ρ x) (a.eval x)) {o : Oper} {f : FuncId} {args : Array Operand} (ho : isCall ρ o.op = some (f, args))
    {as_ : List LV} {ns : List Need} (hs : shutArgs (getO S.L) (args.toList.map ρ) = some (as_, ns)) {sh : LV} {m : Nat} (hsh : shapeR T o.type S.n = some (sh, m)) (hok : S.ok = true) (hfl : ((args.toList.map ρ).any isRs && !flatR sh) = false)
    (hn : denNs ν ns) {ds : Nu} (hm : S.n + ds.length = m) (hF : FnC P f (dvsOf ν as_) (dvOf (ν ++ ds) sh)) {K : Act → World → Prop} {Q : Exit → Act → World → Prop}
    (hK : ∀ (r : Value) (w' : World), Rel w0 X (ν ++ ds) { S with n := m } σ a w' → LR (ν ++ ds) w' X σ sh r → K (a.put o.dst r) w') : o.wp P a w K Q := by
  obtain ⟨dst, op, type, pos, after, guard⟩ := o
  obtain ⟨x, tys, hop, hx⟩ := isCall_eq ho
  have hop : op = .call ⟨.value x, args, tys⟩ := hop
  have hx : a.eval x = .func (.func f) #[] #[] := by
    have := hρ x
    rw [hx] at this
    simpa only [LR] using this
  subst hop
  have hl := map_LRs hρ args.toList
  have hd := fun (Y : Nat → Prop) hY hY2 => args_LR (Y := Y) hY hs hl (any_ids hR hl) hn hY2
  obtain ⟨hent, hF⟩ := hF
  have hexec : (execOp a.eval ⟨dst, .call ⟨.value x, args, tys⟩, type, pos, after, guard⟩).run P w = .ok (.enter f (args.toList.map a.eval).toArray) w := by
    have e : (args.map a.eval) = (args.toList.map a.eval).toArray := by
      apply Array.toList_inj.1
      simp
    simp only [execOp, Sem.run_bind, resolve, hx, Deferred.ofValue, Sem.run_pure, Result.andThen_ok, invoke, Array.append_empty, Array.empty_append]
    rw [e]
    exact hent _ _
  have hlow : ∀ b, Exc X σ b → b < w.heap.size := fun b hb => by
    rcases hb with hb | hb
    · exact Nat.lt_of_lt_of_le (hR.ex b hb) hR.old.size
    · exact (hR.own b hb).2
  have key : ∀ (Y : Nat → Prop), (∀ b, Y b → b < w.heap.size) → DVRs w Y (dvsOf ν as_) (args.toList.map a.eval) → (flatR sh = true ∨ Y = Exc X σ) →
      Oper.wp P ⟨dst, .call ⟨.value x, args, tys⟩, type, pos, after, guard⟩ a w K Q := fun Y hY hD hfr => by
    unfold Oper.wp
    rw [hexec]
    refine (hF w Y _ (hR.glo.step hR.old) hY hD).mono ?_
    rintro e w' ⟨v, rfl, hv, hb⟩
    have hR1 := (hR.turn (Turn.of_below hb)).more hok ds
    rw [hm] at hR1
    exact hK v w' hR1 (res_LR (shapeR_ok hsh).1 hfr hv)
  cases hany : (args.toList.map ρ).any isRs
  · exact key _ hlow (hd _ (fun b hb => hb) (fun v hv => .inl (Bool.eq_false_iff.2 (List.any_eq_false.1 hany v hv)))) (.inr rfl)
  · rw [hany] at hfl
    exact key (fun _ => False) (fun b hb => hb.elim) (hd _ (fun b hb => hb.elim) (fun v hv => .inr fun _ _ b _ _ _ _ hb => hb)) (.inl (by simpa using hfl))
/-- A call that is handed a row of one's own, given up. -/
theorem call_frz {ν : Nu} {S : St} {σ : List Pl} {a : Act} {w : World} (hR : Rel w0 X ν S σ a w) {ρ : Operand → LV} (hρ : ∀ x, LR ν w X σ (ρ x) (a.eval x)) {o : Oper} {f : FuncId} {args : Array Operand} (ho : isCall ρ o.op = some (f, args))
    {as_ : List LV} {ns : List Need} (hs : shutArgs (getO S.L) (args.toList.map ρ) = some (as_, ns)) {sh : LV} {m : Nat} (hsh : shapeR T o.type S.n = some (sh, m)) {i : Nat} {ob : Ob} (hok : ({ S with L := setO S.L i ob } : St).ok = true) (hf : frz (getO S.L) (args.toList.map ρ) = some (i, ob))
    (hn : denNs ν ns) {ds : Nu} (hm : S.n + ds.length = m) (hF : FnC P f (dvsOf ν as_) (dvOf (ν ++ ds) sh)) {K : Act → World → Prop} {Q : Exit → Act → World → Prop}
    (hK : ∀ (σ' : List Pl) (r : Value) (w' : World), Rel w0 X (ν ++ ds) { S with n := m, L := setO S.L i ob } σ' a w' → LR (ν ++ ds) w' X σ' sh r → K (a.put o.dst r) w') : o.wp P a w K Q := by
  obtain ⟨dst, op, type, pos, after, guard⟩ := o
  obtain ⟨x, tys, hop, hx⟩ := isCall_eq ho
  have hop : op = .call ⟨.value x, args, tys⟩ := hop
  have hx : a.eval x = .func (.func f) #[] #[] := by
    have := hρ x
    rw [hx] at this
    simpa only [LR] using this
  subst hop
  have hl := map_LRs hρ args.toList
  obtain ⟨σ', hR', hD⟩ := frz_args hR hs hl (any_ids hR hl) hn hf
  obtain ⟨hent, hF⟩ := hF
  have hexec : (execOp a.eval ⟨dst, .call ⟨.value x, args, tys⟩, type, pos, after, guard⟩).run P w = .ok (.enter f (args.toList.map a.eval).toArray) w := by
    have e : (args.map a.eval) = (args.toList.map a.eval).toArray := by
      apply Array.toList_inj.1
      simp
    simp only [execOp, Sem.run_bind, resolve, hx, Deferred.ofValue, Sem.run_pure, Result.andThen_ok, invoke, Array.append_empty, Array.empty_append]
    rw [e]
    exact hent _ _
  have hlow : ∀ b, Exc X σ' b → b < w.heap.size := fun b hb => by
    rcases hb with hb | hb
    · exact Nat.lt_of_lt_of_le (hR'.ex b hb) hR'.old.size
    · exact (hR'.own b hb).2
  unfold Oper.wp
  rw [hexec]
  refine (hF w _ _ (hR.glo.step hR.old) hlow hD).mono ?_
  rintro e w' ⟨v, rfl, hv, hb⟩
  have hR1 := (hR'.turn (Turn.of_below hb)).more hok ds
  have hm' : ({ S with L := setO S.L i ob } : St).n + ds.length = m := hm
  rw [hm'] at hR1
  exact hK σ' v w' hR1 (res_LR (shapeR_ok hsh).1 (.inr rfl) hv)

/-- going through a text -/
theorem next_sound (hT : TOK P T) {ν : Nu} {S : St} {σ : List Pl} {a : Act} {w : World} (hR : Rel w0 X ν S σ a w) {o : Oper} {it : Operand} (ho : isNext o.op = some it) {id ver ver' : Nat} {s p : E} (hit : S.ev it = .ptr id ver 0) (hob : getO S.L id = some ⟨ver', .iter s p⟩)
    (hb : Nat.beq ver ver' = true) {t f : Tr} {K : Act → World → Prop} {Q : Exit → Act → World → Prop} (hd : den P Fin Ag ν (.br (.lt p (mkLen s)) t f))
    (hKt : den P Fin Ag ν t → ∀ w', Rel w0 X ν { S with L := setO S.L id ⟨ver', .iter s (.add p (.runeW s p))⟩ } σ a w' → ∀ r, LR ν w' X σ (.tup [.b (.bool true), .i .i64 p, .i .i32 (.rune s p)]) r → K (a.put o.dst r) w')
    (hKf : den P Fin Ag ν f → ∀ r, LR ν w X σ (.tup [.b (.bool false)]) r → K (a.put o.dst r) w) : o.wp P a w K Q := by
  obtain ⟨dst, op, type, pos, after, guard⟩ := o
  have hop : op = .next it true := by
    simp only [isNext] at ho
    split at ho
    · simp only [Option.some.injEq] at ho
      subst ho
      rfl
    · simp at ho
  subst hop
  have lit := ev_LR hR.F it
  rw [hit] at lit
  obtain ⟨b, c, pl, hpl, hver, hat, hv, ho'⟩ := ptr_live (ρ := .junk) lit (known_of hR id (id_some lit rfl)) hob hb
  obtain ⟨b', c', hat', hp0, hh⟩ := ho'
  rw [hat] at hat'
  simp only [Option.some.injEq, Prod.mk.injEq] at hat'
  obtain ⟨rfl, rfl⟩ := hat'
  simp only [den, denB, decide_eq_true_eq, decide_eq_false_iff_not, den_len] at hd
  have hsz : b < w.heap.size := (hR.own b ⟨id, pl, c, hpl, hat⟩).2
  by_cases hlt : denI ν p < ((denS ν s).size : Int)
  · have hlt' : (denI ν p).toNat < (denS ν s).size := by omega
    let w' : World := { w with heap := w.heap.setIfInBounds b (.stringIter (denS ν s) ((denI ν p).toNat + (Utf8.decode (denS ν s) (denI ν p).toNat).2)) }
    have hw' : w'.heap[b]? = some (.stringIter (denS ν s) ((denI ν p).toNat + (Utf8.decode (denS ν s) (denI ν p).toNat).2)) := by
      simp [w', Array.getElem?_setIfInBounds, hsz]
    have ht : Turn (some b) w w' := ⟨rfl, rfl, rfl, by simp [w'], fun b1 hb1 hne => by
      have : b ≠ b1 := fun e => hne (by rw [e])
      simp [w', Array.getElem?_setIfInBounds, this]⟩
    have hset : σ.set id pl = σ := by
      apply List.ext_getElem?
      intro j
      by_cases e : id = j
      · subst e
        rw [List.getElem?_set_self (List.getElem?_eq_some_iff.1 hpl).1, hpl]
      · rw [List.getElem?_set_ne e]
    have hR' := hR.upd (pl' := pl) (ob := ⟨ver', .iter s (.add p (.runeW s p))⟩) hpl hver (.inl rfl) (.inl ⟨b, c, c, hat, hat, ht⟩) (by
      rw [hset]
      refine ⟨b, c, hat, ?_, ?_⟩
      · simp only [denI]; omega
      · rw [hw']
        simp only [denI]
        congr 2
        omega)
    rw [hset] at hR'
    refine upon_of (n := .value (.tuple #[.bool true, goInt (denI ν p).toNat, .int .i32 (Utf8.decode (denS ν s) (denI ν p).toNat).1])) (w' := w') ?_ (.inl rfl) (hKt (hd.1 hlt) w' hR' _ ?_)
    · simp only [execOp, Sem.run_bind, hv, Instr.next, getObj, Sem.run, hh, hlt', if_true, setObj, Result.andThen_ok]
      rfl
    · simp only [LR]
      refine ⟨_, rfl, ?_⟩
      simp only [LRs, LR, denB, denI, goInt, Int.toNat_of_nonneg hp0, and_true, true_and]
  · have hlt' : ¬ (denI ν p).toNat < (denS ν s).size := by omega
    refine upon_of (n := .value (.tuple #[.bool false])) (w' := w) ?_ (.inl rfl) (hKf (hd.2 hlt) _ ?_)
    · simp only [execOp, Sem.run_bind, hv, Instr.next, getObj, Sem.run, hh, hlt', if_false, Result.andThen_ok]
      rfl
    · simp only [LR]
      refine ⟨_, rfl, ?_⟩
      simp only [LRs, LR, denB, and_true, true_and]

theorem runOp_sound (hT : TOK P T) {o : Oper} {ν : Nu} {S : St} {σ : List Pl} {a : Act} {w : World} {k : St → Tr} (hd : den P Fin Ag ν (runOp T o S k)) (hR : Rel w0 X ν S σ a w) {K : Act → World → Prop} {Q : Exit → Act → World → Prop}
    (hK : ∀ (ν' : Nu) (S' : St) (σ' : List Pl) (a' : Act) (w' : World), den P Fin Ag ν' (k S') → Rel w0 X ν' S' σ' a' w' → K a' w') : o.wp P a w K Q := by
  have hρ : ∀ x, LR ν w X σ (S.ev x) (a.eval x) := ev_LR hR.F
  unfold runOp at hd
  split at hd
  · rename_i f args ho
    split at hd
    · rename_i as_ ns sh m hs hsh
      cases hok : S.ok
      · rw [hok] at hd; simp [den] at hd
      rw [hok] at hd
      simp only [Bool.not_true, cond_false] at hd
      cases hb : ((args.toList.map S.ev).any isRs && !flatR sh)
      · rw [hb] at hd
        simp only [cond_false] at hd
        obtain ⟨hn, hd⟩ := den_needs _ hd
        simp only [den] at hd
        obtain ⟨ds, hm, hF, hd⟩ := hd
        exact call_sound hR hρ ho hs hsh hok hb (hn rfl) hm (hF rfl) fun r w' hR' lr => hK _ _ _ _ _ hd (hR'.put o.dst lr)
      · rw [hb] at hd
        simp only [cond_true] at hd
        split at hd
        · rename_i i ob hf
          obtain ⟨hn, hd⟩ := den_needs _ hd
          simp only [den] at hd
          obtain ⟨ds, hm, hF, hd⟩ := hd
          refine call_frz hR hρ ho hs hsh ?_ hf (hn rfl) hm (hF rfl) fun σ' r w' hR' lr => hK _ _ _ _ _ hd (hR'.put o.dst lr)
          simp only [St.ok, Bool.and_eq_true] at hok ⊢
          exact ⟨hok.1, obsOk_set _ _ _ _ hok.2 (frz_ok hf _)⟩
        · simp [den] at hd
    · simp [den] at hd
  · rename_i ho
    split at hd
    · rename_i it hit
      split at hd
      · rename_i id ver hv
        split at hd
        · rename_i ver' s p hob
          cases hb : Nat.beq ver ver'
          · rw [hb] at hd; simp [den] at hd
          rw [hb] at hd
          simp only [cond_true] at hd
          exact next_sound hT hR hit hv hob hb hd (fun hd' w' hR' r lr => hK _ _ _ _ _ hd' (hR'.put o.dst lr)) (fun hd' r lr => hK _ _ _ _ _ hd' (hR.put o.dst lr))
        · simp [den] at hd
      · simp [den] at hd
    · split at hd
      · rename_i c x y hp
        split at hd
        · rename_i t hc
          split at hd
          · rename_i v hv
            obtain ⟨dst, op, type, pos, after, guard⟩ := o
            have hop : op = .pick c x y := by
              simp only [isPick] at hp
              split at hp
              · simp only [Option.some.injEq, Prod.mk.injEq] at hp
                obtain ⟨rfl, rfl, rfl⟩ := hp
                rfl
              · simp at hp
            subst hop
            have lc := hρ c
            rw [hc] at lc
            simp only [LR] at lc
            have lv := pk_LR hv (fun ht => strip_LR ht (hρ x)) (fun hf => strip_LR (by rw [den_not, hf]; rfl) (hρ y))
            refine upon_of (n := .value (if denB ν t = true then a.eval x else a.eval y)) ?_ (.inl rfl) (hK _ _ _ _ _ hd (hR.put dst lv))
            simp only [execOp, Sem.run_bind, lc, asBool, Sem.run_pure, Result.andThen_ok]
          · simp [den] at hd
        · simp [den] at hd
      · split at hd
        · rename_i ns v e hop
          cases hok : isNo e || needsOk S.n ns
          · rw [hok] at hd; simp [den] at hd
          rw [hok] at hd
          simp only [cond_true] at hd
          obtain ⟨hn, hd⟩ := den_needs _ hd
          exact op_sound hT hR hop (by simpa using hok) (hn rfl) hd fun ν' S' v' σ' r w' hd' hR' lr hF => hK _ _ _ _ _ hd' (hR'.put o.dst lr)
        · simp [den] at hd

theorem runG_sound (hT : TOK P T) {o : Oper} {g : E} {ν : Nu} {S : St} {σ : List Pl} {a : Act} {w : World} {k : St → Tr} {other : Unit → Tr} (hd : den P Fin Ag ν (runG T o g S k other)) (hR : Rel w0 X ν S σ a w) {K : Act → World → Prop} {Q : Exit → Act → World → Prop}
    (hK : ∀ (ν' : Nu) (S' : St) (σ' : List Pl) (a' : Act) (w' : World), den P Fin Ag ν' (k S') → Rel w0 X ν' S' σ' a' w' → K a' w')
    (hother : den P Fin Ag ν (other ()) → (denB ν g = true → o.wp P a w K Q) ∧ (denB ν g = false → K (a.put o.dst undef) w)) :
    (denB ν g = true → o.wp P a w K Q) ∧ (denB ν g = false → K (a.put o.dst undef) w) := by
  have hρ : denB ν g = true → ∀ x, LR ν w X σ (strip g (S.ev x)) (a.eval x) := fun hg x => strip_LR hg (ev_LR hR.F x)
  have no : ∀ (ν' : Nu) (w' : World) (v : LV), denB ν' g = false → LR ν' w' X σ (.g g v) undef := fun ν' w' v hg => by
    simp only [LR]
    exact ⟨fun h => by rw [hg] at h; simp at h, fun _ => trivial⟩
  have yes : ∀ (ν' : Nu) (w' : World) (v : LV) (r : Value), denB ν' g = true → LR ν' w' X σ v r → LR ν' w' X σ (.g g v) r := fun ν' w' v r hg hr => by
    simp only [LR]
    exact ⟨fun _ => hr, fun h => by rw [hg] at h; simp at h⟩
  unfold runG at hd
  split at hd
  · rename_i f args ho
    split at hd
    · rename_i as_ ns sh m hs hsh
      cases hb : !S.ok || !g.ok S.n || ((args.toList.map fun x => strip g (S.ev x)).any isRs && !flatR sh)
      · rw [hb] at hd
        simp only [cond_false] at hd
        simp only [Bool.or_eq_false_iff, Bool.not_eq_false'] at hb
        obtain ⟨hn, hd⟩ := den_needs _ hd
        simp only [den] at hd
        obtain ⟨ds, hm, hF, hd⟩ := hd
        have hgd : denB (ν ++ ds) g = denB ν g := denB_app ν ds g (by rw [hR.n]; exact hb.1.2)
        refine ⟨fun hg => call_sound hR (hρ hg) ho hs hsh hb.1.1 hb.2 (hn hg) hm (hF hg) fun r w' hR' lr => hK _ _ _ _ _ hd (hR'.put o.dst (yes _ _ _ _ (by rw [hgd]; exact hg) lr)), fun hg => ?_⟩
        have hR' := hR.more hb.1.1 ds
        rw [hm] at hR'
        exact hK _ _ _ _ _ hd (hR'.put o.dst (no _ _ _ (by rw [hgd]; exact hg)))
      · rw [hb] at hd; simp [den] at hd
    · exact hother hd
  · rename_i ho
    split at hd
    · rename_i c x y hp
      split at hd
      · rename_i t hc
        split at hd
        · rename_i v hv
          obtain ⟨dst, op, type, pos, after, guard⟩ := o
          have hop : op = .pick c x y := by
            simp only [isPick] at hp
            split at hp
            · simp only [Option.some.injEq, Prod.mk.injEq] at hp
              obtain ⟨rfl, rfl, rfl⟩ := hp
              rfl
            · simp at hp
          subst hop
          refine ⟨fun hg => ?_, fun hg => hK _ _ _ _ _ hd (hR.put dst (no _ _ _ hg))⟩
          have lc := hρ hg c
          rw [hc] at lc
          simp only [LR] at lc
          have lv := pk_LR hv (fun ht => strip_LR (by rw [den_and, hg, ht]; rfl) (ev_LR hR.F x)) (fun hf => strip_LR (by rw [den_and, den_not, hg, hf]; rfl) (ev_LR hR.F y))
          refine upon_of (n := .value (if denB ν t = true then a.eval x else a.eval y)) ?_ (.inl rfl) (hK _ _ _ _ _ hd (hR.put dst (yes _ _ _ _ hg lv)))
          simp only [execOp, Sem.run_bind, lc, asBool, Sem.run_pure, Result.andThen_ok]
        · simp [den] at hd
      · simp [den] at hd
    · split at hd
      · rename_i ns v e hop
        cases he : isNo e
        · rw [he] at hd
          exact hother hd
        rw [he] at hd
        simp only [cond_true] at hd
        have he : e = .no := by
          cases e <;> first | rfl | simp [isNo] at he
        subst he
        obtain ⟨hn, hd⟩ := den_needs _ hd
        refine ⟨fun hg => ?_, fun hg => hK _ _ _ _ _ hd (hR.put o.dst (no _ _ _ hg))⟩
        obtain ⟨r, hr, lr⟩ := s_calm hT o hop rfl (fun x _ => hρ hg x) (fun x _ id hid => known_of hR id (id_some (hρ hg x) hid)) (hn hg)
        exact upon_of hr (.inl rfl) (hK _ _ _ _ _ hd (hR.put o.dst (yes _ _ _ _ hg lr)))
      · exact hother hd

theorem tmp_of {ν : Nu} {S : St} {σ : List Pl} {a : Act} {w : World} (hR : Rel w0 X ν S σ a w) {d : Nat} {v : LV} (h : getL S.F d = v) (hv : v ≠ .junk) : ∃ r, a.tmps[d]? = some r ∧ LR ν w X σ v r := by
  by_cases hd : d < a.tmps.size
  · refine ⟨a.tmps[d], by simp [hd], ?_⟩
    rw [← h]
    exact LRs_get hR.F d _ (by simp [hd])
  · have hl := LRs_len hR.F
    simp only [Array.length_toList] at hl
    have := getL_out S.F d (by omega)
    rw [this] at h
    exact absurd h.symm hv
theorem guardE_ok {ops : Array Oper} {o : Oper} {ν : Nu} {S : St} {σ : List Pl} {a : Act} {w : World} (hR : Rel w0 X ν S σ a w) {g : E} (h : guardE ops S.F o.guard = some g) : Region.wanted o (yielded ops a.tmps) = denB ν g := by
  unfold guardE at h
  unfold Region.wanted
  split at h
  · rename_i hg
    simp only [Option.some.injEq] at h
    subst h
    rw [hg]
    rfl
  · rename_i j want hg
    rw [hg]
    split at h
    · simp at h
    rename_i d hd
    split at h
    · rename_i e hF
      simp only [Option.some.injEq] at h
      subst h
      obtain ⟨r, hr, lr⟩ := tmp_of hR hF (by simp)
      simp only [LR] at lr
      subst lr
      have : yielded ops a.tmps j = some (denB ν e) := by simp [yielded, hd, hr]
      simp only [this, wantE]
      cases want <;> cases hh : denB ν e <;> simp [den_not, hh]
    · rename_i g' e hF
      simp only [Option.some.injEq] at h
      subst h
      obtain ⟨r, hr, lr⟩ := tmp_of hR hF (by simp)
      simp only [LR] at lr
      rw [den_and]
      cases hg' : denB ν g'
      · have := lr.2 hg'
        subst this
        have : yielded ops a.tmps j = none := by simp [yielded, hd, hr, undef]
        simp [this]
      · have := lr.1 hg'
        subst this
        have : yielded ops a.tmps j = some (denB ν e) := by simp [yielded, hd, hr]
        simp only [this, wantE]
        cases want <;> cases hh : denB ν e <;> simp [den_not, hh]
    · rename_i hF
      simp only [Option.some.injEq] at h
      subst h
      obtain ⟨r, hr, lr⟩ := tmp_of hR hF (by simp)
      simp only [LR] at lr
      obtain ⟨ar, rfl, la⟩ := lr
      have : yielded ops a.tmps j = none := by simp [yielded, hd, hr]
      simp [this, denB]
    · simp at h

theorem runOps_sound (hT : TOK P T) (ops : Array Oper) {k : St → Tr} {Q : Exit → Act → World → Prop}
    (hK : ∀ (ν' : Nu) (S' : St) (σ' : List Pl) (a' : Act) (w' : World), den P Fin Ag ν' (k S') → Rel w0 X ν' S' σ' a' w' → Q .normal a' w') :
    ∀ (rest : List Oper) (ν : Nu) (S : St) (σ : List Pl) (a : Act) (w : World), den P Fin Ag ν (runOps T ops rest S k) → Rel w0 X ν S σ a w → wpList P ops Q rest a w
  | [], ν, S, σ, a, w, hd, hR => hK ν S σ a w hd hR
  | o :: rest, ν, S, σ, a, w, hd, hR => by
    have ih := runOps_sound hT ops hK rest
    have lu : LR ν w X σ (.tup []) undef := by
      simp only [LR]
      exact ⟨#[], rfl, by simp [LRs]⟩
    simp only [runOps] at hd
    simp only [wpList]
    split at hd
    · simp [den] at hd
    · rename_i hg
      rw [guardE_ok hR hg]
      simp only [denB, if_true]
      exact .inl (runOp_sound hT hd hR fun ν' S' σ' a' w' hd' hR' => ih ν' S' σ' a' w' hd' hR')
    · rename_i hg
      rw [guardE_ok hR hg]
      simp only [denB, Bool.false_eq_true, if_false]
      exact ih ν _ σ _ w hd (hR.put o.dst lu)
    · rename_i g h1 h2 hg
      have hw := guardE_ok hR hg
      have := runG_sound hT (Q := Q) hd hR (fun ν' S' σ' a' w' hd' hR' => ih ν' S' σ' a' w' hd' hR') (fun hd' => by
        simp only [den] at hd'
        refine ⟨fun hgt => ?_, fun hgf => ?_⟩
        rotate_left
        · have hR3 : Rel w0 X ν (knownN ops S o.guard) σ a w := by
            unfold knownN
            split
            · rename_i j want hog
              split
              · rename_i d hd0
                split
                · rename_i e he
                  unfold guardE at hg
                  rw [hog] at hg
                  simp only [hd0, he, Option.some.injEq] at hg
                  subst hg
                  refine hR.reset d (fun r hr => ?_)
                  obtain ⟨r', hr', lr⟩ := tmp_of hR he (by simp)
                  rw [hr] at hr'
                  simp only [Option.some.injEq] at hr'
                  subst hr'
                  simp only [LR] at lr ⊢
                  rw [lr]
                  simp only [wantE] at hgf
                  cases want <;> simp_all [den_not, denB]
                · exact hR
              · exact hR
            · exact hR
          exact ih ν _ σ _ w (hd'.2 hgf) (hR3.put o.dst lu)
        have hR1 : Rel w0 X ν (ungS g S) σ a w :=
          { defers := hR.defers, F := ung_LRs hgt hR.F, len := hR.len, L := hR.L, inj := hR.inj, own := hR.own, old := hR.old, ex := hR.ex, glo := hR.glo, n := hR.n }
        have hR2 : Rel w0 X ν (knownG ops (ungS g S) o.guard) σ a w := by
          unfold knownG
          split
          · rename_i j want hog
            split
            · rename_i d hd0
              refine hR1.reset d (fun r hr => ?_)
              rw [hgt] at hw
              simp only [Region.wanted, hog, yielded, hd0, Option.bind_some, hr, beq_iff_eq] at hw
              split at hw
              · rename_i b' hb'
                simp only [Option.some.injEq] at hw hb'
                subst hw hb'
                simp only [LR, denB]
              · simp at hw
            · exact hR1
          · exact hR1
        exact runOp_sound hT (hd'.1 hgt) hR2 fun ν' S' σ' a' w' hd' hR' => ih ν' S' σ' a' w' hd' hR')
      rw [hw]
      cases hgb : denB ν g
      · simp only [Bool.false_eq_true, if_false]
        exact this.2 hgb
      · simp only [if_true]
        exact .inl (this.1 hgb)
end
end Go.Proofs.YtmpnglbonmifiaaGreatDoor
