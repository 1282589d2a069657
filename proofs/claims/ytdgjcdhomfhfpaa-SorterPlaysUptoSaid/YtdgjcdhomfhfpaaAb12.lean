/- A symbolic run of Go code, twelfth part: all operations that leave memory alone. No condition. -/
import Derived.Test.YtdgjcdhomfhfpaaAb11
namespace Go.Proofs.Ytdgjcdhomfhfpaa
open Go.RowKit
set_option linter.unusedSimpArgs false
set_option linter.unusedVariables false
section
variable {P : Program} {ν : Nu} {w : World} {X : Nat → Prop} {σ : List Pl}

theorem s_convert {T : Tab} (hT : TOK P T) {ρ : Operand → LV} {get : Nat → Option Ob} {fresh : Nat} {src dst : TypeId} {x : Operand} {out : Out} (h : opRun T ρ get fresh (.convert src dst x) = some out) {r : Value} (lx : LR ν w X σ (ρ x) r)
    (hk : ∀ id, (ρ x).id? = some id → Known ν w X σ get id) : out.e = .no → denNs ν out.needs → ∃ v, (convert src dst r).run P w = .ok v w ∧ LR ν w X σ out.v v := by
  simp only [opRun] at h
  split at h
  rotate_left
  · simp at h
  rename_i ts td hgs hgd
  have hs := (hT.get hgs).1
  have hd := (hT.get hgd).1
  have hsrc : (P.underlying src).isSome = true := by rw [hs]; rfl
  split at h
  · rename_i k k' n hdesc hx
    rw [hx] at lx
    rw [hdesc] at hd
    simp only [LR] at lx
    subst lx
    simp only [Option.some.injEq] at h
    subst h
    intro _ _
    refine ⟨.int k (k.wrap (denI ν n)), ?_, by simp only [LR, den_wr]⟩
    simp only [convert, Sem.run_bind, run_und hs, run_und hd, Result.andThen_ok]
    cases ts.desc <;> rfl
  · rename_i e hdesc hx
    rw [hx] at lx
    rw [hdesc] at hd
    simp only [LR] at lx
    subst lx
    simp only [Option.some.injEq] at h
    subst h
    intro _ _
    refine ⟨.string (denS ν e), ?_, by simp only [LR]⟩
    simp only [convert, Sem.run_bind, run_und hs, run_und hd, Result.andThen_ok]
    cases ts.desc <;> rfl
  · split at h
    · simp only [Option.some.injEq] at h
      subst h
      intro he
      simp at he
    · simp at h
  · rename_i hdesc hnot
    rw [hdesc] at hd
    split at h
    · rename_i el hsd
      rw [hsd] at hs
      split at h
      · rename_i _ _ _ _ c ns hge hc
        have he := (hT.get hge).1
        simp only [Option.some.injEq] at h
        subst h
        intro _ hn
        exact ⟨_, s_bytes hT hs he hd hc lx hk (fun n hm => hn n (by simp [hm])) (hn (.bytesC c) (by simp)), by simp only [LR]⟩
      · simp at h
    · simp at h
  · simp at h

theorem s_lenS {get : Nat → Option Ob} {v : LV} {e : E} (h : lenS get v = some e) {r : Value} (lx : LR ν w X σ v r) {t el : TypeId} (hu : P.underlying t = some (.slice el)) (hk : ∀ id, v.id? = some id → Known ν w X σ get id) (ty : TypeId) :
    (Builtin.len_ #[t] ty #[r]).run P w = .ok (.int .i64 (denI ν e)) w := by
  have go : ∀ (a : Option Addr) (len rc : Nat), (Builtin.len_ #[t] ty #[.slice a len rc]).run P w = .ok (.int .i64 len) w := fun a len rc => by
    simp [Builtin.len_, run_und hu, goInt]
  unfold lenS at h
  split at h
  · rename_i id ver o n
    split at h
    · rename_i ver' ob hob
      cases hb : Nat.beq ver ver'
      · rw [hb] at h; simp at h
      rw [hb] at h
      simp only [cond_true, Option.some.injEq] at h
      subst h
      obtain ⟨a, len, rc, pl, hpl, hver, rfl, hrs, _⟩ := rs_live lx (hk id rfl) hob hb
      rw [go]
      rcases hrs with ⟨_, rfl, rfl, rfl, hn, _⟩ | ⟨_, _, _, _, _, hn, _, rfl, _, _⟩
      · rw [hn]; rfl
      · rw [Int.toNat_of_nonneg hn]
    · simp at h
  · rename_i c
    simp only [Option.some.injEq] at h
    subst h
    simp only [LR] at lx
    rcases CVR_inv lx with ⟨hnil, ad, rfl⟩ | ⟨b, o, sz, cap, g, rfl, _⟩
    · rw [go]; simp [denI, hnil]
    · rw [go]; simp [denI]
  · simp only [Option.some.injEq] at h
    subst h
    simp only [LR] at lx
    subst lx
    rw [go]
    simp [denI]
  · simp at h

theorem put_LRs : ∀ (lvs : List LV) (vs : List Value) (k off : Nat) (cs : List LV) (a : Array Value), LRs ν w X σ lvs vs → LRs ν w X σ cs a.toList →
    LRs ν w X σ (putL cs (off + k) lvs) ((vs.zipIdx k).foldl (fun cs (c, j) => cs.setIfInBounds (off + j) c) a).toList
  | [], [], k, off, cs, a, _, h => by simpa [putL] using h
  | c :: lvs, v :: vs, k, off, cs, a, hl, h => by
    simp only [LRs] at hl
    simp only [putL, List.zipIdx_cons, List.foldl_cons]
    have h1 : LRs ν w X σ (setL cs (off + k) c) (a.setIfInBounds (off + k) v).toList := by
      rw [Array.toList_setIfInBounds]
      exact LRs_set h _ _ _ hl.1
    have := put_LRs lvs vs (k + 1) off _ _ hl.2 h1
    rw [show off + (k + 1) = off + k + 1 from by omega] at this
    exact this
  | [], _ :: _, _, _, _, _, hl, _ => by simp only [LRs] at hl
  | _ :: _, [], _, _, _, _, hl, _ => by simp only [LRs] at hl

theorem cells_LRs {v : LV} (hv : v.cells.all LV.one = true) {r : Value} (h : LR ν w X σ v r) : LRs ν w X σ v.cells r.cells.toList := by
  have one : ∀ r' : Value, r'.cells = #[r'] → LR ν w X σ v r' → LRs ν w X σ [v] r'.cells.toList := fun r' hr h' => by
    rw [hr]
    simp only [LRs]
    exact ⟨h', trivial⟩
  cases v with
  | agg cs =>
    simp only [LR] at h
    obtain ⟨a, rfl, ha⟩ := h
    exact ha
  | b e =>
    refine one r ?_ h
    simp only [LR] at h
    subst h
    rfl
  | i k e =>
    refine one r ?_ h
    simp only [LR] at h
    subst h
    rfl
  | s e =>
    refine one r ?_ h
    simp only [LR] at h
    subst h
    rfl
  | k x =>
    refine one r ?_ h
    simp only [LR] at h
    subst h
    simp only [LV.cells, List.all_cons, List.all_nil, Bool.and_true, LV.one] at hv
    cases r <;> first | rfl | simp [valOne] at hv
  | fn f cs =>
    refine one r ?_ h
    simp only [LR] at h
    obtain ⟨_, rfl, _⟩ := h
    rfl
  | nl c n =>
    refine one r ?_ h
    simp only [LR] at h
    obtain ⟨_, rfl, _⟩ := h
    rfl
  | vs c =>
    refine one r ?_ h
    simp only [LR] at h
    rcases CVR_inv h with ⟨_, _, rfl⟩ | ⟨_, _, _, _, _, rfl, _⟩ <;> rfl
  | o e =>
    refine one r ?_ h
    simp only [LR] at h
    exact cells_of_one h.one
  | vp c i f =>
    refine one r ?_ h
    simp only [LR] at h
    obtain ⟨_, _, _, rfl, _⟩ := h
    rfl
  | ifc a b =>
    refine one r ?_ h
    simp only [LR] at h
    obtain ⟨_, rfl, _⟩ := h
    rfl
  | mp a b =>
    refine one r ?_ h
    simp only [LR] at h
    obtain ⟨_, _, rfl, _⟩ := h
    rfl
  | ptr a b c =>
    refine one r ?_ h
    simp only [LR] at h
    obtain ⟨_, _, rfl, _⟩ := h
    rfl
  | rp a b c d =>
    refine one r ?_ h
    simp only [LR] at h
    obtain ⟨_, _, rfl, _⟩ := h
    rfl
  | rs a b c d =>
    refine one r ?_ h
    simp only [LR] at h
    obtain ⟨_, _, _, _, rfl, _⟩ := h
    rfl
  | tup _ => simp [LV.cells, LV.one] at hv
  | junk => simp [LV.cells, LV.one] at hv
  | g _ _ => simp [LV.cells, LV.one] at hv

theorem fill_LRs {place : Nat → Option (Nat × Nat)} {ρ : Operand → LV} {val : Operand → Value} : ∀ (ps : List (Nat × Operand)) (cs : List LV) (a : Array Value) (l : List LV),
    fillL place cs (ps.map fun (i, x) => (i, ρ x)) = some l → LRs ν w X σ cs a.toList → (∀ p ∈ ps, LR ν w X σ (ρ p.2) (val p.2)) →
    ∃ a', Instr.fill place a (ps.map fun (i, x) => (i, val x)) = some a' ∧ LRs ν w X σ l a'.toList
  | [], cs, a, l, h, ha, _ => by
    simp only [List.map_nil, fillL, Option.some.injEq] at h
    subst h
    exact ⟨a, rfl, ha⟩
  | (i, x) :: ps, cs, a, l, h, ha, hp => by
    simp only [List.map_cons, fillL] at h
    split at h
    · simp at h
    rename_i off size hpl
    cases hb : Nat.beq (ρ x).cells.length size && Nat.ble (off + size) cs.length && (ρ x).cells.all LV.one
    · rw [hb] at h; simp at h
    rw [hb] at h
    simp only [cond_true] at h
    simp only [Bool.and_eq_true] at hb
    obtain ⟨⟨h1, h2⟩, h3⟩ := hb
    have h1 := Nat.eq_of_beq_eq_true h1
    have h2 : off + size ≤ cs.length := by simpa using h2
    have lx := cells_LRs h3 (hp (i, x) (by simp))
    have len1 := LRs_len lx
    have len2 := LRs_len ha
    simp only [Array.length_toList] at len1 len2
    have ha' := put_LRs _ _ 0 off cs a lx ha
    obtain ⟨a', hf, la⟩ := fill_LRs ps _ _ l h ha' (fun p hm => hp p (by simp [hm]))
    refine ⟨a', ?_, la⟩
    simp only [List.map_cons, Instr.fill, hpl]
    rw [if_neg (by simp; omega)]
    rw [← hf]
    congr 1
    rw [← Array.foldl_toList]
    simp

theorem cond_some' {α : Type} {c : Bool} {a : Option α} {b : α} (h : (bif c then a else none) = some b) : a = some b := by
  cases c
  · simp at h
  · exact h
theorem cond_some {α : Type} {c : Bool} {a b : α} (h : (bif c then some a else none) = some b) : a = b := by
  cases c
  · simp at h
  · simpa using h

theorem MapR.len {vk : Nat} {Y : Nat → Prop} : ∀ {es : List MapEntry} {c : List (List CV)}, MapR w Y vk es c → es.length = c.length
  | [], [], _ => rfl
  | e :: es, el :: c, h => by
    simp only [MapR] at h
    simp [MapR.len h.2]
  | [], _ :: _, h => by simp [MapR] at h
  | _ :: _, [], h => by simp [MapR] at h
theorem MapR.at {vk : Nat} {Y : Nat → Prop} : ∀ {es : List MapEntry} {c : List (List CV)} (_ : MapR w Y vk es c) (i : Nat) (e : MapEntry), es[i]? = some e → ∃ (s : ByteArray) (cv : CV), c[i]? = some [.v (.string s), cv] ∧ e.key = .string s ∧ kindC cv = vk ∧ CVR w Y cv e.val
  | [], [], _, i, e, hi => by simp at hi
  | e :: es, el :: c, h, 0, e', hi => by
    simp only [MapR] at h
    simp only [List.getElem?_cons_zero, Option.some.injEq] at hi
    subst hi
    obtain ⟨⟨s, cv, rfl, h2, h3, h4⟩, _⟩ := h
    exact ⟨s, cv, rfl, h2, h3, h4⟩
  | e :: es, el :: c, h, i + 1, e', hi => by
    simp only [MapR] at h
    simpa using MapR.at h.2 i e' (by simpa using hi)
  | [], _ :: _, h, _, _, _ => by simp [MapR] at h
  | _ :: _, [], h, _, _, _ => by simp [MapR] at h
/-- a key, looked for among the entries -/
theorem findNow_R {vk : Nat} {Y : Nat → Prop} (k : ByteArray) : ∀ (es : List MapEntry) (c : List (List CV)) (i : Nat), MapR w Y vk es c → Instr.findNow .string (.string k) es i = some ((es[mposL c k]?).map fun e => (i + mposL c k, e.val))
  | [], [], i, _ => by simp [Instr.findNow]
  | e :: es, el :: c, i, h => by
    simp only [MapR] at h
    obtain ⟨⟨s, cv, rfl, h2, h3, h4⟩, h5⟩ := h
    simp only [Instr.findNow, h2, Instr.sameNow]
    cases hb : k == s
    · have : mposL ([.v (.string s), cv] :: c) k = mposL c k + 1 := by simp [mposL, List.findIdx_cons, CV.str, hb]
      rw [this, findNow_R k es c (i + 1) h5]
      simp only [List.getElem?_cons_succ]
      congr 2
      funext e'
      rw [show i + 1 + mposL c k = i + (mposL c k + 1) by omega]
    · have : mposL ([.v (.string s), cv] :: c) k = 0 := by simp [mposL, List.findIdx_cons, CV.str, hb]
      rw [this]
      simp
  | [], _ :: _, _, h => by simp [MapR] at h
  | _ :: _, [], _, h => by simp [MapR] at h
theorem mp_live {get : Nat → Option Ob} {id ver : Nat} {r : Value} (lx : LR ν w X σ (.mp id ver) r) (hk : Known ν w X σ get id) {ob : Ob} (hob : get id = some ob) (hv : Nat.beq ver ob.ver = true) :
    ∃ b c pl, σ[id]? = some pl ∧ pl.ver = ob.ver ∧ pl.at_ = some (b, c) ∧ r = .map (some b) ∧ OR ν w X σ pl ob.o := by
  simp only [LR] at lx
  obtain ⟨p, pl, rfl, hpl, hle, hlive⟩ := lx
  obtain ⟨pl', hpl', hver, ho⟩ := hk _ hob
  obtain rfl : pl = pl' := by rw [hpl] at hpl'; simpa using hpl'
  obtain rfl := Nat.eq_of_beq_eq_true hv
  obtain ⟨b, c, hat, rfl⟩ := hlive hver.symm
  exact ⟨b, c, pl, hpl, hver, hat, rfl, ho⟩
/-- a value of a map -/
theorem s_lookup {T : Tab} (hT : TOK P T) {ρ : Operand → LV} {get : Nat → Option Ob} {fresh : Nat} {t : TypeId} {m k : Operand} {ok : Bool} {out : Out} (h : opRun T ρ get fresh (.lookup t m k ok) = some out) {rm rk : Value} (lm : LR ν w X σ (ρ m) rm) (lk : LR ν w X σ (ρ k) rk)
    (hk : ∀ id, (ρ m).id? = some id → Known ν w X σ get id) : Comes' P ν w X σ out ((Instr.lookup t rm rk ok).run P w) := by
  simp only [opRun] at h
  split at h
  rotate_left
  · simp at h
  rename_i kt e _ _ _ _ id ver ke hg hm hke
  split at h
  rotate_left
  · simp at h
  rename_i ver' c vk _ _ _ _ _ _ _ z _ hob hgk hge
  split at h
  rotate_left
  · simp at h
  rename_i v hv
  split at h
  rotate_left
  · simp at h
  rename_i r hr
  cases hb : Nat.beq ver ver'
  · rw [hb] at h; simp at h
  rw [hb] at h
  simp only [cond_true, Option.some.injEq] at h
  subst h
  refine ⟨rfl, fun _ => ?_⟩
  rw [hm] at lm hk
  rw [hke] at lk
  simp only [LR] at lk
  subst lk
  obtain ⟨b, cc, pl, hpl, hver, hat, rfl, ho⟩ := mp_live lm (hk id rfl) hob hb
  obtain ⟨b', c0, es, clock, hat', hh, hR⟩ := ho
  rw [hat] at hat'
  simp only [Option.some.injEq, Prod.mk.injEq] at hat'
  obtain ⟨rfl, rfl⟩ := hat'
  obtain ⟨hu, _⟩ := hT.get hg
  obtain ⟨huk, _⟩ := hT.get hgk
  obtain ⟨_, ⟨ie, hie, _, _, hz⟩, _⟩ := hT.get hge
  simp only at hu huk hz
  have hz := hz z rfl
  have hf := findNow_R (denS ν ke) es.toList (denC ν c) 0 hR
  have hlen := hR.len
  have hck := MapKept.run_checkKey (w := w) huk (k := .string (denS ν ke)) trivial es.isEmpty 9999
  have hlt : denB ν (.lt (.mpos c ke) (.clen c)) = decide (mposL (denC ν c) (denS ν ke) < (denC ν c).length) := by
    simp only [denB, denI]
    exact decide_eq_decide.2 (by omega)
  -- what it comes to
  have key : ∃ (x : Value), LR ν w X σ r x ∧ (Instr.lookup t (.map (some b)) (.string (denS ν ke)) ok).run P w = .ok (if ok then .tuple #[x, .bool (decide (mposL (denC ν c) (denS ν ke) < (denC ν c).length))] else x) w := by
    by_cases hp : mposL (denC ν c) (denS ν ke) < (denC ν c).length
    · have hes : es.toList[mposL (denC ν c) (denS ν ke)]? = some (es.toList[mposL (denC ν c) (denS ν ke)]'(by omega)) := List.getElem?_eq_getElem _
      obtain ⟨s, cv, h1, h2, h3, h4⟩ := hR.at _ _ hes
      refine ⟨(es.toList[mposL (denC ν c) (denS ν ke)]'(by omega)).val, ?_, ?_⟩
      · have := pk_LR hr (ν := ν) (w := w) (X := X) (σ := σ) (ra := (es.toList[mposL (denC ν c) (denS ν ke)]'(by omega)).val) (rb := z) (fun _ => lvK_LR hv h3 (by simp only [denI, cellAt, Int.toNat_natCast, List.getD, h1]; rfl) h4) (fun _ => lit_LR _ _ _ _ _)
        rw [hlt, decide_eq_true hp] at this
        simpa using this
      · rw [hes] at hf
        simp only [Option.map_some] at hf
        simp only [Instr.lookup, Sem.run_bind, run_und hu, Result.andThen_ok, MapKept.run_getObj_map hh, Sem.run_pure, hck, MapKept.run_findKey huk hf, decide_eq_true hp]
    · have hes : es.toList[mposL (denC ν c) (denS ν ke)]? = none := List.getElem?_eq_none (by omega)
      refine ⟨z, ?_, ?_⟩
      · have := pk_LR hr (ν := ν) (w := w) (X := X) (σ := σ) (ra := z) (rb := z) (fun ht => by rw [hlt, decide_eq_false hp] at ht; cases ht) (fun _ => lit_LR _ _ _ _ _)
        simpa using this
      · rw [hes] at hf
        simp only [Option.map_none] at hf
        simp only [Instr.lookup, Sem.run_bind, run_und hu, Result.andThen_ok, MapKept.run_getObj_map hh, Sem.run_pure, hck, MapKept.run_findKey huk hf, run_zero hie hz, decide_eq_false hp]
  obtain ⟨x, lx, hrun⟩ := key
  refine ⟨_, hrun, ?_⟩
  cases ok
  · simpa using lx
  · simp only [cond_true, if_true, LR]
    refine ⟨_, rfl, ?_⟩
    simp only [LRs, LR, hlt, and_true]
    exact lx

/-- the operations that leave memory alone -/
theorem map_LRs0 {ρ : Operand → LV} {val : Operand → Value} : ∀ (l : List Operand), (∀ x ∈ l, LR ν w X σ (ρ x) (val x)) → LRs ν w X σ (l.map ρ) (l.map val)
  | [], _ => by simp only [List.map_nil, LRs]
  | x :: l, h => by
    simp only [List.map_cons, LRs]
    exact ⟨h x (by simp), map_LRs0 l fun y hy => h y (by simp [hy])⟩
theorem s_eqlO {op : BinOp} {b : Bool} {out : Out} (h : eqlO op b = some out) {t : TypeId} {ox oy : Operand} {a c : Value} (h1 : guarded P .eql t ox oy a c w = .ok (.bool b) w) (h2 : guarded P .neq t ox oy a c w = .ok (.bool (!b)) w) : Comes' P ν w X σ out (guarded P op t ox oy a c w) := by
  unfold eqlO at h
  split at h
  · simp only [Option.some.injEq] at h
    subst h
    exact ⟨rfl, fun _ => ⟨.bool b, h1, by simp only [LR, denB]⟩⟩
  · simp only [Option.some.injEq] at h
    subst h
    exact ⟨rfl, fun _ => ⟨.bool (!b), h2, by simp only [LR, denB]⟩⟩
  · simp at h
theorem guard_nilp (op : BinOp) (t : TypeId) (ox oy : Operand) (a : Value) : guarded P op t ox oy a (.pointer none) w = (binOp op t a (.pointer none)).run P w := by
  unfold guarded eqGuard
  cases op <;> cases a <;> rfl
theorem guard_nili (op : BinOp) (t : TypeId) (ox oy : Operand) (u : TypeId) (a : Value) : guarded P op t ox oy (.iface u a) .nilIface w = (binOp op t (.iface u a) .nilIface).run P w := by
  unfold guarded eqGuard
  cases op <;> rfl
theorem eql_run {t : TypeId} {a c : Value} {b : Bool} (hr : (Op.equal t a c).run P w = .ok b w) (h1 : binOp .eql t a c = (do pure (.bool (← Op.equal t a c)))) (h2 : binOp .neq t a c = (do pure (.bool (!(← Op.equal t a c))))) : (binOp .eql t a c).run P w = .ok (.bool b) w ∧ (binOp .neq t a c).run P w = .ok (.bool (!b)) w := by
  rw [h1, h2]
  simp only [Sem.run_bind, hr, Result.andThen_ok, Sem.run_pure, and_self]
theorem equal_np {t e : TypeId} (hu : P.underlying t = some (.pointer e)) (a : Option Addr) : (Op.equal t (.pointer a) (.pointer none)).run P w = .ok a.isNone w := by
  show (Op.equalIn 10000 t (.pointer a) (.pointer none)).run P w = _
  unfold Op.equalIn
  simp only [Sem.run_bind, run_und hu, Result.andThen_ok]
  cases a <;> rfl
theorem equal_ni {t : TypeId} {ms : Array (String × TypeId)} (hu : P.underlying t = some (.interface ms)) (u : TypeId) (a : Value) : (Op.equal t (.iface u a) .nilIface).run P w = .ok false w := by
  show (Op.equalIn 10000 t (.iface u a) .nilIface).run P w = _
  unfold Op.equalIn
  simp only [Sem.run_bind, run_und hu, Result.andThen_ok]
  rfl
theorem equal_nn {t : TypeId} {ms : Array (String × TypeId)} (hu : P.underlying t = some (.interface ms)) : (Op.equal t .nilIface .nilIface).run P w = .ok true w := by
  show (Op.equalIn 10000 t .nilIface .nilIface).run P w = _
  unfold Op.equalIn
  simp only [Sem.run_bind, run_und hu, Result.andThen_ok]
  rfl
theorem s_nilEq {T : Tab} (hT : TOK P T) {get : Nat → Option Ob} {op : BinOp} {t : TypeId} {x y : Operand} {a b : LV} {out : Out} (h : nilEq T get op t y a b = some out) {rx ry : Value} (lx : LR ν w X σ a rx) (ly : LR ν w X σ b ry) (hk : ∀ id, a.id? = some id → Known ν w X σ get id) :
    Comes' P ν w X σ out (guarded P op t x y rx ry w) := by
  unfold nilEq at h
  split at h
  · simp only [LR] at ly
    subst ly
    split at h
    · rename_i hgt
      have hu := (hT.get hgt).1
      have fin : ∀ (a : Option Addr) (b : Bool), a.isNone = b → eqlO op b = some out → Comes' P ν w X σ out (guarded P op t x y (.pointer a) (.pointer none) w) := fun a b hb h => by
        have := eql_run (w := w) (equal_np hu a) rfl rfl
        rw [hb] at this
        exact s_eqlO h (by rw [guard_nilp]; exact this.1) (by rw [guard_nilp]; exact this.2)
      split at h
      · simp only [LR] at lx
        subst lx
        exact fin none true rfl h
      · rename_i id ver off
        split at h
        · rename_i ver' o hob
          have := cond_some' h
          have hb : Nat.beq ver ver' = true := by
            cases hb : Nat.beq ver ver'
            · rw [hb] at h; simp at h
            · rfl
          obtain ⟨bb, c, pl, hpl, hver, hat, hv, _⟩ := ptr_live (ρ := .junk) lx (hk id rfl) hob hb
          subst hv
          exact fin _ false rfl this
        · simp at h
      · simp only [LR] at lx
        obtain ⟨bb, o, g, rfl, _⟩ := lx
        exact fin _ false rfl h
      · simp at h
    · simp at h
  · simp only [LR] at ly
    subst ly
    split at h
    · rename_i hgt
      have hu := (hT.get hgt).1
      split at h
      · simp only [LR] at lx
        subst lx
        have hc := cond_some' h
        have hy : ∃ c, y = .const c := by
          cases y with
          | const c => exact ⟨c, rfl⟩
          | _ => simp [isConst] at h
        obtain ⟨c, rfl⟩ := hy
        have := eql_run (w := w) (equal_nn hu) rfl rfl
        have hg : ∀ op, guarded P op t x (.const c) .nilIface .nilIface w = (binOp op t .nilIface .nilIface).run P w := fun op => by
          unfold guarded
          rw [eqGuard_nil_constR]
          simp only [Sem.run_bind, Sem.run_pure, Result.andThen_ok]
        exact s_eqlO hc (by rw [hg]; exact this.1) (by rw [hg]; exact this.2)
      · rename_i u _
        simp only [LR] at lx
        obtain ⟨v, rfl, _⟩ := lx
        have := eql_run (w := w) (equal_ni hu u v) rfl rfl
        exact s_eqlO h (by rw [guard_nili]; exact this.1) (by rw [guard_nili]; exact this.2)
      · simp at h
    · simp at h
  · simp at h
theorem s_binOp {T : Tab} (hT : TOK P T) {ρ : Operand → LV} {get : Nat → Option Ob} {fresh : Nat} {op : BinOp} {t yt : TypeId} {x y : Operand} {out : Out} (h : opRun T ρ get fresh (.binOp op t x y yt) = some out) {rx ry : Value} (lx : LR ν w X σ (ρ x) rx) (ly : LR ν w X σ (ρ y) ry)
    (hk : ∀ id, (ρ x).id? = some id → Known ν w X σ get id) : Comes' P ν w X σ out (guarded P op t x y rx ry w) := by
  simp only [opRun] at h
  split at h
  · rename_i o hn
    simp only [Option.some.injEq] at h
    subst h
    exact s_nilEq hT hn lx ly hk
  · exact s_binO hT op t _ _ out h x y _ _ lx ly
theorem s_makeInterface {T : Tab} (hT : TOK P T) {ρ : Operand → LV} {get : Nat → Option Ob} {fresh : Nat} {t : TypeId} {x : Operand} {out : Out} (h : opRun T ρ get fresh (.makeInterface t x) = some out) {r : Value} (lx : LR ν w X σ (ρ x) r) : Comes' P ν w X σ out ((Instr.makeInterface t r).run P w) := by
  simp only [opRun] at h
  split at h
  rotate_left
  · simp at h
  rename_i ti hg
  have hu := (hT.get hg).1
  cases hi : isIface ti.desc
  rotate_left
  · rw [hi] at h; simp at h
  rw [hi] at h
  simp only [cond_false, Option.some.injEq] at h
  subst h
  refine ⟨rfl, fun _ => ⟨.iface t r, ?_, by simp only [LR]; exact ⟨r, rfl, lx⟩⟩⟩
  simp only [Instr.makeInterface, Sem.run_bind, run_und hu, Result.andThen_ok]
  cases hd : ti.desc <;> simp [hd, isIface] at hi ⊢
theorem s_typeAssert {T : Tab} (hT : TOK P T) {ρ : Operand → LV} {get : Nat → Option Ob} {fresh : Nat} {xt at_ : TypeId} {ok : Bool} {x : Operand} {out : Out} (h : opRun T ρ get fresh (.typeAssert x xt at_ ok) = some out) {r : Value} (lx : LR ν w X σ (ρ x) r) : Comes' P ν w X σ out ((Instr.typeAssert r xt at_ ok).run P w) := by
  simp only [opRun] at h
  split at h
  rotate_left
  · simp at h
  rename_i d _ _ z _ hg
  obtain ⟨hu, ⟨i, hi, _, _, hzz⟩, _⟩ := hT.get hg
  have hz : i.zero = some z := hzz z rfl
  clear hzz
  cases hif : isIface d
  rotate_left
  · rw [hif] at h; simp at h
  rw [hif] at h
  simp only [cond_false] at h
  have run : ∀ v : Value, (Instr.typeAssert v xt at_ ok).run P w = (match v with
      | .iface t u => if t = at_ then (.ok (if ok then .tuple #[u, .bool true] else u) w) else (if ok then .ok (.tuple #[z, .bool false]) w else (Instr.typeAssert v xt at_ ok).run P w)
      | .nilIface => if ok then .ok (.tuple #[z, .bool false]) w else (Instr.typeAssert v xt at_ ok).run P w
      | _ => (Instr.typeAssert v xt at_ ok).run P w) := fun v => by
    cases v with
    | iface t u =>
      simp only []
      by_cases ht : t = at_
      · subst ht
        simp only [Instr.typeAssert, Sem.run_bind, run_und hu, Result.andThen_ok, if_true]
        cases d <;> simp [isIface] at hif ⊢
      · rw [if_neg ht]
        cases ok
        · simp
        · simp only [Instr.typeAssert, Sem.run_bind, run_und hu, Result.andThen_ok, if_true]
          cases d <;> simp [isIface, ht, run_zero hi hz] at hif ⊢
    | nilIface =>
      simp only []
      cases ok
      · simp
      · simp only [Instr.typeAssert, Sem.run_bind, run_und hu, Result.andThen_ok, if_true]
        cases d <;> simp [isIface, run_zero hi hz] at hif ⊢
    | _ => rfl
  split at h
  · rename_i t v hx
    rw [hx] at lx
    simp only [LR] at lx
    obtain ⟨u, rfl, lu⟩ := lx
    cases hb : Nat.beq t at_
    · rw [hb] at h
      simp only [cond_false] at h
      have hne : ¬ t = at_ := fun e => by subst e; simp at hb
      cases ok
      · simp at h
      · simp only [cond_true, Option.some.injEq] at h
        subst h
        refine ⟨rfl, fun _ => ⟨.tuple #[z, .bool false], ?_, ?_⟩⟩
        · rw [run]; simp [hne]
        · simp only [LR]
          exact ⟨_, rfl, by simp only [LRs, LR, denB]; exact ⟨lv_LR ν w X σ z, trivial, trivial⟩⟩
    · rw [hb] at h
      obtain rfl := Nat.eq_of_beq_eq_true hb
      simp only [cond_true, Option.some.injEq] at h
      subst h
      cases ok
      · refine ⟨rfl, fun _ => ⟨u, ?_, lu⟩⟩
        rw [run]; simp
      · refine ⟨rfl, fun _ => ⟨.tuple #[u, .bool true], ?_, ?_⟩⟩
        · rw [run]; simp
        · simp only [cond_true, LR]
          exact ⟨_, rfl, by simp only [LRs, LR, denB]; exact ⟨lu, trivial, trivial⟩⟩
  · rename_i hx
    rw [hx] at lx
    simp only [LR] at lx
    subst lx
    cases ok
    · simp at h
    · simp only [cond_true, Option.some.injEq] at h
      subst h
      refine ⟨rfl, fun _ => ⟨.tuple #[z, .bool false], ?_, ?_⟩⟩
      · rw [run]; simp
      · simp only [LR]
        exact ⟨_, rfl, by simp only [LRs, LR, denB]; exact ⟨lv_LR ν w X σ z, trivial, trivial⟩⟩
  · simp at h
theorem s_calm {T : Tab} (hT : TOK P T) {ρ : Operand → LV} {val : Operand → Value} {get : Nat → Option Ob} {fresh : Nat} (o : Oper) {out : Out} (h : opRun T ρ get fresh o.op = some out) (he : out.e = .no)
    (hρ : ∀ x ∈ o.op.operands, LR ν w X σ (ρ x) (val x)) (hk : ∀ x ∈ lookO o.op, ∀ id, (ρ x).id? = some id → Known ν w X σ get id) (hn : denNs ν out.needs) :
    ∃ v, (execOp val o).run P w = .ok (.value v) w ∧ LR ν w X σ out.v v := by
  obtain ⟨dst, op, type, pos, after, guard⟩ := o
  have lift : ∀ (s : Sem Value), (∃ v, s.run P w = .ok v w ∧ LR ν w X σ out.v v) → ∃ v, (do pure (Next.value (← s)) : Sem Next).run P w = .ok (.value v) w ∧ LR ν w X σ out.v v := by
    rintro s ⟨v, hv, lv⟩
    exact ⟨v, by simp [hv], lv⟩
  have of : ∀ (s : Sem Value), Comes' P ν w X σ out (s.run P w) → ∃ v, (do pure (Next.value (← s)) : Sem Next).run P w = .ok (.value v) w ∧ LR ν w X σ out.v v := fun s hs => lift s (hs.2 hn)
  cases op
  case move x =>
    simp only [opRun, Option.some.injEq] at h
    subst h
    exact ⟨_, rfl, hρ x (by simp [Op.operands])⟩
  case assign x =>
    simp only [opRun, Option.some.injEq] at h
    subst h
    exact ⟨_, rfl, hρ x (by simp [Op.operands])⟩
  case load t x => exact of _ (s_load hT h (hρ x (by simp [Op.operands])) (hk x (by simp [Op.operands])))
  case binOp op t x y yt =>
    have := s_binOp hT h (hρ x (by simp [Op.operands])) (hρ y (by simp [Op.operands])) (hk x (by simp [Op.operands]))
    exact of _ this
  case makeInterface t x => exact of _ (s_makeInterface hT h (hρ x (by simp [Op.operands])))
  case typeAssert x xt at_ ok => exact of _ (s_typeAssert hT h (hρ x (by simp [Op.operands])))
  case fieldAddr t x f => exact of _ (s_fieldAddr hT h (hρ x (by simp [Op.operands])) (hk x (by simp [Op.operands])))
  case field t x f => exact of _ (s_field hT h (hρ x (by simp [Op.operands])))
  case indexAddr t x ix => exact of _ (s_indexAddr hT h (hρ x (by simp [Op.operands])) (hρ ix (by simp [Op.operands])) (hk x (by simp [Op.operands])))
  case index t x ix => exact of _ (s_index hT h (hρ x (by simp [Op.operands])) (hρ ix (by simp [Op.operands])))
  case extract x k => exact of _ (s_extract h (hρ x (by simp [Op.operands])))
  case slice t x lo hi mx => exact of _ (s_slice hT h (hρ x (by simp [Op.operands])) (fun y hy => hρ y (by simp [Op.operands, hy])) (fun y hy => hρ y (by simp [Op.operands, hy])) (fun y hy => hρ y (by simp [Op.operands, hy])) (hk x (by simp [Op.operands])))
  case convert s d x => exact lift _ (s_convert hT h (hρ x (by simp [Op.operands])) (hk x (by simp [Op.operands])) he hn)
  case lookup t m k ok =>
    exact of _ (s_lookup hT h (hρ m (by simp [Op.operands])) (hρ k (by simp [Op.operands])) (hk m (by simp [Op.operands])))
  case makeMap t r =>
    exfalso
    cases r with
    | some x => simp [opRun] at h
    | none =>
      simp only [opRun] at h
      (repeat' split at h) <;> first
        | (simp at h; done)
        | (simp only [Option.some.injEq] at h; subst h; simp at he; done)
  case nilCheck x =>
    have lx := hρ x (by simp [Op.operands])
    have hkx := hk x (by simp [Op.operands])
    simp only [opRun] at h
    split at h
    · rename_i id ver off hx
      rw [hx] at lx hkx
      split at h
      · rename_i ver' _ hob
        have hb : Nat.beq ver ver' = true := by
          cases hb : Nat.beq ver ver'
          · rw [hb] at h; simp at h
          · rfl
        rw [hb] at h
        simp only [cond_true, Option.some.injEq] at h
        subst h
        obtain ⟨b, c, pl, hpl, hver, hat, hv, _⟩ := ptr_live (ρ := .junk) lx (hkx id rfl) hob hb
        exact ⟨val x, by simp [execOp, hv], lx⟩
      · simp at h
    · rename_i c i f hx
      rw [hx] at lx
      simp only [Option.some.injEq] at h
      subst h
      have lx' := lx
      simp only [LR] at lx'
      obtain ⟨b, o, g, hv, _⟩ := lx'
      exact ⟨val x, by simp [execOp, hv], lx⟩
    · simp at h
  case unOp op t x =>
    have lx := hρ x (by simp [Op.operands])
    simp only [opRun] at h
    split at h
    · rename_i b hx
      rw [hx] at lx
      simp only [LR] at lx
      simp only [Option.some.injEq] at h
      subst h
      exact lift _ ⟨.bool (!denB ν b), by simp [lx, Op.unary], by simp only [LR, den_not]⟩
    · rename_i k n hx
      rw [hx] at lx
      simp only [LR] at lx
      simp only [Option.some.injEq] at h
      subst h
      exact lift _ ⟨.int k (k.wrap (0 - denI ν n)), by simp [lx, Op.unary, Op.intArith], by simp only [LR, den_wr, den_bin ν (· - ·) .sub (fun _ _ => rfl), denI]⟩
    · simp at h
  case makeFunc fn first captured =>
    simp only [opRun] at h
    cases hb : first.isEmpty && captured.isEmpty
    · rw [hb] at h
      simp only [cond_false] at h
      have capd : ∀ (f : FuncId) (xs : List Operand), first.toList = [] → captured.toList = xs → out = ⟨[], .fn f (xs.map ρ), .no⟩ → fn = .func f → ∃ v, (do pure (Next.value (← Instr.makeFunc fn (first.map val) (captured.map val))) : Sem Next).run P w = .ok (.value v) w ∧ LR ν w X σ out.v v := by
        intro f xs h1 h2 h3 h4
        obtain rfl : first = #[] := by apply Array.toList_inj.1; simpa using h1
        subst h3 h4
        refine ⟨.func (.func f) #[] (captured.map val), by simp [Instr.makeFunc], ?_⟩
        simp only [LR]
        refine ⟨_, rfl, ?_⟩
        rw [Array.toList_map, h2]
        exact map_LRs0 (ρ := ρ) (val := val) xs fun y hy => hρ y (by
          simp only [Op.operands]
          rw [← h2] at hy
          simpa using hy)
      split at h
      · rename_i f x hfst hcap
        cases hcp : T.cap f
        rotate_left
        · rw [hcp] at h
          simp only [cond_true, Option.some.injEq] at h
          exact capd f [x] hfst hcap h.symm rfl
        rw [hcp] at h
        simp only [cond_false] at h
        obtain rfl : first = #[] := by apply Array.toList_inj.1; simpa using hfst
        obtain rfl : captured = #[x] := by apply Array.toList_inj.1; simpa using hcap
        split at h
        · split at h
          · have := cond_some h
            subst this
            simp at he
          · simp at h
        · rename_i c i k hx
          have lx := hρ x (by simp [Op.operands])
          rw [hx] at lx
          simp only [Option.some.injEq] at h
          subst h
          refine lift _ ⟨.func (.func f) #[] #[val x], by simp [Instr.makeFunc], ?_⟩
          simp only [LR]
          exact ⟨_, rfl, by simp only [LRs]; exact ⟨lx, trivial⟩⟩
        · simp at h
      · rename_i f hfst _
        have h := cond_some h
        exact capd f _ hfst rfl h.symm rfl
      · simp at h
    rw [hb] at h
    simp only [cond_true, Option.some.injEq] at h
    subst h
    simp only [Bool.and_eq_true, Array.isEmpty_iff] at hb
    obtain ⟨rfl, rfl⟩ := hb
    exact lift _ ⟨.func fn #[] #[], by simp [Instr.makeFunc], by simp only [LR]⟩
  case build t parts =>
    have lp : ∀ p ∈ parts.toList, LR ν w X σ (ρ p.2) (val p.2) := fun p hp => hρ p.2 (by
      simp only [Op.operands]
      simp only [List.mem_toArray, List.mem_map]
      exact ⟨p, hp, rfl⟩)
    have fr : ∀ z : Value, LRs ν w X σ (zeroCells z) z.cells.toList := fun z => by
      have := lv_LR ν w X σ z
      cases z with
      | agg cs => simpa [zeroCells, lvOf, LV.cells, Value.cells] using lits_LRs ν w X σ cs.toList
      | tuple vs =>
        simp only [zeroCells, lvOf, LV.cells, Value.cells, LRs]
        exact ⟨by simpa only [lvOf] using this, trivial⟩
      | _ =>
        simp only [zeroCells, lvOf, litOf, LV.cells, Value.cells, LRs]
        exact ⟨by simpa only [lvOf, litOf] using this, trivial⟩
    simp only [opRun] at h
    split at h
    · rename_i fs _ _ z _ hg
      obtain ⟨hu, ⟨i, hi, hs, _, hz⟩, _⟩ := hT.get hg
      simp only at hu
      split at h
      rotate_left
      · simp at h
      rename_i pl hpl
      split at h
      rotate_left
      · simp at h
      rename_i cs hcs
      simp only [Option.some.injEq] at h
      subst h
      obtain ⟨a', hf, la⟩ := fill_LRs (val := val) parts.toList _ _ cs hcs (fr z) lp
      refine lift _ ⟨.agg a', ?_, by simp only [LR]; exact ⟨a', rfl, la⟩⟩
      have hm : ∀ (l : List Field) (ps : List (Nat × Nat)), placesT T l = some ps → (l.mapM fun f => (do pure (f.offset, ← sizeOf f.type) : Sem (Nat × Nat))).run P w = .ok ps w := by
        intro l
        induction l with
        | nil => intro ps hps; simp only [placesT, Option.some.injEq] at hps; subst hps; simp
        | cons f l ih =>
          intro ps hps
          simp only [placesT] at hps
          split at hps
          · rename_i ti l' hgf hpl'
            simp only [Option.some.injEq] at hps
            subst hps
            obtain ⟨_, ⟨i', hi', hs', _, _⟩, _⟩ := hT.get hgf
            rw [List.mapM_cons]
            simp only [Sem.run_bind, run_size hi', hs', Result.andThen_ok, ih l' hpl', Sem.run_pure]
          · simp at hps
      have hm' := hm fs.toList pl hpl
      simp only [Instr.build, Sem.run_bind, run_zero hi (hz z rfl), Result.andThen_ok, run_und hu]
      rw [Array.mapM_eq_mapM_toList]
      simp only [Sem.run_map, hm', Result.andThen_ok]
      rw [show (parts.map fun x => (x.1, val x.2)).toList = parts.toList.map fun x => (x.1, val x.2) from by simp]
      have hf' : Instr.fill (fun x => pl.toArray[x]?) z.cells (parts.toList.map fun x => (x.1, val x.2)) = some a' := by
        rw [← hf]
        congr 1
        funext x
        simp
      rw [hf']
      rfl
    · rename_i n el _ _ z _ hg
      obtain ⟨hu, ⟨i, hi, hs, _, hz⟩, _⟩ := hT.get hg
      simp only at hu
      split at h
      rotate_left
      · simp at h
      rename_i _ sz _ _ _ hg2
      split at h
      rotate_left
      · simp at h
      rename_i cs hcs
      simp only [Option.some.injEq] at h
      subst h
      obtain ⟨_, ⟨i2, hi2, hs2, _, _⟩, _⟩ := hT.get hg2
      simp only at hs2
      obtain ⟨a', hf, la⟩ := fill_LRs (val := val) parts.toList _ _ cs hcs (fr z) lp
      refine lift _ ⟨.agg a', ?_, by simp only [LR]; exact ⟨a', rfl, la⟩⟩
      simp only [Instr.build, Sem.run_bind, run_zero hi (hz z rfl), Result.andThen_ok, run_und hu, run_size hi2, hs2]
      rw [show (parts.map fun x => (x.1, val x.2)).toList = parts.toList.map fun x => (x.1, val x.2) from by simp]
      rw [hf]
      rfl
    · simp at h
  case call c =>
    obtain ⟨callee, args, argTypes⟩ := c
    cases callee
    case builtin b =>
      have go : ∀ (s : Sem Value), (∀ ty cs, (builtin b argTypes ty cs (args.map val)) = (do pure (Next.value (← s)))) → (∃ v, s.run P w = .ok v w ∧ LR ν w X σ out.v v) →
          ∃ v, (execOp val ⟨dst, .call ⟨.builtin b, args, argTypes⟩, type, pos, after, guard⟩).run P w = .ok (.value v) w ∧ LR ν w X σ out.v v := by
        rintro s hs ⟨v, hv, lv⟩
        exact ⟨v, by simp [execOp, resolve, invoke, hs, hv], lv⟩
      have arr : ∀ {α : Type} (a : Array α) (l : List α), a.toList = l → a = l.toArray := fun a l e => by rw [← e]
      simp only [opRun] at h
      split at h
      · rename_i x t hargs htys
        obtain rfl := arr _ _ hargs
        obtain rfl := arr _ _ htys
        have lx := hρ x (by simp [Op.operands, Call.operands])
        have hkx := hk x (by simp [Op.operands, Call.operands])
        split at h
        rotate_left
        · simp at h
        rename_i ti hg
        have hu := (hT.get hg).1
        split at h
        · rename_i el hd
          rw [hd] at hu
          split at h
          · rename_i e hle
            simp only [Option.some.injEq] at h
            subst h
            exact go (Builtin.len_ #[t] type #[val x]) (fun ty cs => by simp [builtin, Builtin.len_]) ⟨_, s_lenS hle lx hu hkx type, by simp only [LR]⟩
          · simp at h
        · rename_i hd
          rw [hd] at hu
          split at h
          · rename_i e hx
            rw [hx] at lx
            simp only [LR] at lx
            simp only [Option.some.injEq] at h
            subst h
            exact go (Builtin.len_ #[t] type #[val x]) (fun ty cs => by simp [builtin, Builtin.len_]) ⟨.int .i64 (denS ν e).size, by rw [lx]; simp [Builtin.len_, run_und hu, goInt], by simp only [LR, den_len]⟩
          · simp at h
        · simp at h
      · exfalso
        (repeat' (first | split at h | replace h := cond_some' h)) <;> first
          | (simp at h; done)
          | (have := cond_some h; subst this; simp at he; done)
          | (simp only [Option.some.injEq] at h; subst h; simp at he; done)
      · rename_i tys x y hargs
        obtain rfl := arr _ _ hargs
        have lx := hρ x (by simp [Op.operands, Call.operands])
        have ly := hρ y (by simp [Op.operands, Call.operands])
        split at h
        · rename_i k a k' b hx hy
          rw [hx] at lx
          rw [hy] at ly
          simp only [LR] at lx ly
          have := cond_some h
          subst this
          refine go (Builtin.min_ argTypes type #[val x, val y]) (fun ty cs => by simp [builtin, Builtin.min_]) ⟨.int k (if denI ν b < denI ν a then denI ν b else denI ν a), ?_, ?_⟩
          · rw [lx, ly, run_min_int2]
          · simp only [LR, den_iteI, den_rel ν (fun x y => decide (x < y)) .lt (fun _ _ => rfl), decide_eq_true_eq]
        · simp at h
      · rename_i tys x y hargs
        obtain rfl := arr _ _ hargs
        have lx := hρ x (by simp [Op.operands, Call.operands])
        have ly := hρ y (by simp [Op.operands, Call.operands])
        split at h
        · rename_i k a k' b hx hy
          rw [hx] at lx
          rw [hy] at ly
          simp only [LR] at lx ly
          have := cond_some h
          subst this
          refine go (Builtin.max_ argTypes type #[val x, val y]) (fun ty cs => by simp [builtin, Builtin.max_]) ⟨.int k (if denI ν b > denI ν a then denI ν b else denI ν a), ?_, ?_⟩
          · rw [lx, ly, run_max_int2]
          · simp only [LR, den_iteI, den_rel ν (fun x y => decide (x < y)) .lt (fun _ _ => rfl), decide_eq_true_eq]
        · simp at h
      · simp at h
    all_goals simp [opRun] at h
  all_goals
    exfalso
    simp only [opRun] at h
    (repeat' split at h) <;> first
      | (simp at h; done)
      | (have := cond_some h; subst this; simp at he; done)
      | (simp only [Option.some.injEq] at h; subst h; simp at he; done)
end
end Go.Proofs.Ytdgjcdhomfhfpaa
