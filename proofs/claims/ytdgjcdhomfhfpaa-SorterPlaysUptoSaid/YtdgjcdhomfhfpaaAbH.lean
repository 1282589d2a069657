/- A symbolic run of Go code: what holds at the head of a loop; code. No condition. -/
import Derived.Test.YtdgjcdhomfhfpaaAb2
namespace Go.Proofs.Ytdgjcdhomfhfpaa
set_option linter.unusedSimpArgs false
set_option linter.unusedVariables false

/- which slots will be looked at again: sets of slots as numbers -/
def bit (t : Nat) : Nat := Nat.shiftLeft 1 t
def lvOpd : List Operand → Nat → Nat
  | [], m => m
  | .tmp t :: r, m => lvOpd r (Nat.lor m (bit t))
  | _ :: r, m => lvOpd r m
def lvClear (m t : Nat) : Nat := bif Nat.testBit m t then Nat.sub m (bit t) else m
def lvOps (ops : Array Oper) : List Oper → Nat → Nat
  | [], m => m
  | o :: r, m =>
    let m1 := lvOps ops r m
    let m2 := match o.dst with
      | some d => lvClear m1 d
      | none => m1
    let m3 := lvOpd o.op.operands.toList m2
    match o.guard with
    | some (j, _) => match (ops[j]?).bind (·.dst) with
      | some d => Nat.lor m3 (bit d)
      | none => m3
    | none => m3
def lvC : Code → (Nat → Nat) → Nat → Nat → Nat
  | .skip, _, _, m | .label _, _, _, m => m
  | .region _ ops _, _, _, m => lvOps ops ops.toList m
  | .seq a b, brk, ret, m => lvC a brk ret (lvC b brk ret m)
  | .cond c x y, brk, ret, m => lvOpd [c] (Nat.lor (lvC x brk ret m) (lvC y brk ret m))
  | .block id c, brk, ret, m => lvC c (fun j => bif Nat.beq j id then m else brk j) ret m
  | .loop c, brk, ret, _ => lvC c brk ret 0
  | .scope c, brk, ret, m => lvC c brk ret m
  | .exit id, brk, _, _ => brk id
  | .ret, _, ret, _ => ret
  | _, _, _, m => m
def maskF : List LV → Nat → Nat
  | [], _ => 0
  | .junk :: r, i => maskF r (i + 1)
  | _ :: r, i => Nat.lor (bit i) (maskF r (i + 1))
/-- what is looked at behind; and behind each block -/
def liveK (ret : Nat) : List Kont → Nat × (Nat → Nat)
  | [] => (ret, fun _ => ret)
  | .code c :: K => match liveK ret K with
    | (m, b) => (lvC c b ret m, b)
  | .blk id :: K => match liveK ret K with
    | (m, b) => (m, fun j => bif Nat.beq j id then m else b j)
  | .mark _ _ H :: K => (maskF H.F 0, (liveK ret K).2)

/- the head of a loop: a guess; what is behind it is checked -/
mutual
def nvV (get : Nat → Option Ob) : LV → LV
  | .ptr id ver off => match get id with
    | some ob => bif Nat.beq ver ob.ver then .ptr id 1 off else .junk
    | none => .junk
  | .rs id ver o n => match get id with
    | some ob => bif Nat.beq ver ob.ver then .rs id 1 o n else .junk
    | none => .junk
  | .mp id ver => match get id with
    | some ob => bif Nat.beq ver ob.ver then .mp id 1 else .junk
    | none => .junk
  | .rp _ _ _ _ | .g _ _ => .junk
  | .agg cs => .agg (nvVs get cs)
  | .fn f cs => .fn f (nvVs get cs)
  | .nl _ _ => .junk
  | .tup cs => .tup (nvVs get cs)
  | .ifc t v => .ifc t (nvV get v)
  | v => v
def nvVs (get : Nat → Option Ob) : List LV → List LV
  | [] => []
  | v :: r => nvV get v :: nvVs get r
end
def nvO (get : Nat → Option Ob) (ob : Ob) : Ob :=
  ⟨1, match ob.o with
    | .box cs e => .box (nvVs get cs) e
    | o => o⟩
mutual
def idsV : LV → Nat → Nat
  | .ptr id _ _, m | .rs id _ _ _, m | .mp id _, m => Nat.lor m (bit id)
  | .agg cs, m | .tup cs, m | .fn _ cs, m => idsVs cs m
  | .ifc _ v, m => idsV v m
  | _, m => m
def idsVs : List LV → Nat → Nat
  | [], m => m
  | v :: r, m => idsVs r (idsV v m)
end
def idsL (m : Nat) : List Ob → Nat → Nat → Nat
  | [], _, acc => acc
  | ob :: r, i, acc => idsL m r (i + 1) (bif Nat.testBit m i then (match ob.o with | .box cs _ => idsVs cs acc | _ => acc) else acc)
def idsN (L : List Ob) : Nat → Nat → Nat
  | 0, m => m
  | k + 1, m => idsN L k (idsL m L 0 m)
def holesL (m : Nat) : List Ob → Nat → List Ob
  | [], _ => []
  | ob :: r, i => (bif Nat.testBit m i then ob else ⟨0, .hole⟩) :: holesL m r (i + 1)
def reach (S : St) : St := { S with L := holesL (idsN S.L S.L.length (idsVs S.G (idsVs S.F 0))) S.L 0 }
def keepF (m : Nat) : List LV → Nat → List LV
  | [], _ => []
  | v :: r, i => (bif Nat.testBit m i then v else .junk) :: keepF m r (i + 1)
/-- what is known ahead of a loop, of what will be looked at -/
def prep (live : Nat) (S : St) : St :=
  reach { S with F := nvVs (getO S.L) (keepF live S.F 0), L := S.L.map (nvO (getO S.L)), G := nvVs (getO S.L) S.G }

/-- what is common to the head and to what the body leaves -/
structure JS where
  n : Nat
  L : List Ob
def isVar (n0 : Nat) : E → Bool
  | .var m => Nat.ble n0 m
  | _ => false
def joinE (n0 : Nat) (h e : E) (js : JS) : E × JS :=
  bif isVar n0 h || (h.ok n0 && decide (h = e)) then (h, js) else (.var js.n, { js with n := js.n + 1 })
def rowC (L : List Ob) (j : Nat) : Option E :=
  match getO L j with
  | some ⟨_, .row c _ _⟩ => some c
  | _ => none
def isClenOf (L : List Ob) (j : Nat) : E → Bool
  | .clen c => match rowC L j with
    | some c' => decide (c = c')
    | none => false
  | _ => false
def sameK : Value → Value → Bool
  | .slice none 0 0, .slice none 0 0 => true
  | .func (.func f) a b, .func (.func g) c d => Nat.beq f g && a.isEmpty && b.isEmpty && c.isEmpty && d.isEmpty
  | .pointer none, .pointer none => true
  | .nilIface, .nilIface => true
  | _, _ => false
mutual
def joinV (n0 : Nat) (HL SL : List Ob) : LV → LV → JS → LV × JS
  | .b h, .b e, js => match joinE n0 h e js with
    | (x, js) => (.b x, js)
  | .i k h, .i k' e, js => bif kEq k k' then (match joinE n0 h e js with
    | (x, js) => (.i k x, js)) else (.junk, js)
  | .s h, .s e, js => match joinE n0 h e js with
    | (x, js) => (.s x, js)
  | .vs h, .vs e, js => match joinE n0 h e js with
    | (x, js) => (.vs x, js)
  | .vs h, .k (.slice none 0 0), js => match joinE n0 h (.str []) js with
    | (x, js) => (.vs x, js)
  | .k (.slice none 0 0), .vs _, js => (.vs (.var js.n), { js with n := js.n + 1 })
  | .k (.slice none 0 0), .rs id _ _ _, js => match getO SL id with
    | some ⟨_, .row _ el sz⟩ => (.rs js.L.length 1 (.int 0) (.clen (.var js.n)), { n := js.n + 1, L := js.L ++ [⟨1, .row (.var js.n) el sz⟩] })
    | _ => (.junk, js)
  | .k v, .k v', js => (bif sameK v v' then .k v else .junk, js)
  | .o h, .o e, js => (bif h.ok n0 && decide (h = e) then .o h else .junk, js)
  | .rs j _ o n, .rs id ver o' n', js => bif !(match getO SL id with | some ob => Nat.beq ob.ver ver | none => false) then (.junk, js) else
    match joinE n0 o o' js with
    | (x, js) =>
      let js := bif Nat.beq j id then js else match getO js.L j with
        | some ⟨_, .row c el sz⟩ => bif isVar n0 c then js else { n := js.n + 1, L := setO js.L j ⟨1, .row (.var js.n) el sz⟩ }
        | _ => js
      bif isClenOf HL j n && isClenOf SL id n' then (.rs j 1 x (match rowC js.L j with | some c => .clen c | none => n), js) else match joinE n0 n n' js with
        | (y, js) => (.rs j 1 x y, js)
  | .rs j _ o n, .k (.slice none 0 0), js =>
    let js := match getO js.L j with
      | some ⟨_, .row c el sz⟩ => bif isVar n0 c then js else { n := js.n + 1, L := setO js.L j ⟨1, .row (.var js.n) el sz⟩ }
      | _ => js
    (.rs j 1 o n, js)
  | .mp j _, .mp _ _, js => (.mp j 1, js)
  | .ptr j _ off, .ptr _ _ off', js => (bif Nat.beq off off' then .ptr j 1 off else .junk, js)
  | .vp c i f, .vp c' i' f', js => match joinE n0 c c' js with
    | (x, js) => match joinE n0 i i' js with
      | (y, js) => (bif Nat.beq f f' then .vp x y f else .junk, js)
  | .agg cs, .agg es, js => match joinVs n0 HL SL cs es js with
    | (some l, js) => (.agg l, js)
    | (none, js) => (.junk, js)
  | .tup cs, .tup es, js => match joinVs n0 HL SL cs es js with
    | (some l, js) => (.tup l, js)
    | (none, js) => (.junk, js)
  | .fn f cs, .fn f' es, js => match joinVs n0 HL SL cs es js with
    | (some l, js) => (bif Nat.beq f f' then .fn f l else .junk, js)
    | (none, js) => (.junk, js)
  | .ifc t h, .ifc t' e, js => match joinV n0 HL SL h e js with
    | (x, js) => (bif Nat.beq t t' then .ifc t x else .junk, js)
  | _, _, js => (.junk, js)
def joinVs (n0 : Nat) (HL SL : List Ob) : List LV → List LV → JS → Option (List LV) × JS
  | [], [], js => (some [], js)
  | h :: hs, e :: es, js => match joinV n0 HL SL h e js with
    | (x, js) => match joinVs n0 HL SL hs es js with
      | (some l, js) => (some (x :: l), js)
      | (none, js) => (none, js)
  | _, _, js => (none, js)
end
/-- objects of the same number -/
def joinO (n0 : Nat) (HL SL : List Ob) (h e : Ob) (js : JS) : Ob × JS :=
  match h.o, e.o with
  | .box cs t, .box es _ => match joinVs n0 HL SL cs es js with
    | (some l, js) => (⟨1, .box l t⟩, js)
    | (none, js) => (⟨0, .hole⟩, js)
  | .row c t sz, .row d _ _ => match joinE n0 c d js with
    | (x, js) => (⟨1, .row x t sz⟩, js)
  | .mp c vk, .mp d _ => match joinE n0 c d js with
    | (x, js) => (⟨1, .mp x vk⟩, js)
  | .iter s p, .iter s' p' => match joinE n0 s s' js with
    | (x, js) => match joinE n0 p p' js with
      | (y, js) => (⟨1, .iter x y⟩, js)
  | _, _ => (h, js)
def joinL (n0 : Nat) (HL SL : List Ob) : List Ob → List Ob → JS → List Ob × JS
  | h :: hs, e :: es, js => match joinO n0 HL SL h e js with
    | (x, js) => match joinL n0 HL SL hs es js with
      | (l, js) => (x :: l, js)
  | hs, _, js => (hs, js)
/- lengths of rows that have a new content -/
mutual
def reV (old new : List Ob) : LV → LV
  | .rs j v o n => bif isClenOf old j n then (match rowC new j with | some c => .rs j v o (.clen c) | none => .rs j v o n) else .rs j v o n
  | .agg cs => .agg (reVs old new cs)
  | .fn f cs => .fn f (reVs old new cs)
  | .tup cs => .tup (reVs old new cs)
  | .ifc t v => .ifc t (reV old new v)
  | v => v
def reVs (old new : List Ob) : List LV → List LV
  | [] => []
  | v :: r => reV old new v :: reVs old new r
end
def reO (old new : List Ob) (ob : Ob) : Ob :=
  match ob.o with
  | .box cs e => { ob with o := .box (reVs old new cs) e }
  | _ => ob
/-- objects, joined one by one; those that cells asked for anew; and new ones behind -/
def mixL (n0 : Nat) : List Ob → List Ob → List Ob
  | _, [] => []
  | [], r => r
  | x :: xs, y :: ys => (match y.o with
    | .row c _ _ => bif isVar n0 c then y else x
    | _ => x) :: mixL n0 xs ys
def joinS (n0 : Nat) (H S : St) : St :=
  match joinL n0 H.L S.L H.L S.L ⟨H.n, H.L⟩ with
  | (L1, js1) =>
    let L1 := mixL n0 L1 js1.L
    let L1 := L1.map (reO H.L L1)
    match joinVs n0 H.L S.L (H.F ++ H.G) (S.F ++ S.G) { js1 with L := L1 } with
    | (some F2, js2) => reach { F := reVs L1 js2.L (F2.take H.F.length), L := js2.L.map (reO L1 js2.L), n := js2.n, G := reVs L1 js2.L (F2.drop H.F.length) }
    | (none, _) => H

/- does a state come under a head? -/
def θAt : List (Srt × E) → Nat → Option (Srt × E)
  | [], _ => none
  | p :: _, 0 => some p
  | _ :: r, k + 1 => θAt r k
structure Mt where
  n0 : Nat
  θ : List (Srt × E)
  ids : List (Option (Option Nat))
def idAt : List (Option (Option Nat)) → Nat → Option (Option Nat)
  | [], _ => none
  | p :: _, 0 => p
  | _ :: r, k + 1 => idAt r k
def okT (M : Mt) (q : Srt) (h e : E) : Bool :=
  match h with
  | .var m => bif Nat.ble M.n0 m then (match θAt M.θ (m - M.n0) with
      | some (q', e') => decide (q' = q) && decide (e' = e)
      | none => false) else decide (e = .var m)
  | .clen (.var m) => bif Nat.ble M.n0 m then (match e, θAt M.θ (m - M.n0) with
      | .clen d, some (.l, e') => decide (e' = d)
      | _, _ => false) else decide (e = .clen (.var m))
  | h => h.ok M.n0 && decide (e = h)
def verOf (L : List Ob) (j v : Nat) : Bool :=
  match getO L j with
  | some ob => Nat.beq ob.ver v
  | none => false
def isId (o : Option (Option Nat)) (id : Nat) : Bool :=
  match o with
  | some (some k) => Nat.beq k id
  | _ => false
def isNo' (o : Option (Option Nat)) : Bool :=
  match o with
  | some none => true
  | _ => false
mutual
def okV (M : Mt) (HL SL : List Ob) : LV → LV → Bool
  | .junk, _ => true
  | .b h, .b e => okT M .b h e
  | .i k h, .i k' e => kEq k k' && okT M .i h e
  | .s h, .s e => okT M .s h e
  | .vs h, .vs e => okT M .l h e
  | .vs h, .k (.slice none 0 0) => okT M .l h (.str [])
  | .k v, .k v' => sameK v v'
  | .o h, .o e => h.ok M.n0 && decide (h = e)
  | .agg cs, .agg es => okVs M HL SL cs es
  | .tup cs, .tup es => okVs M HL SL cs es
  | .fn f cs, .fn f' es => Nat.beq f f' && okVs M HL SL cs es
  | .mp j v, .mp id v' => verOf HL j v && verOf SL id v' && isId (idAt M.ids j) id
  | .ptr j v off, .ptr id v' off' => Nat.beq off off' && verOf HL j v && verOf SL id v' && isId (idAt M.ids j) id
  | .rs j v o n, .rs id v' o' n' => verOf HL j v && verOf SL id v' && isId (idAt M.ids j) id && okT M .i o o' && okT M .i n n'
  | .rs j v o n, .k (.slice none 0 0) => verOf HL j v && isNo' (idAt M.ids j) && isZero o && okT M .i n (.clen (.str []))
  | .vp c i f, .vp c' i' f' => okT M .l c c' && okT M .i i i' && Nat.beq f f'
  | .ifc t h, .ifc t' e => Nat.beq t t' && okV M HL SL h e
  | _, _ => false
def okVs (M : Mt) (HL SL : List Ob) : List LV → List LV → Bool
  | [], [] => true
  | h :: hs, e :: es => okV M HL SL h e && okVs M HL SL hs es
  | _, _ => false
end
def okOb (M : Mt) (HL SL : List Ob) (id : Option (Option Nat)) (h : Ob) : Bool :=
  match id with
  | none => match h with
    | ⟨0, .hole⟩ => true
    | _ => false
  | some none => match h.o with
    | .row c _ sz => okT M .l c (.str []) && Nat.ble 1 sz
    | _ => false
  | some (some k) => match getO SL k with
    | none => false
    | some e => match h.o, e.o with
      | .box cs t, .box es t' => Nat.beq t t' && okVs M HL SL cs es
      | .row c t sz, .row d t' sz' => Nat.beq t t' && Nat.beq sz sz' && okT M .l c d
      | .mp c vk, .mp d vk' => Nat.beq vk vk' && okT M .l c d
      | .iter s p, .iter s' p' => okT M .s s s' && okT M .i p p'
      | _, _ => false
def okObs (M : Mt) (HL SL : List Ob) : Nat → List Ob → Bool
  | _, [] => true
  | j, h :: r => okOb M HL SL (idAt M.ids j) h && okObs M HL SL (j + 1) r
def isIn (k : Nat) : List (Option (Option Nat)) → Bool
  | [] => false
  | some (some j) :: r => Nat.beq j k || isIn k r
  | _ :: r => isIn k r
def apart : List (Option (Option Nat)) → Bool
  | [] => true
  | some (some j) :: r => !isIn j r && apart r
  | _ :: r => apart r
def okM' (M : Mt) (H S : St) : Bool :=
  Nat.ble M.n0 S.n && Nat.beq H.n (M.n0 + M.θ.length) && Nat.beq M.ids.length H.L.length && apart M.ids && okVs M H.L S.L H.F S.F && okObs M H.L S.L 0 H.L && okVs M H.L S.L H.G S.G

/- the guess of what stands for what -/
structure Gs where
  θ : List (Nat × Srt × E)
  ids : List (Nat × Option Nat)
def gsE (n0 : Nat) (q : Srt) (h e : E) (G : Gs) : Gs :=
  match h with
  | .var m => bif Nat.ble n0 m then { G with θ := (m, q, e) :: G.θ } else G
  | _ => G
mutual
def gsV (n0 : Nat) : LV → LV → Gs → Gs
  | .b h, .b e, G => gsE n0 .b h e G
  | .i _ h, .i _ e, G => gsE n0 .i h e G
  | .s h, .s e, G => gsE n0 .s h e G
  | .vs h, .vs e, G => gsE n0 .l h e G
  | .vs h, .k _, G => gsE n0 .l h (.str []) G
  | .agg cs, .agg es, G => gsVs n0 cs es G
  | .tup cs, .tup es, G => gsVs n0 cs es G
  | .fn _ cs, .fn _ es, G => gsVs n0 cs es G
  | .mp j _, .mp id _, G => { G with ids := (j, some id) :: G.ids }
  | .ptr j _ _, .ptr id _ _, G => { G with ids := (j, some id) :: G.ids }
  | .rs j _ o n, .rs id _ o' n', G => gsE n0 .i o o' (gsE n0 .i n n' { G with ids := (j, some id) :: G.ids })
  | .rs j _ _ n, .k _, G => gsE n0 .i n (.clen (.str [])) { G with ids := (j, none) :: G.ids }
  | .vp c i _, .vp c' i' _, G => gsE n0 .l c c' (gsE n0 .i i i' G)
  | .ifc _ h, .ifc _ e, G => gsV n0 h e G
  | _, _, G => G
def gsVs (n0 : Nat) : List LV → List LV → Gs → Gs
  | h :: hs, e :: es, G => gsVs n0 hs es (gsV n0 h e G)
  | _, _, G => G
end
def lookN {α : Type} : List (Nat × α) → Nat → Option α
  | [], _ => none
  | (k, v) :: r, n => bif Nat.beq k n then some v else lookN r n
def gsO (n0 : Nat) (h e : LO) (G : Gs) : Gs :=
  match h, e with
  | .box cs _, .box es _ => gsVs n0 cs es G
  | .row c _ _, .row d _ _ => gsE n0 .l c d G
  | .mp c _, .mp d _ => gsE n0 .l c d G
  | .iter s p, .iter s' p' => gsE n0 .s s s' (gsE n0 .i p p' G)
  | _, _ => G
def gsL (n0 : Nat) (SL : List Ob) : Nat → List Ob → Gs → Gs
  | _, [], G => G
  | j, h :: r, G => gsL n0 SL (j + 1) r (match lookN G.ids j with
    | some (some id) => match getO SL id with
      | some e => gsO n0 h.o e.o G
      | none => G
    | some none => match h.o with
      | .row c _ _ => gsE n0 .l c (.str []) G
      | _ => G
    | none => G)
def gsN (n0 : Nat) (HL SL : List Ob) : Nat → Gs → Gs
  | 0, G => G
  | k + 1, G => gsN n0 HL SL k (gsL n0 SL 0 HL G)
def matchS (n0 : Nat) (H S : St) : Option (List (Srt × E)) :=
  let G := gsN n0 H.L S.L 2 (gsVs n0 H.G S.G (gsVs n0 H.F S.F ⟨[], []⟩))
  let M : Mt := ⟨n0, (List.range (H.n - n0)).map fun k => (lookN G.θ (n0 + k)).getD (.i, .int 0), (List.range H.L.length).map fun j => lookN G.ids j⟩
  bif okM' M H S then some M.θ else none

/-- what does not come under the head -/
def stops (m : Nat) : Tr → List St → List St
  | .br _ t f, acc | .nil _ t f, acc => stops m t (stops m f acc)
  | .need _ _ t, acc | .letC _ t, acc | .call _ _ _ _ _ _ _ t, acc | .loop _ _ t, acc => stops m t acc
  | .stop S k, acc => bif Nat.beq k m then S :: acc else acc
  | _, acc => acc
def joinAll (n0 : Nat) : List St → St → St
  | [], H => H
  | S :: r, H => joinAll n0 r (joinS n0 H S)
def headN (n0 m : Nat) (go : St → Tr) : Nat → St → St
  | 0, H => H
  | k + 1, H => match stops m (go H) [] with
    | [] => H
    | l => headN n0 m go k (joinAll n0 l H)
/-- a head that was told beforehand -/
def hintL (n0 m : Nat) (S : St) : List Hd → Option St
  | [] => none
  | h :: r => bif Nat.beq h.n0 n0 && Nat.beq h.m m then (match matchS n0 ⟨h.F, h.L, h.n, h.G⟩ S with
      | some _ => some ⟨h.F, h.L, h.n, h.G⟩
      | none => hintL n0 m S r) else hintL n0 m S r
def headH (T : Tab) (n0 m : Nat) (go : St → Tr) (k : Nat) (H0 S : St) : St :=
  match hintL n0 m S T.hs with
  | some H => H
  | none => headN n0 m go k H0
/-- rows of one's own that the head takes for closed data -/
def toClose : List LV → List LV → Nat → List Tmp
  | .vs _ :: hs, .rs _ _ _ _ :: es, t => t :: toClose hs es (t + 1)
  | _ :: hs, _ :: es, t => toClose hs es (t + 1)
  | _, _, _ => []
/-- the end of a round -/
def roundT (m n0 : Nat) (H S : St) : Tr :=
  match matchS n0 H S with
  | some θ => .again m θ
  | none => match closeTs (toClose H.F S.F 0) S with
    | some (S', ns) => match matchS n0 H S' with
      | some θ => needs (.bool true) ns (.again m θ)
      | none => .stop S' m
    | none => .stop S m
def marks : List Kont → Nat
  | [] => 0
  | .mark _ _ _ :: K => marks K + 1
  | _ :: K => marks K
def bare : List Kont → List Kont
  | [] => []
  | .code _ :: K => bare K
  | k :: K => k :: bare K

/-- code, carried out; B: which functions are run in place; ret: the slots that hold the results; fin: what comes behind; m0: how many loops there are outside -/
def runB (T : Tab) (B : FuncId → Option Func) : Nat → Nat → (Ex → St → Tr) → Nat → List Kont → St → Tr
  | 0, _, _, _, _, _ => .fail 0
  | _ + 1, _, fin, _, [], S => fin .normal S
  | n + 1, ret, fin, m0, .blk _ :: K, S => runB T B n ret fin m0 K S
  | _ + 1, _, _, _, .mark m n0 H :: _, S => roundT m n0 H S
  | n + 1, ret, fin, m0, .code c :: K, S => match c with
    | .skip | .label _ => runB T B n ret fin m0 K S
    | .seq a b => runB T B n ret fin m0 (.code a :: .code b :: K) S
    | .region _ ops d => bif d then (match peelD B ops with
        | some o => runD T ops.pop S fun S' => runOps T (inlOp T B fun ret' fin' c' S' => runB T B n ret' fin' (m0 + marks K) [.code c'] S') ops [o] S' (fun S' => runB T B n ret fin m0 K S')
        | none => runD T ops S (fun S' => runB T B n ret fin m0 K S'))
      else runOps T (inlOp T B fun ret' fin' c' S' => runB T B n ret' fin' (m0 + marks K) [.code c'] S') ops ops.toList S (fun S' => runB T B n ret fin m0 K S')
    | .cond c x y => match S.ev c with
      | .b (.bool true) => runB T B n ret fin m0 (.code x :: K) S
      | .b (.bool false) => runB T B n ret fin m0 (.code y :: K) S
      | .b e => .br e (runB T B n ret fin m0 (.code x :: K) (known S c true)) (runB T B n ret fin m0 (.code y :: K) (known S c false))
      | .nl e false => .nil e (runB T B n ret fin m0 (.code x :: K) S) (runB T B n ret fin m0 (.code y :: K) S)
      | .nl e true => .nil e (runB T B n ret fin m0 (.code y :: K) S) (runB T B n ret fin m0 (.code x :: K) S)
      | _ => .fail 6
    | .block id c => runB T B n ret fin m0 (.code c :: .blk id :: K) S
    | .loop c =>
      let m := m0 + marks K
      let H := headH T S.n m (fun H => runB T B n ret .done m0 (.code c :: .mark m S.n H :: bare K) H) 5 (prep (lvC c (liveK ret K).2 ret 0) S) S
      match matchS S.n H S with
      | some θ => .loop m θ (runB T B n ret fin m0 (.code c :: .mark m S.n H :: K) H)
      | none => .fail 13
    | .scope c => runB T B n ret fin m0 (.code c :: K) S
    | .exit id => match unwind id K with
      | some K => runB T B n ret fin m0 K S
      | none => .fail 7
    | .ret => fin .ret S
    | _ => .fail 8
def noB : FuncId → Option Func := fun _ => none
def run (T : Tab) (ret : Nat) (n : Nat) (K : List Kont) (S : St) : Tr := runB T noB n ret .done 0 K S
end Go.Proofs.Ytdgjcdhomfhfpaa
