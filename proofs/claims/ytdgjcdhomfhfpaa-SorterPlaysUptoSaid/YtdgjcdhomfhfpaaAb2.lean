/- A symbolic run of Go code over known data, second part: operations, regions, code. No condition. -/
import Derived.Test.YtdgjcdhomfhfpaaAb1
namespace Go.Proofs.Ytdgjcdhomfhfpaa
set_option linter.unusedSimpArgs false
set_option linter.unusedVariables false

structure St where
  F : List LV
  L : List Ob
  n : Nat
  /-- the slots of those who called -/
  G : List LV

def St.ev (S : St) : Operand → LV
  | .tmp t => getL S.F t
  | .const v => lvOf v
  | .global g => .k (.pointer (some ⟨g, 0, none⟩))
  | .func f => .k (.func (.func f) #[] #[])
def St.put (S : St) (dst : Option Tmp) (v : LV) : St :=
  match dst with
  | some d => { S with F := setL S.F d v }
  | none => S

def isClen : E → E → Bool
  | .var a, .clen (.var b) => Nat.beq a b
  | _, _ => false
def mkTake (c n : E) : E := bif isClen c n then c else .take c n
def mkAdd : E → E → E := mkBin (· + ·) .add
def mkAdd0 : E → E → E
  | .int 0, b => b
  | a, .int 0 => a
  | a, b => mkAdd a b
def mkDrop : E → E → E
  | c, .int 0 => c
  | c, n => .drop c n
def mkSub (a b : E) : E :=
  match a, b with
  | a, .int 0 => a
  | a, b => mkBin (· - ·) .sub a b
def cutC (hi : Bool) (c a b : E) : E := bif hi then .take (mkDrop c a) (mkSub b a) else mkDrop c a
def intE : LV → Option E
  | .i _ e => some e
  | _ => none
def optE (d : E) : Option LV → Option E
  | none => some d
  | some v => intE v
def isZero : E → Bool
  | .int 0 => true
  | _ => false
/-- the content that a slice reads as -/
def contentOf (get : Nat → Option Ob) : LV → Option (E × List Need)
  | .vs c => some (c, [])
  | .rs id ver o n => match get id with
    | some ⟨ver', .row c _ _⟩ => bif Nat.beq ver ver' then (bif isZero o && isClen c n then some (c, []) else some (mkTake (mkDrop c o) n, [.le (mkAdd0 o n) (.clen c)])) else none
    | _ => none
  | _ => none
def lenOfLV : LV → Option E
  | .s e => some (mkLen e)
  | .rs _ _ _ n => some n
  | .vs c => some (.clen c)
  | .k (.slice none 0 0) => some (.int 0)
  | _ => none
def lenS (get : Nat → Option Ob) : LV → Option E
  | .rs id ver _ n => match get id with
    | some ⟨ver', _⟩ => bif Nat.beq ver ver' then some n else none
    | none => none
  | .vs c => some (.clen c)
  | .k (.slice none 0 0) => some (.int 0)
  | _ => none
def elemT (T : Tab) (t : TypeId) : Option TypeId :=
  match T.get t with
  | some { desc := .slice e, .. } => some e
  | _ => none
/-- what is put behind -/
def behind (get : Nat → Option Ob) (sz : Nat) (c : E) : LV → Option (DC × E × List Need)
  | .s e => bif Nat.beq sz 1 then some (.appS c e, mkLen e, []) else none
  | .k (.slice none 0 0) => some (.appS c (.str []), .int 0, [])
  | .vs d => some (.app c d, .clen d, [.szAll d sz])
  | .rs id ver o n => match get id with
    | some ⟨_, .row _ _ sz'⟩ => bif Nat.beq sz sz' then match contentOf get (.rs id ver o n) with
        | some (d, ns) => some (.app c d, n, ns)
        | none => none
      else none
    | _ => none
  | _ => none
def sliceOrStr : TypeDesc → Bool
  | .slice _ | .string => true
  | _ => false
/-- where the fields of a struct lie -/
def placesT (T : Tab) : List Field → Option (List (Nat × Nat))
  | [] => some []
  | f :: r => match T.get f.type, placesT T r with
    | some ti, some l => some ((f.offset, ti.size) :: l)
    | _, _ => none
def zeroCells : Value → List LV := fun v => (lvOf v).cells
/-- cells, one by one, of one of two values -/
def pkL (c : E) : List LV → List LV → Option (List LV)
  | [], [] => some []
  | a :: as, b :: bs => match pk c a b, pkL c as bs with
    | some x, some r => some (x :: r)
    | _, _ => none
  | _, _ => none
/-- the cells of one of n elements, from the j-th on: which one is not known -/
def ixL (cs : List LV) (e : E) (sz : Nat) : Nat → Nat → Option (List LV)
  | 0, _ => none
  | n + 1, j => match n with
    | 0 => spanL cs (j * sz) sz
    | _ + 1 => match spanL cs (j * sz) sz, ixL cs e sz n (j + 1) with
      | some a, some b => pkL (.eq e (.int j)) a b
      | _, _ => none

/-- a truth, or its opposite -/
def eqlO (op : BinOp) (b : Bool) : Option Out :=
  match op with
  | .eql => some ⟨[], .b (.bool b), .no⟩
  | .neq => some ⟨[], .b (.bool (!b)), .no⟩
  | _ => none
def isConst : Operand → Bool
  | .const _ => true
  | _ => false
/-- against nil -/
def nilEq (T : Tab) (get : Nat → Option Ob) (op : BinOp) (t : TypeId) (y : Operand) (a b : LV) : Option Out :=
  match b with
  | .k (.pointer none) => match T.get t with
    | some { desc := .pointer _, .. } => match a with
      | .k (.pointer none) => eqlO op true
      | .ptr id ver _ => match get id with
        | some ⟨ver', _⟩ => bif Nat.beq ver ver' then eqlO op false else none
        | none => none
      | .vp _ _ _ => eqlO op false
      | _ => none
    | _ => none
  | .k .nilIface => match T.get t with
    | some { desc := .interface _, .. } => match a with
      | .k .nilIface => bif isConst y then eqlO op true else none
      | .ifc _ _ => eqlO op false
      | _ => none
    | _ => none
  | _ => none
def isIface : TypeDesc → Bool
  | .interface _ => true
  | _ => false
def opRun (T : Tab) (ρ : Operand → LV) (get : Nat → Option Ob) (fresh : Nat) : Op → Option Out
  | .move x | .assign x => some ⟨[], ρ x, .no⟩
  | .alloc e => match T.get e with
    | some { desc := .array n el, zero := some z, size := size, .. } => match T.get el with
      | some { size := sz, .. } => bif (zeroCells z).all LV.shut && Nat.ble 1 sz && Nat.beq (n * sz) size && Nat.beq (zeroCells z).length size && Nat.ble n 1000 then
          some ⟨[], .junk, .newc (.lit ((List.range n).map fun j => ((zeroCells z).drop (j * sz)).take sz)) (fun m => .row m e sz) fun _ => .ptr fresh 1 0⟩ else none
      | _ => none
    | some { zero := some z, .. } => some ⟨[], .ptr fresh 1 0, .new (.box (zeroCells z) e)⟩
    | _ => none
  | .box e x => bif (ρ x).cells.all LV.one then some ⟨[], .ptr fresh 1 0, .new (.box (ρ x).cells e)⟩ else none
  | .build t parts => match T.get t with
    | some { desc := .struct fs, zero := some z, .. } => match placesT T fs.toList with
      | some pl => match fillL (fun i => pl[i]?) (zeroCells z) (parts.toList.map fun (i, x) => (i, ρ x)) with
        | some cs => some ⟨[], .agg cs, .no⟩
        | none => none
      | none => none
    | some { desc := .array _ el, zero := some z, .. } => match T.get el with
      | some { size := sz, .. } => match fillL (fun i => some (i * sz, sz)) (zeroCells z) (parts.toList.map fun (i, x) => (i, ρ x)) with
        | some cs => some ⟨[], .agg cs, .no⟩
        | none => none
      | none => none
    | _ => none
  | .buildSlice t len parts => match T.get t with
    | some { desc := .slice el, .. } => match T.get el with
      | some { zero := some z, size := sz, .. } =>
        match fillL (fun i => some (i * sz, sz)) ((List.range len).flatMap fun _ => zeroCells z) (parts.toList.map fun (i, x) => (i, ρ x)) with
        | some cs => bif cs.all LV.shut && Nat.ble 1 sz && Nat.ble (len * sz) 16777216 && Nat.beq z.cells.size sz && Nat.beq cs.length (len * sz) then
            some ⟨[], .junk, .newc (.lit ((List.range len).map fun j => (cs.drop (j * sz)).take sz)) (fun m => .row m el sz) fun m => .rs fresh 1 (.int 0) (.clen m)⟩ else none
        | none => none
      | _ => none
    | _ => none
  | .load t a => match T.get t, ρ a with
    | some ti, .ptr id ver off => match get id with
      | some ⟨ver', .box cs _⟩ => bif Nat.beq ver ver' then rdB (aggT ti.desc) ti.size cs off else none
      | _ => none
    | some ti, .rp id ver i f => match get id with
      | some ⟨ver', .row c _ _⟩ => bif Nat.beq ver ver' then rdE T t (aggT ti.desc) ti.size c i f else none
      | _ => none
    | some ti, .vp c i f => rdE T t (aggT ti.desc) ti.size c i f
    | _, _ => none
  | .store t a x => match T.get t, ρ a with
    | some ti, .ptr id ver off => match get id with
      | some ⟨ver', .box cs e⟩ => bif Nat.beq ver ver' && (ρ x).cells.all LV.one && Nat.beq (ρ x).cells.length ti.size && Nat.ble (off + ti.size) cs.length then
          some ⟨[], .tup [], .upd id ⟨ver', .box (putL cs off (ρ x).cells) e⟩⟩ else none
      | some ⟨ver', .row c e sz⟩ => match ti.desc with
        | .array n _ => bif Nat.beq ver ver' && (ρ x).cells.all LV.shut && Nat.beq (ρ x).cells.length ti.size && Nat.beq (n * sz) ti.size && Nat.beq off 0 && Nat.ble n 1000 then
            some ⟨[.le (.int n) (.clen c), .le (.clen c) (.int n)], .junk, .updc (.lit ((List.range n).map fun j => ((ρ x).cells.drop (j * sz)).take sz)) id (fun m => ⟨ver', .row m e sz⟩) fun _ => .tup []⟩ else none
        | _ => none
      | _ => none
    | some ti, .rp id ver i f => match get id with
      | some ⟨ver', .row c e sz⟩ => bif Nat.beq ver ver' && (ρ x).cells.all LV.shut && Nat.beq (ρ x).cells.length ti.size && Nat.ble (f + ti.size) sz then
          some ⟨[.ix i (.clen c)], .junk, .updc (.set c i f (ρ x).cells) id (fun m => ⟨ver', .row m e sz⟩) fun _ => .tup []⟩ else none
      | _ => none
    | _, _ => none
  | .binOp op t x y _ => match nilEq T get op t y (ρ x) (ρ y) with
    | some out => some out
    | none => binO T op t (ρ x) (ρ y)
  | .makeInterface t x => match T.get t with
    | some ti => bif isIface ti.desc then none else some ⟨[], .ifc t (ρ x), .no⟩
    | none => none
  | .typeAssert x _ at_ ok => match T.get at_ with
    | some { desc := d, zero := some z, .. } => bif isIface d then none else match ρ x with
      | .ifc t v => bif Nat.beq t at_ then some ⟨[], (bif ok then .tup [v, .b (.bool true)] else v), .no⟩ else bif ok then some ⟨[], .tup [lvOf z, .b (.bool false)], .no⟩ else none
      | .k .nilIface => bif ok then some ⟨[], .tup [lvOf z, .b (.bool false)], .no⟩ else none
      | _ => none
    | _ => none
  | .unOp op _ x => match op, ρ x with
    | .not, .b b => some ⟨[], .b (mkNot b), .no⟩
    | .neg, .i k n => some ⟨[], .i k (mkWr k (mkBin (· - ·) .sub (.int 0) n)), .no⟩
    | _, _ => none
  | .fieldAddr t x f => match T.get t with
    | some { desc := .struct fs, .. } => match fs[f]? with
      | some fl => match T.get fl.type with
        | some { size := _ + 1, .. } => match ρ x with
          | .ptr id ver off => match get id with
            | some ⟨ver', _⟩ => bif Nat.beq ver ver' then some ⟨[], .ptr id ver (off + fl.offset), .no⟩ else none
            | none => none
          | .rp id ver i off => match get id with
            | some ⟨ver', _⟩ => bif Nat.beq ver ver' then some ⟨[], .rp id ver i (off + fl.offset), .no⟩ else none
            | none => none
          | .vp c i off => some ⟨[], .vp c i (off + fl.offset), .no⟩
          | _ => none
        | _ => none
      | none => none
    | _ => none
  | .field t x f => match T.get t, ρ x with
    | some { desc := .struct fs, .. }, .agg cs => match fs[f]? with
      | some fl => match T.get fl.type with
        | some ti => rdB (aggT ti.desc) ti.size cs fl.offset
        | none => none
      | none => none
    | _, _ => none
  | .indexAddr t x ix => match T.get t, intE (ρ ix) with
    | some { desc := .slice el, .. }, some e => match T.get el with
      | some { size := es, .. } => match ρ x with
        | .rs id ver o n => match get id with
          | some ⟨ver', .row _ _ sz⟩ => bif Nat.beq ver ver' && Nat.beq sz es then some ⟨[.ix e n], .rp id ver (mkAdd0 o e) 0, .no⟩ else none
          | _ => none
        | .vs c => some ⟨[.ix e (.clen c), .szAll c es], .vp c e 0, .no⟩
        | _ => none
      | none => none
    | some { desc := .array n el, .. }, some e => match T.get el with
      | some { size := es, .. } => match ρ x with
        | .ptr id ver 0 => match get id with
          | some ⟨ver', .row _ _ sz⟩ => bif Nat.beq ver ver' && Nat.beq sz es then some ⟨[.ix e (.int n)], .rp id ver e 0, .no⟩ else none
          | _ => none
        | _ => none
      | none => none
    | _, _ => none
  | .index t x ix => match T.get t, intE (ρ ix), ρ x with
    | some { desc := .string, .. }, some e, .s s => some ⟨[.ix e (mkLen s)], .i .u8 (.byte s e), .no⟩
    | some { desc := .array n el, .. }, some (.int (.ofNat j)), .agg cs => match T.get el with
      | some ti => bif Nat.blt j n then rdB (aggT ti.desc) ti.size cs (j * ti.size) else none
      | none => none
    | some { desc := .array n el, .. }, some e, .agg cs => match T.get el with
      | some ti => match ixL cs e ti.size n 0 with
        | some l => match aggOr (aggT ti.desc) l with
          | some v => some ⟨[.ix e (.int n)], v, .no⟩
          | none => none
        | none => none
      | none => none
    | _, _, _ => none
  | .slice t x lo hi mx => match T.get t, ρ x, mx with
    | some { desc := .string, .. }, .s s, none => match optE (.int 0) (lo.map ρ), optE (mkLen s) (hi.map ρ) with
      | some a, some b => some ⟨[.cuts a b (mkLen s)], .s (.cut s a b), .no⟩
      | _, _ => none
    | some { desc := .slice el, .. }, .vs c, none => match T.get el, optE (.int 0) (lo.map ρ), optE (.clen c) (hi.map ρ) with
      | some { size := es, .. }, some a, some b => some ⟨[.cuts a b (.clen c), .szAll c es], .vs (cutC hi.isSome c a b), .no⟩
      | _, _, _ => none
    | some { desc := .slice el, .. }, .vs c, some y => match T.get el, optE (.int 0) (lo.map ρ), hi.map ρ, intE (ρ y) with
      | some { size := es, .. }, some a, some hv, some m => match intE hv with
        | some b => some ⟨[.cuts a b m, .le m (.clen c), .szAll c es], .vs (cutC true c a b), .no⟩
        | none => none
      | _, _, _, _ => none
    | some { desc := .slice el, .. }, .rs id ver o n, none => match T.get el, get id, optE (.int 0) (lo.map ρ), optE n (hi.map ρ) with
      | some { size := es, .. }, some ⟨ver', .row _ _ sz⟩, some a, some b => bif Nat.beq ver ver' && Nat.beq sz es then some ⟨[.cuts a b n], .rs id ver (mkAdd0 o a) (mkSub b a), .no⟩ else none
      | _, _, _, _ => none
    | some { desc := .slice el, .. }, .k (.slice none 0 0), none => match T.get el, optE (.int 0) (lo.map ρ), optE (.int 0) (hi.map ρ) with
      | some _, some a, some b => some ⟨[.cuts a b (.int 0)], .k (.slice none 0 0), .no⟩
      | _, _, _ => none
    | some { desc := .array n el, .. }, .ptr id ver 0, none => match T.get el, get id, optE (.int 0) (lo.map ρ), optE (.int n) (hi.map ρ) with
      | some { size := es, .. }, some ⟨ver', .row c _ sz⟩, some a, some b => bif Nat.beq ver ver' && Nat.beq sz es then some ⟨[.cuts a b (.int n), .le (.int n) (.clen c)], .rs id ver a (mkSub b a), .no⟩ else none
      | _, _, _, _ => none
    | _, _, _ => none
  | .extract x k => match ρ x with
    | .tup vs => match atL vs k with
      | some v => some ⟨[], v, .no⟩
      | none => none
    | _ => none
  | .convert s d x => match T.get s, T.get d with
    | some ts, some td => match td.desc, ρ x with
      | .int k, .i _ n => some ⟨[], .i k (mkWr k n), .no⟩
      | .string, .s e => some ⟨[], .s e, .no⟩
      | .slice el, .s e => match ts.desc, T.get el with
        | .string, some { desc := .int .u8, size := 1, .. } => some ⟨[], .junk, .newc (.bytes e) (fun m => .row m el 1) fun m => .rs fresh 1 (.int 0) (.clen m)⟩
        | _, _ => none
      | .string, v => match ts.desc with
        | .slice el => match T.get el, contentOf get v with
          | some { desc := .int .u8, .. }, some (c, ns) => some ⟨ns ++ [.bytesC c], .s (.sOf c), .no⟩
          | _, _ => none
        | _ => none
      | _, _ => none
    | _, _ => none
  | .makeSlice t l c => match T.get t, intE (ρ l), intE (ρ c) with
    | some { desc := .slice el, .. }, some l, some c => match T.get el with
      | some { zero := some z, size := sz, bytes := by_, .. } => bif Nat.ble 1 sz && (zeroCells z).all LV.shut && Nat.beq (zeroCells z).length sz then
          some ⟨[.cuts l l c, .fits c by_], .junk, .newc (.rep l (zeroCells z)) (fun m => .row m el sz) fun m => .rs fresh 1 (.int 0) (.clen m)⟩ else none
      | _ => none
    | _, _, _ => none
  | .nilCheck x => match ρ x with
    | .ptr id ver off => match get id with
      | some ⟨ver', _⟩ => bif Nat.beq ver ver' then some ⟨[], .ptr id ver off, .no⟩ else none
      | none => none
    | .vp c i f => some ⟨[], .vp c i f, .no⟩
    | _ => none
  | .makeFunc fn first captured => bif first.isEmpty && captured.isEmpty then some ⟨[], .k (.func fn #[] #[]), .no⟩ else match fn, first.toList, captured.toList with
      | .func f, [], [x] => bif T.cap f then some ⟨[], .fn f [ρ x], .no⟩ else match ρ x with
        | .ptr id ver 0 => match get id with
          | some ⟨ver', .box cs e⟩ => bif Nat.beq ver ver' && cs.all LV.shut then
              some ⟨[], .junk, .updc (.lit [cs]) id (fun _ => ⟨ver + 1, .row (.str []) e 1⟩) fun m => .fn f [.vp m (.int 0) 0]⟩ else none
          | _ => none
        | .vp c i k => some ⟨[], .fn f [.vp c i k], .no⟩
        | _ => none
      | .func f, [], xs => bif T.cap f then some ⟨[], .fn f (xs.map ρ), .no⟩ else none
      | _, _, _ => none
  | .makeMap t none => match T.get t with
    | some { desc := .map k e, .. } => match T.get k, T.get e with
      | some { desc := .string, .. }, some te => match kindT te.desc with
        | 0 => none
        | vk + 1 => some ⟨[], .mp fresh 1, .new (.mp (.str []) (vk + 1))⟩
      | _, _ => none
    | _ => none
  | .lookup t m k ok => match T.get t, ρ m, ρ k with
    | some { desc := .map kt e, .. }, .mp id ver, .s ke => match get id, T.get kt, T.get e with
      | some ⟨ver', .mp c vk⟩, some { desc := .string, .. }, some { zero := some z, .. } => match lvK vk (.cell c (.mpos c ke) 1) with
        | some v => match pk (.lt (.mpos c ke) (.clen c)) v (litOf z) with
          | some r => bif Nat.beq ver ver' then some ⟨[], (bif ok then .tup [r, .b (.lt (.mpos c ke) (.clen c))] else r), .no⟩ else none
          | none => none
        | none => none
      | _, _, _ => none
    | _, _, _ => none
  | .mapUpdate t m k x => match T.get t, ρ m, ρ k with
    | some { desc := .map kt e, .. }, .mp id ver, .s ke => match get id, T.get kt with
      | some ⟨ver', .mp c vk⟩, some { desc := .string, .. } => bif Nat.beq ver ver' && Nat.beq (kindV (ρ x)) vk && (ρ x).shut && Nat.ble 1 vk then
          some ⟨[], .junk, .updc (.mput c ke (ρ x)) id (fun m => ⟨ver', .mp m vk⟩) fun _ => .tup []⟩ else none
      | _, _ => none
    | _, _, _ => none
  | .range t x => match T.get t, ρ x with
    | some { desc := .string, .. }, .s e => some ⟨[], .ptr fresh 1 0, .new (.iter e (.int 0))⟩
    | _, _ => none
  | .call { callee := .builtin b, args, argTypes } => match b, args.toList, argTypes.toList with
    | .len, [x], [t] => match T.get t with
      | some ti => match ti.desc with
        | .slice _ => match lenS get (ρ x) with
          | some e => some ⟨[], .i .i64 e, .no⟩
          | none => none
        | .string => match ρ x with
          | .s e => some ⟨[], .i .i64 (mkLen e), .no⟩
          | _ => none
        | _ => none
      | none => none
    | .append, [s, x], [st, xt] => match elemT T st, T.get xt with
      | some el, some tx => match T.get el with
        | some { size := sz, bytes := by_, zero := some z, .. } => bif sliceOrStr tx.desc && Nat.ble 1 sz && Nat.beq z.cells.size sz then match ρ s with
          | .rs id ver (.int 0) n => match get id with
            | some ⟨ver', .row c el' sz'⟩ => bif Nat.beq ver ver' && Nat.beq el el' && Nat.beq sz sz' then match behind get sz (mkTake c n) (ρ x) with
                | some (d, m, ns) => some ⟨(bif isClen c n then [] else [.le n (.clen c)]) ++ ns ++ [.fits (mkAdd n m) by_], .junk, .updc d id (fun m => ⟨ver + 1, .row m el sz⟩) fun m => .rs id (ver + 1) (.int 0) (.clen m)⟩
                | none => none
              else none
            | _ => none
          | .k (.slice none 0 0) => match behind get sz (.str []) (ρ x) with
            | some (d, m, ns) => some ⟨ns ++ [.fits m by_], .junk, .newc d (fun m => .row m el sz) fun m => .rs fresh 1 (.int 0) (.clen m)⟩
            | none => none
          | _ => none
          else none
        | _ => none
      | _, _ => none
    | .min, [x, y], _ => match ρ x, ρ y with
      | .i k a, .i k' b => bif kEq k k' then some ⟨[], .i k (mkIte (mkRel (fun x y => decide (x < y)) .lt b a) b a), .no⟩ else none
      | _, _ => none
    | .max, [x, y], _ => match ρ x, ρ y with
      | .i k a, .i k' b => bif kEq k k' then some ⟨[], .i k (mkIte (mkRel (fun x y => decide (x < y)) .lt a b) b a), .no⟩ else none
      | _, _ => none
    | _, _, _ => none
  | _ => none

/-- a value of a type, of new variables -/
def shapeKs : List Nat → Nat → Option (List LV × Nat)
  | [], n => some ([], n)
  | k :: ks, n => match lvK k (.var n), shapeKs ks (n + 1) with
    | some v, some (r, m) => some (v :: r, m)
    | _, _ => none
def shapeT (T : Tab) (t : TypeId) (n : Nat) : Option (LV × Nat) :=
  match T.get t, kindsT T 8 t with
  | some ti, some ks => match shapeKs ks n with
    | some (l, n) => match aggOr (aggT ti.desc) l with
      | some v => some (v, n)
      | none => none
    | none => none
  | _, _ => none
def shapeTs (T : Tab) : List TypeId → Nat → Option (List LV × Nat)
  | [], n => some ([], n)
  | t :: ts, n => match shapeT T t n with
    | some (v, n) => match shapeTs T ts n with
      | some (r, n) => some (v :: r, n)
      | none => none
    | none => none
def shapeR (T : Tab) (t : TypeId) (n : Nat) : Option (LV × Nat) :=
  match T.get t with
  | some { desc := .tuple ts, .. } => match shapeTs T ts.toList n with
    | some (l, n) => some (.tup l, n)
    | none => none
  | _ => shapeT T t n

inductive Ex where
  | normal | ret
inductive Srt where
  | i | b | s | l
  deriving DecidableEq, Inhabited
/-- What is left to do: code; the end of a block; the head of a loop, with what holds there. -/
inductive Kont where
  | code (c : Code)
  | blk (id : Nat)
  | mark (m n0 : Nat) (H : St)
/-- how a row of the caller's own is handed to a call: which argument it is, its elements, and whether it is handed back -/
structure Md where
  i : Nat
  e : TypeId
  sz : Nat
  back : Bool
inductive Tr where
  | done (e : Ex) (S : St)
  | br (c : E) (t f : Tr)
  | need (g : E) (p : Need) (t : Tr)
  | letC (d : DC) (t : Tr)
  | call (md : Option Md) (g : E) (f : FuncId) (args : List LV) (shape : LV) (n m : Nat) (t : Tr)
  | nil (c : E) (t f : Tr)
  | loop (m : Nat) (θ : List (Srt × E)) (t : Tr)
  | again (m : Nat) (θ : List (Srt × E))
  | stop (S : St) (m : Nat)
  | fail (why : Nat)

/-- closed, or a pointer to what is closed -/
def shutV : LV → Bool
  | .vp _ _ _ => true
  | v => v.shut
def isCall (ρ : Operand → LV) : Op → Option (FuncId × List LV)
  | .call { callee := .value x, args, .. } => match ρ x with
    | .k (.func (.func f) a b) => bif a.isEmpty && b.isEmpty then some (f, args.toList.map ρ) else none
    | .fn f caps => bif caps.all shutV then some (f, args.toList.map ρ ++ caps) else none
    | _ => none
  | _ => none
/-- a call that is run in place: a closure may hold pointers -/
def isCallI (T : Tab) (ρ : Operand → LV) : Op → Option (FuncId × List LV)
  | .call { callee := .invoke x s, args, .. } => match ρ x with
    | .ifc t v => match T.meth t s with
      | some f => some (f, v :: args.toList.map ρ)
      | none => none
    | _ => none
  | .call { callee := .value x, args, .. } => match ρ x with
    | .k (.func (.func f) a b) => bif a.isEmpty && b.isEmpty then some (f, args.toList.map ρ) else none
    | .fn f caps => some (f, args.toList.map ρ ++ caps)
    | _ => none
  | _ => none
def isNext : Op → Option Operand
  | .next it true => some it
  | _ => none
def wantE (want : Bool) (e : E) : E := bif want then e else mkNot e
def needs (g : E) : List Need → Tr → Tr
  | [], t => t
  | p :: r, t => .need g p (needs g r t)
def obsOk (n : Nat) : List Ob → Bool
  | [] => true
  | o :: r => o.o.ok n && obsOk n r
/-- the state's variables are those that there are -/
def St.ok (S : St) : Bool := LVs.ok S.n S.F && (obsOk S.n S.L && LVs.ok S.n S.G)
/-- what becomes of memory; then the value -/
def effs (S : St) (v : LV) (e : Eff) (k : St → LV → Tr) : Tr :=
  match e with
  | .no => k S v
  | .new o => k { S with L := S.L ++ [⟨1, o⟩] } v
  | .upd i o => k { S with L := setO S.L i o } v
  | .newc d o v => bif S.ok && d.ok S.n then .letC d (k { S with L := S.L ++ [⟨1, o (.var S.n)⟩], n := S.n + 1 } (v (.var S.n))) else .fail 9
  | .updc d i o v => bif S.ok && d.ok S.n then .letC d (k { S with L := setO S.L i (o (.var S.n)), n := S.n + 1 } (v (.var S.n))) else .fail 9
/-- a result without slices -/
def LV.flat : LV → Bool
  | .b _ | .i _ _ | .s _ => true
  | _ => false
def flat1 : LV → Bool
  | .agg cs => cs.all LV.flat
  | v => v.flat
def flatR : LV → Bool
  | .tup vs => vs.all flat1
  | v => flat1 v
def isRs : LV → Bool
  | .rs .. => true
  | _ => false
def aggV : LV → Bool
  | .agg _ | .vp _ _ _ | .fn _ _ => true
  | _ => false
/-- nil reads as an empty slice -/
def nilV : LV → LV
  | .k (.slice none 0 0) => .vs (.str [])
  | v => v
/-- what is closed, of a call's arguments -/
def shutArg (get : Nat → Option Ob) (v : LV) : Option (LV × List Need) :=
  match v with
  | .k (.slice none 0 0) => some (.vs (.str []), [])
  | .agg cs => bif cs.all LV.shut then some (.agg (cs.map nilV), []) else none
  | .vp _ _ _ => some (v, [])
  | .fn _ cs => bif cs.all shutV then some (v, []) else none
  | .rs .. => match contentOf get v with
    | some (c, ns) => some (.vs c, ns)
    | none => none
  | v => bif LV.shut v then some (v, []) else none
def shutArgs (get : Nat → Option Ob) : List LV → Option (List LV × List Need)
  | [] => some ([], [])
  | v :: r => match shutArg get v, shutArgs get r with
    | some (a, ns), some (b, ms) => some (a :: b, ns ++ ms)
    | _, _ => none

/-- the one row of its own that a call is handed -/
def rsId : List LV → Option Nat
  | [] => none
  | .rs id _ _ _ :: r => bif r.any isRs then none else some id
  | _ :: r => rsId r
/-- that row, given up: it is not written again -/
def frz (get : Nat → Option Ob) (vs : List LV) : Option (Nat × Ob) :=
  match rsId vs with
  | some id => match get id with
    | some ⟨ver, .row _ e sz⟩ => some (id, ⟨ver + 1, .row (.str []) e sz⟩)
    | _ => none
  | none => none

/-- a row that is given up reads as closed data wherever the whole of it stood -/
def fz (L : List Ob) (i : Nat) : LV → LV
  | .rs id ver o n => match getO L i with
    | some ⟨ver', .row c _ _⟩ => bif Nat.beq id i && Nat.beq ver ver' && isZero o && isClen c n then .vs c else .rs id ver o n
    | _ => .rs id ver o n
  | v => v
def freezeS (S : St) (i : Nat) (ob : Ob) : St := { S with F := S.F.map (fz S.L i), L := setO S.L i ob }
/-- a value that has been asked for its truth -/
def known (S : St) (c : Operand) (b : Bool) : St :=
  match c with
  | .tmp t => { S with F := setL S.F t (.b (.bool b)) }
  | _ => S
def isPick : Op → Option (Operand × Operand × Operand)
  | .pick c a b => some (c, a, b)
  | _ => none
def isNo : Eff → Bool
  | .no => true
  | _ => false
/-- where the row stands -/
def rsAt : List LV → Nat → Option (Nat × Nat × Nat × E × E)
  | [], _ => none
  | .rs id ver o n :: r, i => bif r.any isRs then none else some (i, id, ver, o, n)
  | _ :: r, i => rsAt r (i + 1)
/-- a call that may write a row of its caller's own: how, which object, what must hold, what becomes of it, what is handed back -/
structure Mc where
  md : Md
  id : Nat
  ns : List Need
  as_ : List LV
  ob : E → Ob
  v : E → LV
def mcall (T : Tab) (t : TypeId) (f : FuncId) (get : Nat → Option Ob) (args : List LV) : Option Mc :=
  bif Nat.beq t 0 || T.back f then match rsAt args 0 with
    | some (i, id, ver, .int 0, n) => match get id, shutArgs get args with
      | some ⟨ver', .row c e sz⟩, some (as_, ns) => bif Nat.beq ver ver' && (!T.back f || Nat.beq i 0) then
          some { md := ⟨i, e, sz, T.back f⟩, id := id, ns := (bif isClen c n then [] else [.le n (.clen c), .le (.clen c) n]) ++ ns, as_ := as_
                 ob := fun m => ⟨bif T.back f then ver + 1 else ver, .row m e sz⟩, v := fun m => bif T.back f then .rs id (ver + 1) (.int 0) (.clen m) else .tup [] } else none
      | _, _ => none
    | _ => none
  else none
/-- a nil slice handed to a function that hands back a row: a guess alone, for the head of a loop; it owes what cannot be -/
def nilAt (T : Tab) : List LV → List TypeId → Option (TypeId × Nat)
  | .k (.slice none 0 0) :: _, t :: _ => match elemT T t with
    | some e => match T.get e with
      | some ti => some (e, ti.size)
      | none => none
    | none => none
  | _ :: r, _ :: ts => nilAt T r ts
  | _, _ => none
def ncall (T : Tab) (f : FuncId) (args : List LV) : Op → Option (TypeId × Nat)
  | .call c => bif T.back f then nilAt T args c.argTypes.toList else none
  | _ => none
def never : List Need := [.le (.int 1) (.int 0)]
/- rows of one's own that are given up, slot by slot -/
/-- the first cell of a struct that is a row -/
def rsCell : List LV → Nat → Option (Nat × LV)
  | [], _ => none
  | .rs id ver o n :: _, k => some (k, .rs id ver o n)
  | _ :: r, k => rsCell r (k + 1)
def closeCs (t : Tmp) : Nat → St → Option (St × List Need)
  | 0, S => some (S, [])
  | fuel + 1, S => match getL S.F t with
    | .agg cs => match rsCell cs 0 with
      | none => some (S, [])
      | some (k, v) => match contentOf (getO S.L) v, frz (getO S.L) [v] with
        | some (c, ns), some (i, ob) => match closeCs t fuel { S with F := setL S.F t (.agg (setL cs k (.vs c))), L := setO S.L i ob } with
          | some (S', ms) => some (S', ns ++ ms)
          | none => none
        | _, _ => none
    | _ => none
def closeT (t : Tmp) (S : St) : Option (St × List Need) :=
  match getL S.F t with
  | .rs id ver o n => match contentOf (getO S.L) (.rs id ver o n), frz (getO S.L) [.rs id ver o n] with
    | some (c, ns), some (i, ob) => some ({ freezeS S i ob with F := setL (freezeS S i ob).F t (.vs c) }, ns)
    | _, _ => none
  | .agg _ => closeCs t 8 S
  | _ => some (S, [])
def closeTs : List Tmp → St → Option (St × List Need)
  | [], S => some (S, [])
  | t :: r, S => match closeT t S with
    | some (S', ns) => match closeTs r S' with
      | some (S'', ms) => some (S'', ns ++ ms)
      | none => none
    | none => none
def tmpsOf : List Operand → List Tmp
  | [] => []
  | .tmp t :: r => t :: tmpsOf r
  | _ :: r => tmpsOf r
/-- what an operation takes that has to be closed -/
def closeO : Op → List Tmp
  | .buildSlice _ _ parts => tmpsOf (parts.toList.map (·.2))
  | .store _ _ x => tmpsOf [x]
  | .mapUpdate _ _ _ x => tmpsOf [x]
  | .call c => tmpsOf c.args.toList
  | _ => []
/-- a call all whose rows are given up first -/
def closeCall (T : Tab) (o : Oper) (S : St) (k : St → Tr) : Tr :=
  match closeTs (closeO o.op) S with
  | some (S', ns0) => match isCall S'.ev o.op with
    | some (f', args') => match shutArgs (getO S'.L) args', shapeR T o.type S'.n with
      | some (as', ns'), some (sh', m') => bif S'.ok && !args'.any isRs then needs (.bool true) ns0 (needs (.bool true) ns' (.call none (.bool true) f' as' sh' S'.n m' (k ({ S' with n := m' }.put o.dst sh')))) else .fail 9
      | _, _ => .fail 2
    | none => .fail 9
  | none => .fail 9
/-- an operation, carried out -/
def runOp (T : Tab) (o : Oper) (S : St) (k : St → Tr) : Tr :=
  match isCall S.ev o.op with
  | some (f, args) => match mcall T o.type f (getO S.L) args with
    | some M => bif S.ok && needsOk S.n M.ns && LVs.ok S.n M.as_ then needs (.bool true) M.ns (.call (some M.md) (.bool true) f M.as_ (.vs (.var S.n)) S.n (S.n + 1) (k ({ S with n := S.n + 1, L := setO S.L M.id (M.ob (.var S.n)) }.put o.dst (M.v (.var S.n))))) else .fail 9
    | none => match ncall T f args o.op with
    | some (e, sz) => needs (.bool true) never (.letC (.bytes (.str [])) (k (St.put { S with n := S.n + 1, L := S.L ++ [⟨1, .row (.var S.n) e sz⟩] } o.dst (.rs S.L.length 1 (.int 0) (.clen (.var S.n))))))
    | none => match shutArgs (getO S.L) args, shapeR T o.type S.n with
      | some (as_, ns), some (sh, m) => bif !S.ok then .fail 9 else bif args.any isRs && !flatR sh then match frz (getO S.L) args with
          | some (i, ob) => needs (.bool true) ns (.call none (.bool true) f as_ sh S.n m (k ({ freezeS S i ob with n := m }.put o.dst sh)))
          | none => closeCall T o S k
        else needs (.bool true) ns (.call none (.bool true) f as_ sh S.n m (k ({ S with n := m }.put o.dst sh)))
      | _, _ => closeCall T o S k
  | none => match isNext o.op with
    | some it => match S.ev it with
      | .ptr id ver 0 => match getO S.L id with
        | some ⟨ver', .iter s p⟩ => bif Nat.beq ver ver' then
            .br (.lt p (mkLen s)) (k ({ S with L := setO S.L id ⟨ver', .iter s (.add p (.runeW s p))⟩ }.put o.dst (.tup [.b (.bool true), .i .i64 p, .i .i32 (.rune s p)])))
              (k (S.put o.dst (.tup [.b (.bool false)])))
          else .fail 4
        | _ => .fail 4
      | _ => .fail 4
    | none => match isPick o.op with
      | some (c, a, b) => match S.ev c with
        | .b t => match pk t (strip t (S.ev a)) (strip (mkNot t) (S.ev b)) with
          | some v => k (S.put o.dst v)
          | none => .fail 10
        | _ => .fail 10
      | none => match opRun T S.ev (getO S.L) S.L.length o.op with
        | some ⟨ns, v, e⟩ => bif isNo e || needsOk S.n ns then needs (.bool true) ns (effs S v e fun S' v => k (S'.put o.dst v)) else .fail 9
        | none => match closeTs (closeO o.op) S with
          | some (S', ns0) => match opRun T S'.ev (getO S'.L) S'.L.length o.op with
            | some ⟨ns, v, e⟩ => bif isNo e || needsOk S'.n ns then needs (.bool true) ns0 (needs (.bool true) ns (effs S' v e fun S' v => k (S'.put o.dst v))) else .fail 9
            | none => .fail 1000
          | none => .fail 1001
/-- an operation that may be left out, carried out where g holds -/
def runG (T : Tab) (o : Oper) (g : E) (S : St) (k : St → Tr) (other : Unit → Tr) : Tr :=
  match isCall (fun x => strip g (S.ev x)) o.op with
  | some (f, args) => match mcall T o.type f (getO S.L) args with
    | some _ => other ()
    | none => (match shutArgs (getO S.L) args, shapeR T o.type S.n with
    | some (as_, ns), some (sh, m) => bif !S.ok || !g.ok S.n || (args.any isRs && !flatR sh) then .fail 9 else needs g ns (.call none g f as_ sh S.n m (k ({ S with n := m }.put o.dst (.g g sh))))
    | _, _ => other ())
  | none => match isPick o.op with
    | some (c, a, b) => match strip g (S.ev c) with
      | .b t => match pk t (strip (mkAnd g t) (S.ev a)) (strip (mkAnd g (mkNot t)) (S.ev b)) with
        | some v => k (S.put o.dst (.g g v))
        | none => .fail 10
      | _ => .fail 10
    | none => match opRun T (fun x => strip g (S.ev x)) (getO S.L) S.L.length o.op with
      | some ⟨ns, v, e⟩ => bif isNo e then needs g ns (k (S.put o.dst (.g g v))) else other ()
      | none => other ()
/-- where is an operation carried out? -/
def guardE (ops : Array Oper) (F : List LV) : Option (Nat × Bool) → Option E
  | none => some (.bool true)
  | some (j, want) => match (ops[j]?).bind (·.dst) with
    | none => none
    | some d => match getL F d with
      | .b e => some (wantE want e)
      | .g g (.b e) => some (mkAnd g (wantE want e))
      | .tup [] => some (.bool false)
      | _ => none
def knownG (ops : Array Oper) (S : St) : Option (Nat × Bool) → St
  | some (j, want) => match (ops[j]?).bind (·.dst) with
    | some d => { S with F := setL S.F d (.b (.bool want)) }
    | none => S
  | none => S
/-- what holds where g does -/
def ung (g : E) : LV → LV
  | .g h v => bif implies2 g h then v else .g h v
  | v => v
def ungS (g : E) (S : St) : St := { S with F := S.F.map (ung g) }
/-- what holds where a guard does not -/
def knownN (ops : Array Oper) (S : St) : Option (Nat × Bool) → St
  | some (j, want) => match (ops[j]?).bind (·.dst) with
    | some d => match getL S.F d with
      | .b _ => { S with F := setL S.F d (.b (.bool (!want))) }
      | _ => S
    | none => S
  | none => S
/-- an operation whose callee is run in place, or one that is carried out -/
def runI (T : Tab) (inl : Oper → St → (St → Tr) → Option Tr) (o : Oper) (S : St) (k : St → Tr) : Tr :=
  match inl o S k with
  | some t => t
  | none => runOp T o S k
def runOps (T : Tab) (inl : Oper → St → (St → Tr) → Option Tr) (ops : Array Oper) : List Oper → St → (St → Tr) → Tr
  | [], S, k => k S
  | o :: rest, S, k =>
    match guardE ops S.F o.guard with
    | none => .fail 3
    | some (.bool true) => runI T inl o S fun S => runOps T inl ops rest S k
    | some (.bool false) => runOps T inl ops rest (S.put o.dst (.tup [])) k
    | some g => match inl o (knownG ops (ungS g S) o.guard) fun S => runOps T inl ops rest S k with
      | some t => .br g t (runOps T inl ops rest ((knownN ops S o.guard).put o.dst (.tup [])) k)
      | none => runG T o g S (fun S => runOps T inl ops rest S k) fun _ => (.br g (runOp T o (knownG ops (ungS g S) o.guard) fun S => runOps T inl ops rest S k) (runOps T inl ops rest ((knownN ops S o.guard).put o.dst (.tup [])) k))
/- calls that are run in place -/
def resOne (T : Tab) (S : St) : ResultVar → Option (LV × List Need)
  | .tmp t => some (getL S.F t, [])
  | .cell a t => match opRun T S.ev (getO S.L) 0 (.load t (.tmp a)) with
    | some ⟨ns, v, _⟩ => some (v, ns)
    | none => none
def resVals (T : Tab) (S : St) : List ResultVar → Option (List LV × List Need)
  | [] => some ([], [])
  | x :: r => match resOne T S x, resVals T S r with
    | some (v, ns), some (vs, ms) => some (v :: vs, ns ++ ms)
    | _, _ => none
def resV : List LV → LV
  | [v] => v
  | vs => .tup vs
def calleeOf (T : Tab) (B : FuncId → Option Func) (ρ : Operand → LV) (op : Op) : Option (FuncId × Func × List LV) :=
  match isCallI T ρ op with
  | some (f, args) => match B f with
    | some fn => some (f, fn, args)
    | none => none
  | none => none
/-- into a callee -/
def pushS (fn : Func) (as_ : List LV) (S : St) : St := { F := as_ ++ List.replicate (fn.ntmps - as_.length) (.tup []), L := S.L, n := S.n, G := S.F ++ S.G }
/-- and back -/
def popS (k : Nat) (dst : Option Tmp) (v : LV) (S : St) : St := ({ S with F := S.G.take k, G := S.G.drop k } : St).put dst v
def resMask : List ResultVar → Nat
  | [] => 0
  | .tmp t :: r => Nat.lor (Nat.shiftLeft 1 t) (resMask r)
  | .cell a _ :: r => Nat.lor (Nat.shiftLeft 1 a) (resMask r)
def inlOp (T : Tab) (B : FuncId → Option Func) (rn : Nat → (Ex → St → Tr) → Code → St → Tr) (o : Oper) (S : St) (k : St → Tr) : Option Tr :=
  match calleeOf T B S.ev o.op with
  | none => none
  | some (_, fn, args) => match fn.body with
    | none => none
    | some c => bif Nat.ble args.length fn.ntmps && !(fn.name == "runtime.NumGoroutine") then
        some (rn (resMask fn.results.toList) (fun _ S1 => match resVals T S1 fn.results.toList with
          | some (vs, ns) => needs (.bool true) ns (k (popS S.F.length o.dst (resV vs) S1))
          | none => .fail 20) c (pushS fn args S))
      else none

/- regions that draw their order -/
/-- an operation in the order of the text: where it is carried out, what it asks, what it yields, which object it writes, which it looks at -/
structure Ev where
  g : E
  ns : List Need
  call : Option (Option Md × FuncId × List LV × LV × Nat × Nat)
  dc : Option DC
  v : LV
  up : Option (Nat × Ob)
  touch : List Nat
  n : Nat
  S' : St
def LV.id? : LV → Option Nat
  | .ptr id _ _ | .rp id _ _ _ | .rs id _ _ _ | .mp id _ => some id
  | _ => none
def touchOf (ρ : Operand → LV) : List Operand → List Nat
  | [] => []
  | x :: r => match (ρ x).id? with
    | some i => i :: touchOf ρ r
    | none => touchOf ρ r
/-- what an operation looks at the object of -/
@[simp] def lookO : Op → List Operand
  | .store _ a _ => [a]
  | op => op.operands.toList
def touchO (ρ : Operand → LV) : Op → List Nat
  | .move _ | .assign _ => []
  | op => touchOf ρ (lookO op)
def isTrue : E → Bool
  | .bool true => true
  | _ => false
def gv (g : E) (v : LV) : LV := bif isTrue g then v else .g g v
def upS (S : St) : Option (Nat × Ob) → St
  | none => S
  | some (j, ob) => bif Nat.beq j S.L.length then { S with L := S.L ++ [ob] } else { S with L := setO S.L j ob }
/-- value, written object, new content, number of variables -/
def effD (S : St) (g : E) (v : LV) : Eff → Option (LV × Option (Nat × Ob) × Option DC × Nat)
  | .no => some (gv g v, none, none, S.n)
  | .new o => bif isTrue g then some (v, some (S.L.length, ⟨1, o⟩), none, S.n) else none
  | .upd i ob => bif isTrue g && Nat.blt i S.L.length then some (v, some (i, ob), none, S.n) else none
  | .newc d o vf => bif isTrue g && d.ok S.n then some (vf (.var S.n), some (S.L.length, ⟨1, o (.var S.n)⟩), some d, S.n + 1) else none
  | .updc d i o vf => bif isTrue g && Nat.blt i S.L.length && d.ok S.n then some (vf (.var S.n), some (i, o (.var S.n)), some d, S.n + 1) else none
/-- a literal of a slice, closed -/
def litOp (T : Tab) (ρ : Operand → LV) (get : Nat → Option Ob) (fresh : Nat) (op : Op) : Option (List Need × DC) :=
  match op with
  | .buildSlice t len parts => match opRun T ρ get fresh (.buildSlice t len parts) with
    | some ⟨ns, _, .newc d _ _⟩ => some (ns, d)
    | _ => none
  | _ => none
def evOp (T : Tab) (o : Oper) (g : E) (S : St) : Option Ev :=
  match isCall (fun x => strip g (S.ev x)) o.op with
  | some (f, args) => match mcall T o.type f (getO S.L) args with
    | some M => bif isTrue g && Nat.blt M.id S.L.length && needsOk S.n M.ns && LVs.ok S.n M.as_ then
        some ⟨g, M.ns, some (some M.md, f, M.as_, .vs (.var S.n), S.n, S.n + 1), none, M.v (.var S.n), some (M.id, M.ob (.var S.n)), touchO (fun x => strip g (S.ev x)) o.op, S.n, { upS S (some (M.id, M.ob (.var S.n))) with n := S.n + 1 }.put o.dst (M.v (.var S.n))⟩ else none
    | none => match ncall T f args o.op with
    | some (e, sz) => bif isTrue g then some ⟨g, never, none, some (.bytes (.str [])), .rs S.L.length 1 (.int 0) (.clen (.var S.n)), some (S.L.length, ⟨1, .row (.var S.n) e sz⟩), touchO (fun x => strip g (S.ev x)) o.op, S.n, St.put { upS S (some (S.L.length, ⟨1, .row (.var S.n) e sz⟩)) with n := S.n + 1 } o.dst (.rs S.L.length 1 (.int 0) (.clen (.var S.n)))⟩ else none
    | none => match shutArgs (getO S.L) args, shapeR T o.type S.n with
      | some (as_, ns), some (sh, m) => bif needsOk S.n ns && LVs.ok S.n as_ && sh.ok m then
          bif args.any isRs && !flatR sh then match frz (getO S.L) args with
            | some (i, ob) => bif isTrue g && Nat.blt i S.L.length then some ⟨g, ns, some (none, f, as_, sh, S.n, m), none, sh, some (i, ob), touchO (fun x => strip g (S.ev x)) o.op, S.n, { upS S (some (i, ob)) with n := m }.put o.dst sh⟩ else none
            | none => none
          else some ⟨g, ns, some (none, f, as_, sh, S.n, m), none, gv g sh, none, touchO (fun x => strip g (S.ev x)) o.op, S.n, { S with n := m }.put o.dst (gv g sh)⟩ else none
      | _, _ => none
  | none => match isPick o.op with
    | some (c, a, b) => match strip g (S.ev c) with
      | .b t => match pk t (strip (mkAnd g t) (S.ev a)) (strip (mkAnd g (mkNot t)) (S.ev b)) with
        | some v => some ⟨g, [], none, none, gv g v, none, [], S.n, S.put o.dst (gv g v)⟩
        | none => none
      | _ => none
    | none => match bif T.cl then litOp T (fun x => strip g (S.ev x)) (getO S.L) S.L.length o.op else none with
    | some (ns, d) => bif needsOk S.n ns && d.ok S.n then some ⟨g, ns, none, some d, gv g (.vs (.var S.n)), none, touchO (fun x => strip g (S.ev x)) o.op, S.n, { S with n := S.n + 1 }.put o.dst (gv g (.vs (.var S.n)))⟩ else none
    | none => match opRun T (fun x => strip g (S.ev x)) (getO S.L) S.L.length o.op with
      | some ⟨ns, v, e⟩ => match effD S g v e with
        | some (v', up, dc, m) => bif needsOk S.n ns then some ⟨g, ns, none, dc, v', up, touchO (fun x => strip g (S.ev x)) o.op, S.n, { upS S up with n := m }.put o.dst v'⟩ else none
        | none => none
      | none => none
def stepD0 (T : Tab) (ops : Array Oper) (o : Oper) (S : St) : Option Ev :=
  match guardE ops S.F o.guard with
  | none => none
  | some (.bool false) => some ⟨.bool false, [], none, none, .tup [], none, [], S.n, S.put o.dst (.tup [])⟩
  | some g => bif g.ok S.n then evOp T o g S else none
def lookK : List (Nat × Bool) → Nat → Option Bool
  | [], _ => none
  | (d, b) :: r, i => bif Nat.beq d i then some b else lookK r i
/-- a slot that is taken to be known -/
def needB (x : E) (b : Bool) : Need := bif b then .le (.int 1) (.ite x (.int 1) (.int 0)) else .le (.ite x (.int 1) (.int 0)) (.int 0)
def knE (K : List (Nat × Bool)) (dst : Option Tmp) (n : Nat) (e : Ev) : Ev :=
  match dst with
  | none => e
  | some d => match lookK K d with
    | none => e
    | some b => match e.v with
      | .b x => bif isTrue e.g && x.ok n then { e with ns := needB x b :: e.ns, v := .b (.bool b), S' := { e.S' with F := setL e.S'.F d (.b (.bool b)) } } else e
      | _ => e
def stepD (T : Tab) (K : List (Nat × Bool)) (ops : Array Oper) (o : Oper) (S : St) : Option Ev :=
  match stepD0 T ops o S with
  | none => none
  | some e => some (knE K o.dst S.n e)
def chainD (T : Tab) (K : List (Nat × Bool)) (ops : Array Oper) : List Oper → St → Option (List Ev × St)
  | [], S => some ([], S)
  | o :: r, S => match stepD T K ops o S with
    | none => none
    | some e => match chainD T K ops r e.S' with
      | none => none
      | some (l, S') => some (e :: l, S')
def evNode (e : Ev) (t : Tr) : Tr :=
  needs e.g e.ns (match e.call with
    | some (md, f, as_, sh, n, m) => .call md e.g f as_ sh n m t
    | none => match e.dc with
      | some d => .letC d t
      | none => t)
def treeD : List Ev → Tr → Tr
  | [], t => t
  | e :: r, t => evNode e (treeD r t)
/- what waits for what: sets of operations as numbers -/
def getN : List Nat → Nat → Nat
  | [], _ => 0
  | c :: _, 0 => c
  | _ :: r, n + 1 => getN r n
def binds1 (e : Edge) : Bool := Region.binds .any e
def ancF (acc : List Nat) : List Edge → Nat
  | [] => 0
  | e :: r => bif binds1 e then Nat.lor (Nat.lor (getN acc e.on) (Nat.shiftLeft 1 e.on)) (ancF acc r) else ancF acc r
def ancs : List Oper → List Nat → List Nat
  | [], acc => acc
  | o :: r, acc => ancs r (acc ++ [ancF acc o.after.toList])
/-- edges lead back; no two operations write one slot; who looks at a slot waits for who writes it -/
def rowD (ops : Array Oper) (i : Nat) (o : Oper) : Bool :=
  (o.after.all fun e => !binds1 e || Nat.blt e.on i) &&
  (List.range ops.size).all fun j => match ops[j]? with
    | none => true
    | some oj => match oj.dst with
      | none => true
      | some s => (!(o.looksAt ops).contains s || Nat.beq i j || (o.after.any fun e => binds1 e && Nat.beq e.on j) || (Nat.blt i j && oj.after.any fun e => binds1 e && Nat.beq e.on i)) && (o.dst != some s || Nat.beq i j)
def okE (ops : Array Oper) : Bool := Region.noSelect ops && (List.range ops.size).all fun i => match ops[i]? with | none => true | some o => rowD ops i o
/-- who writes an object and who looks at it stand in order -/
def okM1 (A : List Nat) (k id : Nat) : Nat → List Ev → Bool
  | _, [] => true
  | i, e :: r => (Nat.beq i k || !(e.touch.any (Nat.beq id) || (match e.up with | some (j, _) => Nat.beq id j | none => false)) || Nat.testBit (getN A i) k || Nat.testBit (getN A k) i) && okM1 A k id (i + 1) r
def okM (A : List Nat) (all : List Ev) : Nat → List Ev → Bool
  | _, [] => true
  | k, e :: r => (match e.up with | some (id, _) => okM1 A k id 0 all | none => true) && okM A all (k + 1) r
def okD (ops : Array Oper) (evs : List Ev) : Bool := okE ops && okM (ancs ops.toList []) evs 0 evs
/-- the first guard that is not known -/
def forkD (T : Tab) (K : List (Nat × Bool)) (ops : Array Oper) (S : St) : List Oper → Option (Nat × E)
  | [] => none
  | o :: r => match o.guard with
    | none => forkD T K ops S r
    | some (j, _) => match (ops[j]?).bind (·.dst) with
      | none => forkD T K ops S r
      | some d => match chainD T K ops (ops.toList.take (j + 1)) S with
        | none => none
        | some (_, S') => match getL S'.F d with
          | .b (.bool _) => forkD T K ops S r
          | .b e => bif e.ok S.n then some (d, e) else none
          | _ => none
/-- the slots that guards look at -/
def gslots (ops : Array Oper) : List Oper → List Nat
  | [] => []
  | o :: r => match o.guard with
    | none => gslots ops r
    | some (j, _) => match (ops[j]?).bind (·.dst) with
      | some d => d :: gslots ops r
      | none => gslots ops r
def isBoolE : E → Bool
  | .bool _ => true
  | _ => false
/-- is this slot's truth asked for right behind it? -/
def forks (fk : List Nat) (dst : Option Tmp) (e : Ev) (n : Nat) : Option E :=
  match dst, e.v with
  | some d, .b x => bif isInN d fk && isTrue e.g && x.ok n && !isBoolE x then some x else none
  | _, _ => none
/-- the region, operation by operation; behind one that a guard looks at, its truth is asked for -/
def runDF (T : Tab) (ops : Array Oper) (S0 : St) (k : St → Tr) (fk : List Nat) : List Oper → St → List Ev → Tr
  | [], S, acc => bif S0.ok && okD ops acc then k S else .fail 5
  | o :: r, S, acc => match stepD0 T ops o S with
    | none => .fail (2000 + acc.length)
    | some e => match forks fk o.dst e S.n with
      | some x => evNode e (.br x (runDF T ops S0 k fk r (knE [(o.dst.getD 0, true)] o.dst S.n e).S' (acc ++ [knE [(o.dst.getD 0, true)] o.dst S.n e])) (runDF T ops S0 k fk r (knE [(o.dst.getD 0, false)] o.dst S.n e).S' (acc ++ [knE [(o.dst.getD 0, false)] o.dst S.n e])))
      | none => evNode e (runDF T ops S0 k fk r e.S' (acc ++ [e]))
def runDK (T : Tab) (ops : Array Oper) (S : St) (k : St → Tr) : Nat → List (Nat × Bool) → Tr
  | 0, K => match chainD T K ops ops.toList S with
    | some (evs, S') => bif S.ok && okD ops evs then treeD evs (k S') else .fail 5
    | none => .fail 12
  | n + 1, K => match chainD T K ops ops.toList S with
    | some (evs, S') => bif S.ok && okD ops evs then treeD evs (k S') else .fail 5
    | none => match forkD T K ops S ops.toList with
      | some (d, e) => .br e (runDK T ops S k n ((d, true) :: K)) (runDK T ops S k n ((d, false) :: K))
      | none => runDF { T with cl := true } ops S k (gslots ops ops.toList) ops.toList S []
def runD (T : Tab) (ops : Array Oper) (S : St) (k : St → Tr) : Tr := runDK T ops S k 2 []
/-- a call that may be run in place -/
def isInvB (B : FuncId → Option Func) : Op → Bool
  | .call { callee := .invoke _ _, .. } => true
  | .call { callee := .value (.func f), .. } => (B f).isSome
  | _ => false
/-- the last operation waits for all the others -/
def peelOK (ops : Array Oper) : Bool :=
  okE ops && (List.range (ops.size - 1)).all (fun j => Nat.testBit (getN (ancs ops.toList []) (ops.size - 1)) j) && ops.pop.all fun o => match o.guard with
    | none => true
    | some (g, _) => Nat.blt g (ops.size - 1)
def peelD (B : FuncId → Option Func) (ops : Array Oper) : Option Oper :=
  match ops.back? with
  | none => none
  | some o => bif o.guard.isNone && isInvB B o.op && peelOK ops then some o else none
def unwind (id : Nat) : List Kont → Option (List Kont)
  | [] => none
  | .blk id' :: K => bif Nat.beq id' id then some K else unwind id K
  | .code _ :: K => unwind id K
  | .mark _ _ _ :: K => unwind id K
end Go.Proofs.Ytdgjcdhomfhfpaa
