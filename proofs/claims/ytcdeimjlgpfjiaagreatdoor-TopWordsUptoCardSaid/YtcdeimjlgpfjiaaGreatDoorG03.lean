/- A symbolic run of Go code, twelfth part: all operations that leave memory alone. No condition. -/
import Derived.Test.YtcdeimjlgpfjiaaGreatDoorG02
import Derived.Laws.AppendOwn
set_option linter.unusedSimpArgs false
set_option linter.unusedVariables false
namespace Go.Proofs.YtcdeimjlgpfjiaaGreatDoor
section
open Go.RowKit
section
variable {P:Program} {ν:Nu} {w:World} {X:Nat→Prop} {σ:List Pl}
theorem aOG {T:Tab} (hT:TOK P T) {ρ:Operand→LV} {get:Nat→Option Ob} {fresh:Nat} {src dst:TypeId} {x:Operand} {out:Out} (h:aAx T ρ get fresh (.convert src dst x)=some out) {r:Value} (lx:LR ν w X σ (ρ x) r)
 (hk : ∀ id,(ρ x).id? = some id→aBh ν w X σ get id):out.e = .no→aAZ ν out.needs→∃ v,(convert src dst r).run P w = .ok v w∧LR ν w X σ out.v v:=by
 simp only[aAx] at h;split at h
 rotate_left
 · simp at h
 rename_i ts td hgs hgd;have hs:=(hT.get hgs).1;have hd:=(hT.get hgd).1
 have hsrc:(P.underlying src).isSome=true:=by rw[hs]; rfl
 split at h
 · rename_i k k' n hdesc hx;rw[hx] at lx;rw[hdesc] at hd;simp only[LR] at lx;subst lx;simp only[Option.some.injEq] at h;subst h;intro _ _;refine⟨.int k (k.wrap (denI ν n)),?_,by simp only[LR,aH5]⟩;simp only[convert,Sem.run_bind,aAv hs,aAv hd,Result.andThen_ok];cases ts.desc <;> rfl
 · rename_i e hdesc hx;rw[hx] at lx;rw[hdesc] at hd;simp only[LR] at lx;subst lx;simp only[Option.some.injEq] at h;subst h;intro _ _;refine⟨.string (denS ν e),?_,by simp only[LR]⟩;simp only[convert,Sem.run_bind,aAv hs,aAv hd,Result.andThen_ok];cases ts.desc <;> rfl
 · split at h
   · simp only[Option.some.injEq] at h;subst h;intro he;simp at he
   · simp at h
 · rename_i hdesc hnot;rw[hdesc] at hd;split at h
   · rename_i el hsd;rw[hsd] at hs;split at h
     · rename_i _ _ _ _ c ns hge hc;have he:=(hT.get hge).1;simp only[Option.some.injEq] at h;subst h;intro _ hn;exact⟨_,aTb hT hs he hd hc lx hk (fun n hm=>hn n (by simp[hm])) (hn (.bytesC c) (by simp)),by simp only[LR]⟩
     · simp at h
   · simp at h
 · simp at h
theorem aUC {get:Nat→Option Ob} {v:LV} {e:E} (h:lenS get v=some e) {r:Value} (lx:LR ν w X σ v r) {t el:TypeId} (hu:P.underlying t=some (.slice el)) (hk : ∀ id,v.id? = some id→aBh ν w X σ get id) (ty:TypeId) :
 (Builtin.len_ #[t] ty #[r]).run P w = .ok (.int .i64 (denI ν e)) w:=by
 have go : ∀ (a:Option Addr) (len rc:Nat),(Builtin.len_ #[t] ty #[.slice a len rc]).run P w = .ok (.int .i64 len) w:=fun a len rc=>by
  simp[Builtin.len_,aAv hu,goInt]
 unfold lenS at h;split at h
 · rename_i id ver o n;split at h
   · rename_i ver' ob hob;cases hb:Nat.beq ver ver'
     · rw[hb] at h; simp at h
     rw[hb] at h;simp only[cond_true,Option.some.injEq] at h;subst h;obtain⟨a,len,rc,pl,hpl,hver,rfl,hrs,_⟩:=aFv lx (hk id rfl) hob hb;rw[go];rcases hrs with ⟨_,rfl,rfl,rfl,hn,_⟩ | ⟨_,_,_,_,_,hn,_,rfl,_,_⟩
     · rw[hn]; rfl
     · rw[Int.toNat_of_nonneg hn]
   · simp at h
 · rename_i c;simp only[Option.some.injEq] at h;subst h;simp only[LR] at lx;rcases aB6 lx with ⟨hnil,ad,rfl⟩ | ⟨b,o,sz,cap,g,rfl,_⟩
   · rw[go]; simp[denI,hnil]
   · rw[go]; simp[denI]
 · simp only[Option.some.injEq] at h;subst h;simp only[LR] at lx;subst lx;rw[go];simp[denI]
 · simp at h
theorem aLb : ∀ (lvs:List LV) (vs:List Value) (k off:Nat) (cs:List LV) (a:Array Value),LRs ν w X σ lvs vs→LRs ν w X σ cs a.toList →
 LRs ν w X σ (putL cs (off+k) lvs) ((vs.zipIdx k).foldl (fun cs (c,j)=>cs.setIfInBounds (off+j) c) a).toList
 | [],[],k,off,cs,a,_,h=>by simpa[putL] using h
 | c::lvs,v::vs,k,off,cs,a,hl,h=>by
  simp only[LRs] at hl;simp only[putL,List.zipIdx_cons,List.foldl_cons]
  have h1:LRs ν w X σ (setL cs (off+k) c) (a.setIfInBounds (off+k) v).toList:=by
   rw[Array.toList_setIfInBounds];exact aK7 h _ _ _ hl.1
  have:=aLb lvs vs (k+1) off _ _ hl.2 h1
  rw[show off+(k+1)=off+k+1 from by omega] at this;exact this
 | [],_::_,_,_,_,_,hl,_=>by simp only[LRs] at hl
 | _::_,[],_,_,_,_,hl,_=>by simp only[LRs] at hl
theorem aD0 {v:LV} (hv:v.cells.all LV.one=true) {r:Value} (h:LR ν w X σ v r):LRs ν w X σ v.cells r.cells.toList:=by
 have one : ∀ r':Value,r'.cells = #[r']→LR ν w X σ v r'→LRs ν w X σ [v] r'.cells.toList:=fun r' hr h'=>by
  rw[hr];simp only[LRs];exact⟨h',trivial⟩
 cases v with
 | agg cs =>
  simp only[LR] at h;obtain⟨a,rfl,ha⟩:=h;exact ha
 | b e =>
  refine one r ?_ h;simp only[LR] at h;subst h;rfl
 | i k e =>
  refine one r ?_ h;simp only[LR] at h;subst h;rfl
 | s e =>
  refine one r ?_ h;simp only[LR] at h;subst h;rfl
 | k x =>
  refine one r ?_ h;simp only[LR] at h;subst h;simp only[LV.cells,List.all_cons,List.all_nil,Bool.and_true,LV.one] at hv
  cases r <;> first | rfl | simp[aM4] at hv
 | fn f cs =>
  refine one r ?_ h;simp only[LR] at h;obtain⟨_,rfl,_⟩:=h;rfl
 | nl c n =>
  refine one r ?_ h;simp only[LR] at h;obtain⟨_,rfl,_⟩:=h;rfl
 | vs c =>
  refine one r ?_ h;simp only[LR] at h;rcases aB6 h with ⟨_,_,rfl⟩ | ⟨_,_,_,_,_,rfl,_⟩ <;> rfl
 | o e =>
  refine one r ?_ h;simp only[LR] at h;exact aJD h.one
 | vp c i f =>
  refine one r ?_ h;simp only[LR] at h;obtain⟨_,_,_,rfl,_⟩:=h;rfl
 | ifc a b =>
  refine one r ?_ h;simp only[LR] at h;obtain⟨_,rfl,_⟩:=h;rfl
 | mp a b =>
  refine one r ?_ h;simp only[LR] at h;obtain⟨_,_,rfl,_⟩:=h;rfl
 | ptr a b c =>
  refine one r ?_ h;simp only[LR] at h;obtain⟨_,_,rfl,_⟩:=h;rfl
 | rp a b c d =>
  refine one r ?_ h;simp only[LR] at h;obtain⟨_,_,rfl,_⟩:=h;rfl
 | rs a b c d =>
  refine one r ?_ h;simp only[LR] at h;obtain⟨_,_,_,_,rfl,_⟩:=h;rfl
 | tup _=>simp[LV.cells,LV.one] at hv
 | junk=>simp[LV.cells,LV.one] at hv
 | g _ _=>simp[LV.cells,LV.one] at hv
theorem aEX {place:Nat→Option (Nat×Nat)} {ρ:Operand→LV} {val:Operand→Value} : ∀ (ps:List (Nat×Operand)) (cs:List LV) (a:Array Value) (l:List LV),
 aLH place cs (ps.map fun (i,x)=>(i,ρ x))=some l→LRs ν w X σ cs a.toList→(∀ p∈ps,LR ν w X σ (ρ p.2) (val p.2)) →
 ∃ a',Instr.fill place a (ps.map fun (i,x)=>(i,val x))=some a'∧LRs ν w X σ l a'.toList
 | [],cs,a,l,h,ha,_=>by
  simp only[List.map_nil,aLH,Option.some.injEq] at h;subst h;exact⟨a,rfl,ha⟩
 | (i,x)::ps,cs,a,l,h,ha,hp=>by
  simp only[List.map_cons,aLH] at h;split at h
  · simp at h
  rename_i off size hpl;cases hb:Nat.beq (ρ x).cells.length size&&Nat.ble (off+size) cs.length&&(ρ x).cells.all LV.one
  · rw[hb] at h; simp at h
  rw[hb] at h;simp only[cond_true] at h;simp only[Bool.and_eq_true] at hb;obtain⟨⟨h1,h2⟩,h3⟩:=hb;have h1:=Nat.eq_of_beq_eq_true h1
  have h2:off+size≤cs.length:=by simpa using h2
  have lx:=aD0 h3 (hp (i,x) (by simp));have len1:=aBe lx;have len2:=aBe ha;simp only[Array.length_toList] at len1 len2;have ha':=aLb _ _ 0 off cs a lx ha;obtain⟨a',hf,la⟩:=aEX ps _ _ l h ha' (fun p hm=>hp p (by simp[hm]));refine⟨a',?_,la⟩;simp only[List.map_cons,Instr.fill,hpl];rw[if_neg (by simp; omega)];rw[←hf]
  congr 1
  rw[←Array.foldl_toList]
  simp
theorem aBR {α:Type} {c:Bool} {a:Option α} {b:α} (h:(bif c then a else none)=some b):a=some b:=by
 cases c
 · simp at h
 · exact h
theorem aAp {α:Type} {c:Bool} {a b:α} (h:(bif c then some a else none)=some b):a=b:=by
 cases c
 · simp at h
 · simpa using h
theorem MapR.len {vk:Nat} {Y:Nat→Prop} : ∀ {es:List MapEntry} {c:List (List CV)},MapR w Y vk es c→es.length=c.length
 | [],[],_=>rfl
 | e::es,el::c,h=>by
  simp only[MapR] at h;simp[MapR.len h.2]
 | [],_::_,h=>by simp[MapR] at h
 | _::_,[],h=>by simp[MapR] at h
theorem MapR.at {vk:Nat} {Y:Nat→Prop} : ∀ {es:List MapEntry} {c:List (List CV)} (_:MapR w Y vk es c) (i:Nat) (e:MapEntry),es[i]? = some e→∃ (s:ByteArray) (cv:CV),c[i]? = some [.v (.string s),cv]∧e.key = .string s∧aBA cv=vk∧CVR w Y cv e.val
 | [],[],_,i,e,hi=>by simp at hi
 | e::es,el::c,h,0,e',hi=>by
  simp only[MapR] at h;simp only[List.getElem?_cons_zero,Option.some.injEq] at hi;subst hi;obtain⟨⟨s,cv,rfl,h2,h3,h4⟩,_⟩:=h;exact⟨s,cv,rfl,h2,h3,h4⟩
 | e::es,el::c,h,i+1,e',hi=>by
  simp only[MapR] at h;simpa using MapR.at h.2 i e' (by simpa using hi)
 | [],_::_,h,_,_,_=>by simp[MapR] at h
 | _::_,[],h,_,_,_=>by simp[MapR] at h
theorem aGY {vk:Nat} {Y:Nat→Prop} (k:ByteArray) : ∀ (es:List MapEntry) (c:List (List CV)) (i:Nat),MapR w Y vk es c→Instr.findNow .string (.string k) es i=some ((es[aBy c k]?).map fun e=>(i+aBy c k,e.val))
 | [],[],i,_=>by simp[Instr.findNow]
 | e::es,el::c,i,h=>by
  simp only[MapR] at h;obtain⟨⟨s,cv,rfl,h2,h3,h4⟩,h5⟩:=h;simp only[Instr.findNow,h2,Instr.sameNow];cases hb:k==s
  · have:aBy ([.v (.string s),cv]::c) k=aBy c k+1:=by simp[aBy,List.findIdx_cons,CV.str,hb]
    rw[this,aGY k es c (i+1) h5];simp only[List.getElem?_cons_succ]
    congr 2
    funext e'
    rw[show i+1+aBy c k=i+(aBy c k+1) by omega]
  · have:aBy ([.v (.string s),cv]::c) k=0:=by simp[aBy,List.findIdx_cons,CV.str,hb]
    rw[this]
    simp
 | [],_::_,_,h=>by simp[MapR] at h
 | _::_,[],_,h=>by simp[MapR] at h
theorem aQt {get:Nat→Option Ob} {id ver:Nat} {r:Value} (lx:LR ν w X σ (.mp id ver) r) (hk:aBh ν w X σ get id) {ob:Ob} (hob:get id=some ob) (hv:Nat.beq ver ob.ver=true) :
 ∃ b c pl,σ[id]? = some pl∧pl.ver=ob.ver∧pl.at_=some (b,c)∧r = .map (some b)∧OR ν w X σ pl ob.o:=by
 simp only[LR] at lx;obtain⟨p,pl,rfl,hpl,hle,hlive⟩:=lx;obtain⟨pl',hpl',hver,ho⟩:=hk _ hob
 obtain rfl:pl=pl':=by rw[hpl] at hpl'; simpa using hpl'
 obtain rfl:=Nat.eq_of_beq_eq_true hv;obtain⟨b,c,hat,rfl⟩:=hlive hver.symm;exact⟨b,c,pl,hpl,hver,hat,rfl,ho⟩
theorem aNm {T:Tab} (hT:TOK P T) {ρ:Operand→LV} {get:Nat→Option Ob} {fresh:Nat} {t:TypeId} {m k:Operand} {ok:Bool} {out:Out} (h:aAx T ρ get fresh (.lookup t m k ok)=some out) {rm rk:Value} (lm:LR ν w X σ (ρ m) rm) (lk:LR ν w X σ (ρ k) rk)
 (hk : ∀ id,(ρ m).id? = some id→aBh ν w X σ get id):aBC P ν w X σ out ((Instr.lookup t rm rk ok).run P w):=by
 simp only[aAx] at h;split at h
 rotate_left
 · simp at h
 rename_i kt e _ _ _ _ id ver ke hg hm hke;split at h
 rotate_left
 · simp at h
 rename_i ver' c vk _ _ _ _ _ _ _ z _ hob hgk hge;split at h
 rotate_left
 · simp at h
 rename_i v hv;split at h
 rotate_left
 · simp at h
 rename_i r hr;cases hb:Nat.beq ver ver'
 · rw[hb] at h; simp at h
 rw[hb] at h;simp only[cond_true,Option.some.injEq] at h;subst h;refine⟨rfl,fun _=>?_⟩;rw[hm] at lm hk;rw[hke] at lk;simp only[LR] at lk;subst lk;obtain⟨b,cc,pl,hpl,hver,hat,rfl,ho⟩:=aQt lm (hk id rfl) hob hb;obtain⟨b',c0,es,clock,hat',hh,hR⟩:=ho;rw[hat] at hat';simp only[Option.some.injEq,Prod.mk.injEq] at hat';obtain⟨rfl,rfl⟩:=hat';obtain⟨hu,_⟩:=hT.get hg;obtain⟨huk,_⟩:=hT.get hgk;obtain⟨_,⟨ie,hie,_,_,hz⟩,_⟩:=hT.get hge;simp only at hu huk hz;have hz:=hz z rfl;have hf:=aGY (denS ν ke) es.toList (denC ν c) 0 hR;have hlen:=hR.len;have hck:=MapKept.run_checkKey (w:=w) huk (k:=.string (denS ν ke)) trivial es.isEmpty 9999
 have hlt:denB ν (.lt (.mpos c ke) (.clen c))=decide (aBy (denC ν c) (denS ν ke)<(denC ν c).length):=by
  simp only[denB,denI];exact decide_eq_decide.2 (by omega)
 have key : ∃ (x:Value),LR ν w X σ r x∧(Instr.lookup t (.map (some b)) (.string (denS ν ke)) ok).run P w = .ok (if ok then .tuple #[x,.bool (decide (aBy (denC ν c) (denS ν ke)<(denC ν c).length))] else x) w:=by
  by_cases hp:aBy (denC ν c) (denS ν ke)<(denC ν c).length
  · have hes:es.toList[aBy (denC ν c) (denS ν ke)]? = some (es.toList[aBy (denC ν c) (denS ν ke)]'(by omega)):=List.getElem?_eq_getElem _;obtain⟨s,cv,h1,h2,h3,h4⟩:=hR.at _ _ hes;refine⟨(es.toList[aBy (denC ν c) (denS ν ke)]'(by omega)).val,?_,?_⟩
    · have:=aOd hr (ν:=ν) (w:=w) (X:=X) (σ:=σ) (ra:=(es.toList[aBy (denC ν c) (denS ν ke)]'(by omega)).val) (rb:=z) (fun _=>aSv hv h3 (by simp only[denI,aAa,Int.toNat_natCast,List.getD,h1]; rfl) h4) (fun _=>aL9 _ _ _ _ _)
      rw[hlt,decide_eq_true hp] at this;simpa using this
    · rw[hes] at hf;simp only[Option.map_some] at hf;simp only[Instr.lookup,Sem.run_bind,aAv hu,Result.andThen_ok,MapKept.run_getObj_map hh,Sem.run_pure,hck,MapKept.run_findKey huk hf,decide_eq_true hp]
  · have hes:es.toList[aBy (denC ν c) (denS ν ke)]? = none:=List.getElem?_eq_none (by omega);refine⟨z,?_,?_⟩
    · have:=aOd hr (ν:=ν) (w:=w) (X:=X) (σ:=σ) (ra:=z) (rb:=z) (fun ht=>by rw[hlt,decide_eq_false hp] at ht; cases ht) (fun _=>aL9 _ _ _ _ _)
      simpa using this
    · rw[hes] at hf;simp only[Option.map_none] at hf;simp only[Instr.lookup,Sem.run_bind,aAv hu,Result.andThen_ok,MapKept.run_getObj_map hh,Sem.run_pure,hck,MapKept.run_findKey huk hf,aCh hie hz,decide_eq_false hp]
 obtain⟨x,lx,hrun⟩:=key;refine⟨_,hrun,?_⟩;cases ok
 · simpa using lx
 · simp only[cond_true,if_true,LR];refine⟨_,rfl,?_⟩;simp only[LRs,LR,hlt,and_true];exact lx
theorem aNo {ρ:Operand→LV} {val:Operand→Value} : ∀ (l:List Operand),(∀ x∈l,LR ν w X σ (ρ x) (val x))→LRs ν w X σ (l.map ρ) (l.map val)
 | [],_=>by simp only[List.map_nil,LRs]
 | x::l,h=>by
  simp only[List.map_cons,LRs];exact⟨h x (by simp),aNo l fun y hy=>h y (by simp[hy])⟩
theorem aQB {op:BinOp} {b:Bool} {out:Out} (h:eqlO op b=some out) {t:TypeId} {ox oy:Operand} {a c:Value} (h1:aA1 P .eql t ox oy a c w = .ok (.bool b) w) (h2:aA1 P .neq t ox oy a c w = .ok (.bool (!b)) w):aBC P ν w X σ out (aA1 P op t ox oy a c w):=by
 unfold eqlO at h;split at h
 · simp only[Option.some.injEq] at h;subst h;exact⟨rfl,fun _=>⟨.bool b,h1,by simp only[LR,denB]⟩⟩
 · simp only[Option.some.injEq] at h;subst h;exact⟨rfl,fun _=>⟨.bool (!b),h2,by simp only[LR,denB]⟩⟩
 · simp at h
theorem aHV (op:BinOp) (t:TypeId) (ox oy:Operand) (a:Value):aA1 P op t ox oy a (.pointer none) w=(binOp op t a (.pointer none)).run P w:=by
 unfold aA1 eqGuard;cases op <;> cases a <;> rfl
theorem aIc (op:BinOp) (t:TypeId) (ox oy:Operand) (u:TypeId) (a:Value):aA1 P op t ox oy (.iface u a) .nilIface w=(binOp op t (.iface u a) .nilIface).run P w:=by
 unfold aA1 eqGuard;cases op <;> rfl
theorem aLB {t:TypeId} {a c:Value} {b:Bool} (hr:(Op.equal t a c).run P w = .ok b w) (h1:binOp .eql t a c=(do pure (.bool (←Op.equal t a c)))) (h2:binOp .neq t a c=(do pure (.bool (!(←Op.equal t a c))))):(binOp .eql t a c).run P w = .ok (.bool b) w∧(binOp .neq t a c).run P w = .ok (.bool (!b)) w:=by
 rw[h1,h2];simp only[Sem.run_bind,hr,Result.andThen_ok,Sem.run_pure,and_self]
theorem aRu {t e:TypeId} (hu:P.underlying t=some (.pointer e)) (a:Option Addr):(Op.equal t (.pointer a) (.pointer none)).run P w = .ok a.isNone w:=by
 show (Op.equalIn 10000 t (.pointer a) (.pointer none)).run P w=_;unfold Op.equalIn;simp only[Sem.run_bind,aAv hu,Result.andThen_ok];cases a <;> rfl
theorem aSb {t:TypeId} {ms:Array (String×TypeId)} (hu:P.underlying t=some (.interface ms)) (u:TypeId) (a:Value):(Op.equal t (.iface u a) .nilIface).run P w = .ok false w:=by
 show (Op.equalIn 10000 t (.iface u a) .nilIface).run P w=_;unfold Op.equalIn;simp only[Sem.run_bind,aAv hu,Result.andThen_ok];rfl
theorem aSp {t:TypeId} {ms:Array (String×TypeId)} (hu:P.underlying t=some (.interface ms)):(Op.equal t .nilIface .nilIface).run P w = .ok true w:=by
 show (Op.equalIn 10000 t .nilIface .nilIface).run P w=_;unfold Op.equalIn;simp only[Sem.run_bind,aAv hu,Result.andThen_ok];rfl
theorem aTH {T:Tab} (hT:TOK P T) {get:Nat→Option Ob} {op:BinOp} {t:TypeId} {x y:Operand} {a b:LV} {out:Out} (h:aTw T get op t y a b=some out) {rx ry:Value} (lx:LR ν w X σ a rx) (ly:LR ν w X σ b ry) (hk : ∀ id,a.id? = some id→aBh ν w X σ get id) :
 aBC P ν w X σ out (aA1 P op t x y rx ry w):=by
 unfold aTw at h;split at h
 · simp only[LR] at ly;subst ly;split at h
   · rename_i hgt;have hu:=(hT.get hgt).1
     have fin : ∀ (a:Option Addr) (b:Bool),a.isNone=b→eqlO op b=some out→aBC P ν w X σ out (aA1 P op t x y (.pointer a) (.pointer none) w):=fun a b hb h=>by
      have:=aLB (w:=w) (aRu hu a) rfl rfl
      rw[hb] at this;exact aQB h (by rw[aHV]; exact this.1) (by rw[aHV]; exact this.2)
     split at h
     · simp only[LR] at lx;subst lx;exact fin none true rfl h
     · rename_i id ver off;split at h
       · rename_i ver' o hob
         have:=aBR h
         have hb:Nat.beq ver ver'=true:=by
          cases hb:Nat.beq ver ver'
          · rw[hb] at h; simp at h
          · rfl
         obtain⟨bb,c,pl,hpl,hver,hat,hv,_⟩:=aCC (ρ:=.junk) lx (hk id rfl) hob hb;subst hv;exact fin _ false rfl this
       · simp at h
     · simp only[LR] at lx;obtain⟨bb,o,g,rfl,_⟩:=lx;exact fin _ false rfl h
     · simp at h
   · simp at h
 · simp only[LR] at ly;subst ly;split at h
   · rename_i hgt;have hu:=(hT.get hgt).1;split at h
     · simp only[LR] at lx;subst lx;have hc:=aBR h
       have hy : ∃ c,y = .const c:=by
        cases y with
        | const c=>exact⟨c,rfl⟩
        | _=>simp[aPl] at h
       obtain⟨c,rfl⟩:=hy
       have:=aLB (w:=w) (aSp hu) rfl rfl
       have hg : ∀ op,aA1 P op t x (.const c) .nilIface .nilIface w=(binOp op t .nilIface .nilIface).run P w:=fun op=>by
        unfold aA1;rw[eqGuard_nil_constR];simp only[Sem.run_bind,Sem.run_pure,Result.andThen_ok]
       exact aQB hc (by rw[hg]; exact this.1) (by rw[hg]; exact this.2)
     · rename_i u _;simp only[LR] at lx;obtain⟨v,rfl,_⟩:=lx
       have:=aLB (w:=w) (aSb hu u v) rfl rfl
       exact aQB h (by rw[aIc]; exact this.1) (by rw[aIc]; exact this.2)
     · simp at h
   · simp at h
 · simp at h
theorem aOs {T:Tab} (hT:TOK P T) {ρ:Operand→LV} {get:Nat→Option Ob} {fresh:Nat} {op:BinOp} {t yt:TypeId} {x y:Operand} {out:Out} (h:aAx T ρ get fresh (.binOp op t x y yt)=some out) {rx ry:Value} (lx:LR ν w X σ (ρ x) rx) (ly:LR ν w X σ (ρ y) ry)
 (hk : ∀ id,(ρ x).id? = some id→aBh ν w X σ get id):aBC P ν w X σ out (aA1 P op t x y rx ry w):=by
 simp only[aAx] at h;split at h
 · rename_i o hn;simp only[Option.some.injEq] at h;subst h;exact aTH hT hn lx ly hk
 · exact aVB hT op t _ _ out h x y _ _ lx ly
theorem aDP {T:Tab} (hT:TOK P T) {ρ:Operand→LV} {get:Nat→Option Ob} {fresh:Nat} {t:TypeId} {x:Operand} {out:Out} (h:aAx T ρ get fresh (.makeInterface t x)=some out) {r:Value} (lx:LR ν w X σ (ρ x) r):aBC P ν w X σ out ((Instr.makeInterface t r).run P w):=by
 simp only[aAx] at h;split at h
 rotate_left
 · simp at h
 rename_i ti hg;have hu:=(hT.get hg).1;cases hi:aDM ti.desc
 rotate_left
 · rw[hi] at h; simp at h
 rw[hi] at h;simp only[cond_false,Option.some.injEq] at h;subst h;refine⟨rfl,fun _=>⟨.iface t r,?_,by simp only[LR]; exact⟨r,rfl,lx⟩⟩⟩;simp only[Instr.makeInterface,Sem.run_bind,aAv hu,Result.andThen_ok];cases hd:ti.desc <;> simp[hd,aDM] at hi ⊢
theorem aGa {T:Tab} (hT:TOK P T) {ρ:Operand→LV} {get:Nat→Option Ob} {fresh:Nat} {xt at_:TypeId} {ok:Bool} {x:Operand} {out:Out} (h:aAx T ρ get fresh (.typeAssert x xt at_ ok)=some out) {r:Value} (lx:LR ν w X σ (ρ x) r):aBC P ν w X σ out ((Instr.typeAssert r xt at_ ok).run P w):=by
 simp only[aAx] at h;split at h
 rotate_left
 · simp at h
 rename_i d _ _ z _ hg;obtain⟨hu,⟨i,hi,_,_,hzz⟩,_⟩:=hT.get hg;have hz:i.zero=some z:=hzz z rfl;clear hzz;cases hif:aDM d
 rotate_left
 · rw[hif] at h; simp at h
 rw[hif] at h;simp only[cond_false] at h
 have run : ∀ v:Value,(Instr.typeAssert v xt at_ ok).run P w=(match v with
  | .iface t u=>if t=at_ then (.ok (if ok then .tuple #[u,.bool true] else u) w) else (if ok then .ok (.tuple #[z,.bool false]) w else (Instr.typeAssert v xt at_ ok).run P w)
  | .nilIface=>if ok then .ok (.tuple #[z,.bool false]) w else (Instr.typeAssert v xt at_ ok).run P w
  | _=>(Instr.typeAssert v xt at_ ok).run P w):=fun v=>by
  cases v with
  | iface t u =>
   simp only[];by_cases ht:t=at_
   · subst ht;simp only[Instr.typeAssert,Sem.run_bind,aAv hu,Result.andThen_ok,if_true];cases d <;> simp[aDM] at hif ⊢
   · rw[if_neg ht];cases ok
     · simp
     · simp only[Instr.typeAssert,Sem.run_bind,aAv hu,Result.andThen_ok,if_true];cases d <;> simp[aDM,ht,aCh hi hz] at hif ⊢
  | nilIface =>
   simp only[];cases ok
   · simp
   · simp only[Instr.typeAssert,Sem.run_bind,aAv hu,Result.andThen_ok,if_true];cases d <;> simp[aDM,aCh hi hz] at hif ⊢
  | _=>rfl
 split at h
 · rename_i t v hx;rw[hx] at lx;simp only[LR] at lx;obtain⟨u,rfl,lu⟩:=lx;cases hb:Nat.beq t at_
   · rw[hb] at h;simp only[cond_false] at h
     have hne : ¬ t=at_:=fun e=>by subst e; simp at hb
     cases ok
     · simp at h
     · simp only[cond_true,Option.some.injEq] at h;subst h;refine⟨rfl,fun _=>⟨.tuple #[z,.bool false],?_,?_⟩⟩
       · rw[run]; simp[hne]
       · simp only[LR];exact⟨_,rfl,by simp only[LRs,LR,denB]; exact⟨aNV ν w X σ z,trivial,trivial⟩⟩
   · rw[hb] at h;obtain rfl:=Nat.eq_of_beq_eq_true hb;simp only[cond_true,Option.some.injEq] at h;subst h;cases ok
     · refine⟨rfl,fun _=>⟨u,?_,lu⟩⟩;rw[run]; simp
     · refine⟨rfl,fun _=>⟨.tuple #[u,.bool true],?_,?_⟩⟩
       · rw[run]; simp
       · simp only[cond_true,LR];exact⟨_,rfl,by simp only[LRs,LR,denB]; exact⟨lu,trivial,trivial⟩⟩
 · rename_i hx;rw[hx] at lx;simp only[LR] at lx;subst lx;cases ok
   · simp at h
   · simp only[cond_true,Option.some.injEq] at h;subst h;refine⟨rfl,fun _=>⟨.tuple #[z,.bool false],?_,?_⟩⟩
     · rw[run]; simp
     · simp only[LR];exact⟨_,rfl,by simp only[LRs,LR,denB]; exact⟨aNV ν w X σ z,trivial,trivial⟩⟩
 · simp at h
theorem aQl {T:Tab} (hT:TOK P T) {ρ:Operand→LV} {val:Operand→Value} {get:Nat→Option Ob} {fresh:Nat} (o:Oper) {out:Out} (h:aAx T ρ get fresh o.op=some out) (he:out.e = .no)
 (hρ : ∀ x∈o.op.operands,LR ν w X σ (ρ x) (val x)) (hk : ∀ x∈lookO o.op,∀ id,(ρ x).id? = some id→aBh ν w X σ get id) (hn:aAZ ν out.needs) :
 ∃ v,(execOp val o).run P w = .ok (.value v) w∧LR ν w X σ out.v v:=by
 obtain⟨dst,op,type,pos,after,guard⟩:=o
 have lift : ∀ (s:Sem Value),(∃ v,s.run P w = .ok v w∧LR ν w X σ out.v v)→∃ v,(do pure (Next.value (←s)):Sem Next).run P w = .ok (.value v) w∧LR ν w X σ out.v v:=by
  rintro s ⟨v,hv,lv⟩;exact⟨v,by simp[hv],lv⟩
 have of : ∀ (s:Sem Value),aBC P ν w X σ out (s.run P w)→∃ v,(do pure (Next.value (←s)):Sem Next).run P w = .ok (.value v) w∧LR ν w X σ out.v v:=fun s hs=>lift s (hs.2 hn);cases op
 case move x =>
  simp only[aAx,Option.some.injEq] at h;subst h;exact⟨_,rfl,hρ x (by simp[Op.operands])⟩
 case assign x =>
  simp only[aAx,Option.some.injEq] at h;subst h;exact⟨_,rfl,hρ x (by simp[Op.operands])⟩
 case load t x=>exact of _ (aQz hT h (hρ x (by simp[Op.operands])) (hk x (by simp[Op.operands])))
 case binOp op t x y yt =>
  have:=aOs hT h (hρ x (by simp[Op.operands])) (hρ y (by simp[Op.operands])) (hk x (by simp[Op.operands]))
  exact of _ this
 case makeInterface t x=>exact of _ (aDP hT h (hρ x (by simp[Op.operands])))
 case typeAssert x xt at_ ok=>exact of _ (aGa hT h (hρ x (by simp[Op.operands])))
 case fieldAddr t x f=>exact of _ (aHw hT h (hρ x (by simp[Op.operands])) (hk x (by simp[Op.operands])))
 case field t x f=>exact of _ (aPY hT h (hρ x (by simp[Op.operands])))
 case indexAddr t x ix=>exact of _ (aHE hT h (hρ x (by simp[Op.operands])) (hρ ix (by simp[Op.operands])) (hk x (by simp[Op.operands])))
 case index t x ix=>exact of _ (aPp hT h (hρ x (by simp[Op.operands])) (hρ ix (by simp[Op.operands])))
 case extract x k=>exact of _ (aJ5 h (hρ x (by simp[Op.operands])))
 case slice t x lo hi mx=>exact of _ (aOJ hT h (hρ x (by simp[Op.operands])) (fun y hy=>hρ y (by simp[Op.operands,hy])) (fun y hy=>hρ y (by simp[Op.operands,hy])) (fun y hy=>hρ y (by simp[Op.operands,hy])) (hk x (by simp[Op.operands])))
 case convert s d x=>exact lift _ (aOG hT h (hρ x (by simp[Op.operands])) (hk x (by simp[Op.operands])) he hn)
 case lookup t m k ok =>
  exact of _ (aNm hT h (hρ m (by simp[Op.operands])) (hρ k (by simp[Op.operands])) (hk m (by simp[Op.operands])))
 case makeMap t r =>
  exfalso
  cases r with
  | some x=>simp[aAx] at h
  | none =>
   simp only[aAx] at h
   (repeat' split at h) <;> first
    | (simp at h; done)
    | (simp only[Option.some.injEq] at h; subst h; simp at he; done)
 case nilCheck x =>
  have lx:=hρ x (by simp[Op.operands]);have hkx:=hk x (by simp[Op.operands]);simp only[aAx] at h;split at h
  · rename_i id ver off hx;rw[hx] at lx hkx;split at h
    · rename_i ver' _ hob
      have hb:Nat.beq ver ver'=true:=by
       cases hb:Nat.beq ver ver'
       · rw[hb] at h; simp at h
       · rfl
      rw[hb] at h;simp only[cond_true,Option.some.injEq] at h;subst h;obtain⟨b,c,pl,hpl,hver,hat,hv,_⟩:=aCC (ρ:=.junk) lx (hkx id rfl) hob hb;exact⟨val x,by simp[execOp,hv],lx⟩
    · simp at h
  · rename_i c i f hx;rw[hx] at lx;simp only[Option.some.injEq] at h;subst h;have lx':=lx;simp only[LR] at lx';obtain⟨b,o,g,hv,_⟩:=lx';exact⟨val x,by simp[execOp,hv],lx⟩
  · simp at h
 case unOp op t x =>
  have lx:=hρ x (by simp[Op.operands]);simp only[aAx] at h;split at h
  · rename_i b hx;rw[hx] at lx;simp only[LR] at lx;simp only[Option.some.injEq] at h;subst h;exact lift _ ⟨.bool (!denB ν b),by simp[lx,Op.unary],by simp only[LR,aBO]⟩
  · rename_i k n hx;rw[hx] at lx;simp only[LR] at lx;simp only[Option.some.injEq] at h;subst h;exact lift _ ⟨.int k (k.wrap (0 - denI ν n)),by simp[lx,Op.unary,Op.intArith],by simp only[LR,aH5,aDg ν (· - ·) .sub (fun _ _=>rfl),denI]⟩
  · simp at h
 case makeFunc fn first captured =>
  simp only[aAx] at h
  cases hb:first.isEmpty&&captured.isEmpty
  · rw[hb] at h;simp only[cond_false] at h
    have capd : ∀ (f:FuncId) (xs:List Operand),first.toList=[]→captured.toList=xs→out=⟨[],.fn f (xs.map ρ),.no⟩→fn = .func f→∃ v,(do pure (Next.value (←Instr.makeFunc fn (first.map val) (captured.map val))):Sem Next).run P w = .ok (.value v) w∧LR ν w X σ out.v v:=by
     intro f xs h1 h2 h3 h4
     obtain rfl:first = #[]:=by apply Array.toList_inj.1; simpa using h1
     subst h3 h4;refine⟨.func (.func f) #[] (captured.map val),by simp[Instr.makeFunc],?_⟩;simp only[LR];refine⟨_,rfl,?_⟩;rw[Array.toList_map,h2]
     exact aNo (ρ:=ρ) (val:=val) xs fun y hy=>hρ y (by
      simp only[Op.operands];rw[←h2] at hy;simpa using hy)
    split at h
    · rename_i f x hfst hcap;cases hcp:T.cap f
      rotate_left
      · rw[hcp] at h;simp only[cond_true,Option.some.injEq] at h;exact capd f [x] hfst hcap h.symm rfl
      rw[hcp] at h;simp only[cond_false] at h
      obtain rfl:first = #[]:=by apply Array.toList_inj.1; simpa using hfst
      obtain rfl:captured = #[x]:=by apply Array.toList_inj.1; simpa using hcap
      split at h
      · split at h
        · have:=aAp h
          subst this;simp at he
        · simp at h
      · rename_i c i k hx;have lx:=hρ x (by simp[Op.operands]);rw[hx] at lx;simp only[Option.some.injEq] at h;subst h;refine lift _ ⟨.func (.func f) #[] #[val x],by simp[Instr.makeFunc],?_⟩;simp only[LR];exact⟨_,rfl,by simp only[LRs]; exact⟨lx,trivial⟩⟩
      · simp at h
    · rename_i f hfst _;have h:=aAp h;exact capd f _ hfst rfl h.symm rfl
    · simp at h
  rw[hb] at h;simp only[cond_true,Option.some.injEq] at h;subst h;simp only[Bool.and_eq_true,Array.isEmpty_iff] at hb;obtain⟨rfl,rfl⟩:=hb;exact lift _ ⟨.func fn #[] #[],by simp[Instr.makeFunc],by simp only[LR]⟩
 case build t parts =>
  have lp : ∀ p∈parts.toList,LR ν w X σ (ρ p.2) (val p.2):=fun p hp=>hρ p.2 (by
   simp only[Op.operands];simp only[List.mem_toArray,List.mem_map];exact⟨p,hp,rfl⟩)
  have fr : ∀ z:Value,LRs ν w X σ (zeroCells z) z.cells.toList:=fun z=>by
   have:=aNV ν w X σ z
   cases z with
   | agg cs=>simpa[zeroCells,lvOf,LV.cells,Value.cells] using aD9 ν w X σ cs.toList
   | tuple vs =>
    simp only[zeroCells,lvOf,LV.cells,Value.cells,LRs];exact⟨by simpa only[lvOf] using this,trivial⟩
   | _ =>
    simp only[zeroCells,lvOf,aFO,LV.cells,Value.cells,LRs];exact⟨by simpa only[lvOf,aFO] using this,trivial⟩
  simp only[aAx] at h;split at h
  · rename_i fs _ _ z _ hg;obtain⟨hu,⟨i,hi,hs,_,hz⟩,_⟩:=hT.get hg;simp only at hu;split at h
    rotate_left
    · simp at h
    rename_i pl hpl;split at h
    rotate_left
    · simp at h
    rename_i cs hcs;simp only[Option.some.injEq] at h;subst h;obtain⟨a',hf,la⟩:=aEX (val:=val) parts.toList _ _ cs hcs (fr z) lp;refine lift _ ⟨.agg a',?_,by simp only[LR]; exact⟨a',rfl,la⟩⟩
    have hm : ∀ (l:List Field) (ps:List (Nat×Nat)),aGC T l=some ps→(l.mapM fun f=>(do pure (f.offset,←sizeOf f.type):Sem (Nat×Nat))).run P w = .ok ps w:=by
     intro l
     induction l with
     | nil=>intro ps hps; simp only[aGC,Option.some.injEq] at hps; subst hps; simp
     | cons f l ih =>
      intro ps hps;simp only[aGC] at hps;split at hps
      · rename_i ti l' hgf hpl';simp only[Option.some.injEq] at hps;subst hps;obtain⟨_,⟨i',hi',hs',_,_⟩,_⟩:=hT.get hgf;rw[List.mapM_cons];simp only[Sem.run_bind,aAM hi',hs',Result.andThen_ok,ih l' hpl',Sem.run_pure]
      · simp at hps
    have hm':=hm fs.toList pl hpl;simp only[Instr.build,Sem.run_bind,aCh hi (hz z rfl),Result.andThen_ok,aAv hu];rw[Array.mapM_eq_mapM_toList];simp only[Sem.run_map,hm',Result.andThen_ok];rw[show (parts.map fun x=>(x.1,val x.2)).toList=parts.toList.map fun x=>(x.1,val x.2) from by simp]
    have hf':Instr.fill (fun x=>pl.toArray[x]?) z.cells (parts.toList.map fun x=>(x.1,val x.2))=some a':=by
     rw[←hf]
     congr 1
     funext x
     simp
    rw[hf'];rfl
  · rename_i n el _ _ z _ hg;obtain⟨hu,⟨i,hi,hs,_,hz⟩,_⟩:=hT.get hg;simp only at hu;split at h
    rotate_left
    · simp at h
    rename_i _ sz _ _ _ hg2;split at h
    rotate_left
    · simp at h
    rename_i cs hcs;simp only[Option.some.injEq] at h;subst h;obtain⟨_,⟨i2,hi2,hs2,_,_⟩,_⟩:=hT.get hg2;simp only at hs2;obtain⟨a',hf,la⟩:=aEX (val:=val) parts.toList _ _ cs hcs (fr z) lp;refine lift _ ⟨.agg a',?_,by simp only[LR]; exact⟨a',rfl,la⟩⟩;simp only[Instr.build,Sem.run_bind,aCh hi (hz z rfl),Result.andThen_ok,aAv hu,aAM hi2,hs2];rw[show (parts.map fun x=>(x.1,val x.2)).toList=parts.toList.map fun x=>(x.1,val x.2) from by simp];rw[hf];rfl
  · simp at h
 case call c =>
  obtain⟨callee,args,argTypes⟩:=c;cases callee
  case builtin b =>
   have go : ∀ (s:Sem Value),(∀ ty cs,(builtin b argTypes ty cs (args.map val))=(do pure (Next.value (←s))))→(∃ v,s.run P w = .ok v w∧LR ν w X σ out.v v) →
    ∃ v,(execOp val ⟨dst,.call ⟨.builtin b,args,argTypes⟩,type,pos,after,guard⟩).run P w = .ok (.value v) w∧LR ν w X σ out.v v:=by
    rintro s hs ⟨v,hv,lv⟩;exact⟨v,by simp[execOp,resolve,invoke,hs,hv],lv⟩
   have arr : ∀ {α:Type} (a:Array α) (l:List α),a.toList=l→a=l.toArray:=fun a l e=>by rw[←e]
   simp only[aAx] at h;split at h
   · rename_i x t hargs htys;obtain rfl:=arr _ _ hargs;obtain rfl:=arr _ _ htys;have lx:=hρ x (by simp[Op.operands,Call.operands]);have hkx:=hk x (by simp[Op.operands,Call.operands]);split at h
     rotate_left
     · simp at h
     rename_i ti hg;have hu:=(hT.get hg).1;split at h
     · rename_i el hd;rw[hd] at hu;split at h
       · rename_i e hle;simp only[Option.some.injEq] at h;subst h;exact go (Builtin.len_ #[t] type #[val x]) (fun ty cs=>by simp[builtin,Builtin.len_]) ⟨_,aUC hle lx hu hkx type,by simp only[LR]⟩
       · simp at h
     · rename_i hd;rw[hd] at hu;split at h
       · rename_i e hx;rw[hx] at lx;simp only[LR] at lx;simp only[Option.some.injEq] at h;subst h;exact go (Builtin.len_ #[t] type #[val x]) (fun ty cs=>by simp[builtin,Builtin.len_]) ⟨.int .i64 (denS ν e).size,by rw[lx]; simp[Builtin.len_,aAv hu,goInt],by simp only[LR,aFL]⟩
       · simp at h
     · simp at h
   · exfalso
     (repeat' (first | split at h | replace h:=aBR h)) <;> first
      | (simp at h; done)
      | (have:=aAp h; subst this; simp at he; done)
      | (simp only[Option.some.injEq] at h; subst h; simp at he; done)
   · rename_i tys x y hargs;obtain rfl:=arr _ _ hargs;have lx:=hρ x (by simp[Op.operands,Call.operands]);have ly:=hρ y (by simp[Op.operands,Call.operands]);split at h
     · rename_i k a k' b hx hy;rw[hx] at lx;rw[hy] at ly;simp only[LR] at lx ly
       have:=aAp h
       subst this
       refine go (Builtin.min_ argTypes type #[val x,val y]) (fun ty cs=>by simp[builtin,Builtin.min_]) ⟨.int k (if denI ν b<denI ν a then denI ν b else denI ν a),?_,?_⟩
       · rw[lx,ly,run_min_int2]
       · simp only[LR,aNv,aDj ν (fun x y=>decide (x<y)) .lt (fun _ _=>rfl),decide_eq_true_eq]
     · simp at h
   · rename_i tys x y hargs;obtain rfl:=arr _ _ hargs;have lx:=hρ x (by simp[Op.operands,Call.operands]);have ly:=hρ y (by simp[Op.operands,Call.operands]);split at h
     · rename_i k a k' b hx hy;rw[hx] at lx;rw[hy] at ly;simp only[LR] at lx ly
       have:=aAp h
       subst this
       refine go (Builtin.max_ argTypes type #[val x,val y]) (fun ty cs=>by simp[builtin,Builtin.max_]) ⟨.int k (if denI ν b > denI ν a then denI ν b else denI ν a),?_,?_⟩
       · rw[lx,ly,run_max_int2]
       · simp only[LR,aNv,aDj ν (fun x y=>decide (x<y)) .lt (fun _ _=>rfl),decide_eq_true_eq]
     · simp at h
   · simp at h
  all_goals simp[aAx] at h
 all_goals
  exfalso;simp only[aAx] at h
  (repeat' split at h) <;> first
   | (simp at h; done)
   | (have:=aAp h; subst this; simp at he; done)
   | (simp only[Option.some.injEq] at h; subst h; simp at he; done)
end
end
section
open Go.RowKit
def SzKept (w w':World):Prop:=∀ (b:Nat) (a:Array Value) (e:TypeId) (fr:Nat×Nat),w.heap[b]? = some (.cells a e fr)→∃ (a':Array Value) (e':TypeId) (fr':Nat×Nat),w'.heap[b]? = some (.cells a' e' fr')∧a'.size=a.size
theorem SzKept.refl (w:World):SzKept w w:=fun b a e fr h=>⟨a,e,fr,h,rfl⟩
theorem SzKept.trans {w w1 w2:World} (h:SzKept w w1) (k:SzKept w1 w2):SzKept w w2:=fun b a e fr h0=>by
 obtain⟨a1,e1,fr1,h1,h2⟩:=h b a e fr h0;obtain⟨a2,e2,fr2,h3,h4⟩:=k b a1 e1 fr1 h1;exact⟨a2,e2,fr2,h3,h4.trans h2⟩
theorem SzKept.of_heap {w w':World} (h : ∀ b,b<w.heap.size→w'.heap[b]? = w.heap[b]?):SzKept w w':=fun b a e fr h0 =>
 ⟨a,e,fr,by rw[h b (Array.getElem?_eq_some_iff.1 h0).1]; exact h0,rfl⟩
structure Turn (b0:Option Nat) (w w':World):Prop where
 os:w'.os=w.os
 tape:w'.tape=w.tape
 output:w'.output=w.output
 size:w.heap.size≤w'.heap.size
 heap : ∀ b,b<w.heap.size→b0≠some b→w'.heap[b]? = w.heap[b]?
 sz:SzKept w w'
theorem Turn.refl (b0:Option Nat) (w:World):Turn b0 w w:=⟨rfl,rfl,rfl,Nat.le_refl _,fun _ _ _=>rfl,SzKept.refl w⟩
theorem Turn.trans {b0:Option Nat} {w w1 w2:World} (h:Turn b0 w w1) (k:Turn b0 w1 w2):Turn b0 w w2 :=
 ⟨k.os.trans h.os,k.tape.trans h.tape,k.output.trans h.output,Nat.le_trans h.size k.size,fun b hb hn=>(k.heap b (Nat.lt_of_lt_of_le hb h.size) hn).trans (h.heap b hb hn),h.sz.trans k.sz⟩
theorem Turn.below {b0:Option Nat} {w w':World} (h:Turn b0 w w') {B:Nat} (hB:B≤w.heap.size) (hb : ∀ b,b0=some b→B≤b):Below B w w' :=
 ⟨h.os,h.tape,h.output,h.size,fun k hk=>h.heap k (by omega) (fun e=>by have:=hb k e; omega)⟩
theorem Turn.alloc (w:World) (o:Obj):Turn none w (w.alloc o) :=
 ⟨rfl,rfl,rfl,by simp,fun b hb _=>Below.heap_alloc w o b hb,.of_heap fun b hb=>Below.heap_alloc w o b hb⟩
theorem Turn.drew (w:World):Turn none w w.drew:=⟨rfl,rfl,rfl,Nat.le_refl _,fun _ _ _=>rfl,.of_heap fun _ _=>rfl⟩
theorem aAl (w:World) (o:Obj):(w.alloc o).heap[w.heap.size]? = some o:=by
 show (w.heap.push o)[w.heap.size]? = _
 simp
def aUz (n:Next) (r:Value):Prop:=n = .value r∨n = .skip∧r=undef
section
variable {P:Program} {ν:Nu} {w:World} {X:Nat→Prop} {σ:List Pl}
def aTo (w w':World) (pl:Pl):Prop:=pl.at_=none∨∃ c,pl.at_=some (w.heap.size,c)∧w.heap.size<w'.heap.size
def putV (a:Array Value) (o:Nat) (vs:List Value) (k:Nat):Array Value:=(vs.zipIdx k).foldl (fun cs (c,j)=>cs.setIfInBounds (o+j) c) a
theorem aBX (o:Nat) : ∀ (vs:List Value) (k:Nat) (a:Array Value),(putV a o vs k).size=a.size
 | [],k,a=>rfl
 | v::vs,k,a=>by
  unfold putV;rw[List.zipIdx_cons,List.foldl_cons]
  have:=aBX o vs (k+1) (a.setIfInBounds (o+k) v)
  unfold putV at this;rw[this]
  simp
theorem aSH {v:LV} (hv:v.one=true) {r:Value} (h:LR ν w X σ v r):r.oneCell'=true:=by
 cases v with
 | b e=>simp only[LR] at h; subst h; rfl
 | i k e=>simp only[LR] at h; subst h; rfl
 | s e=>simp only[LR] at h; subst h; rfl
 | k x =>
  simp only[LR] at h;subst h;simp only[LV.one] at hv
  cases r <;> first | rfl | simp[aM4] at hv
 | vs c =>
  simp only[LR] at h;rcases aB6 h with ⟨_,_,rfl⟩ | ⟨_,_,_,_,_,rfl,_⟩ <;> rfl
 | vp c i f=>simp only[LR] at h; obtain⟨_,_,_,rfl,_⟩:=h; rfl
 | o e=>simp only[LR] at h; exact h.one
 | fn f cs=>simp only[LR] at h; obtain⟨_,rfl,_⟩:=h; rfl
 | nl c n=>simp only[LR] at h; obtain⟨_,rfl,_⟩:=h; rfl
 | ptr a b c=>simp only[LR] at h; obtain⟨_,_,rfl,_⟩:=h; rfl
 | mp a b=>simp only[LR] at h; obtain⟨_,_,rfl,_⟩:=h; rfl
 | ifc a b=>simp only[LR] at h; obtain⟨_,rfl,_⟩:=h; rfl
 | rp a b c d=>simp only[LR] at h; obtain⟨_,_,rfl,_⟩:=h; rfl
 | rs a b c d=>simp only[LR] at h; obtain⟨_,_,_,_,rfl,_⟩:=h; rfl
 | _=>simp[LV.one] at hv
theorem aNG {v:LV} (hv:v.shut=true) {r:Value} (h:LR ν w X σ v r):CVR w (Exc X σ) (cvOf ν v) r:=by
 cases v with
 | b e=>simp only[LR] at h; subst h; exact .v _ rfl
 | i k e=>simp only[LR] at h; subst h; exact .v _ rfl
 | s e=>simp only[LR] at h; subst h; exact .v _ rfl
 | k x=>simp only[LR] at h; subst h; exact .v _ (aSH (ν:=ν) (w:=w) (X:=X) (σ:=σ) (v:=.k r) hv (by simp only[LR]))
 | vs c=>simpa only[LR,cvOf] using h
 | o e=>simpa only[LR,cvOf] using h
 | _=>simp[LV.shut] at hv
theorem aI0 : ∀ {vs:List LV} {rs:List Value},vs.all LV.one=true→LRs ν w X σ vs rs→∀ r∈rs,r.oneCell'=true
 | [],[],_,_,r,hr=>by simp at hr
 | v::vs,q::rs,hv,h,r,hr=>by
  simp only[List.all_cons,Bool.and_eq_true] at hv;simp only[LRs] at h;rcases List.mem_cons.1 hr with rfl | hr
  · exact aSH hv.1 h.1
  · exact aI0 hv.2 h.2 r hr
 | [],_::_,_,h,_,_=>by simp only[LRs] at h
 | _::_,[],_,h,_,_=>by simp only[LRs] at h
theorem aDO {b:Nat} {e:TypeId} {fr:Nat×Nat} (o:Nat) : ∀ (vs:List Value) (k:Nat) (a:Array Value) (w:World),w.heap[b]? = some (.cells a e fr)→Free fr a.size→o+k+vs.length≤a.size→(∀ v∈vs,v.oneCell'=true) →
 ∃ w',(storeCells ⟨b,o,none⟩ vs k).run P w = .ok () w'∧Turn (some b) w w'∧w'.heap.size=w.heap.size∧w'.heap[b]? = some (.cells (putV a o vs k) e fr)
 | [],k,a,w,hh,_,_,_=>⟨w,rfl,Turn.refl _ _,rfl,hh⟩
 | v::vs,k,a,w,hh,hf,hl,h1=>by
  have hi:o+k<a.size:=by simp at hl; omega
  have hadd:(⟨b,o,none⟩:Addr).add k=⟨b,o+k,none⟩:=Addr.add_lit b o k
  have hcell:w.cell? ⟨b,o+k,none⟩=some a[o+k]:=by rw[aCt hh]; simp[hi]
  have hfro:w.frozen? ⟨b,o+k,none⟩=false:=by
   have:=hf (o+k) hi
   unfold World.frozen?;rw[hh];simp only[Bool.and_eq_false_iff,decide_eq_false_iff_not];by_cases h:fr.1≤o+k
   · exact .inr (fun h2=>this ⟨h,h2⟩)
   · exact .inl h
  have hst:(store ((⟨b,o,none⟩:Addr).add k) v).run P w = .ok () (w.setCell ⟨b,o+k,none⟩ v):=by
   rw[hadd,run_store P w _ v _ (h1 v (by simp)),hcell];simp[hfro]
  have hb:b<w.heap.size:=by
   have:=(Array.getElem?_eq_some_iff.1 hh).1
   exact this
  have hh1:(w.setCell ⟨b,o+k,none⟩ v).heap[b]? = some (.cells (a.setIfInBounds (o+k) v) e fr):=by
   simp only[World.setCell,Array.getElem?_modify,hh]
   simp
  obtain⟨w',hr,ht,hs,hh'⟩:=aDO o vs (k+1) (a.setIfInBounds (o+k) v) (w.setCell ⟨b,o+k,none⟩ v) hh1 (by simpa using hf) (by simp at hl ⊢; omega) (fun x hx=>h1 x (by simp[hx]))
  have ht0:Turn (some b) w (w.setCell ⟨b,o+k,none⟩ v):=⟨rfl,rfl,rfl,by simp[World.setCell],fun b' hb' hn=>Below.heap_setCell w ⟨b,o+k,none⟩ v b' (fun h=>hn (by rw[h])),fun b' a' e' fr' h'=>by
   by_cases hbb:b'=b
   · subst hbb;rw[hh] at h';simp only[Option.some.injEq,Obj.cells.injEq] at h';obtain⟨rfl,rfl,rfl⟩:=h';exact⟨_,_,_,hh1,by simp⟩
   · exact⟨a',e',fr',by rw[Below.heap_setCell w ⟨b,o+k,none⟩ v b' hbb]; exact h',rfl⟩⟩
  refine⟨w',?_,ht0.trans ht,by rw[hs]; simp[World.setCell],?_⟩
  · simp only[storeCells,Sem.run_bind,hst,Result.andThen_ok,hr]
  · rw[hh'];unfold putV;rw[List.zipIdx_cons,List.foldl_cons]
def aGf (w w':World) (pl pl':Pl):Prop:=(∃ b c c',pl.at_=some (b,c)∧pl'.at_=some (b,c')∧Turn (some b) w w')∨(Turn none w w'∧aTo w w' pl')
def EffU (ν:Nu) (w:World) (X:Nat→Prop) (σ:List Pl) (i:Nat) (ob:Ob) (v:LV) (res:Result Next):Prop :=
 ∃ (n:Next) (r:Value) (w':World) (pl pl':Pl),res = .ok n w'∧aUz n r∧σ[i]? = some pl∧pl'.ver=ob.ver∧(pl'=pl∨pl.ver<pl'.ver)∧aGf w w' pl pl'∧LR ν w' X (σ.set i pl') v r∧OR ν w' X (σ.set i pl') pl' ob.o
def aDs (ν:Nu) (w:World) (X:Nat→Prop) (σ:List Pl) (fresh:Nat) (out:Out) (res:Result Next):Prop :=
 match out.e with
 | .no=>True
 | .new o=>σ[fresh]? = some ⟨0,none,0⟩→EffU ν w X σ fresh ⟨1,o⟩ out.v res
 | .upd i ob=>EffU ν w X σ i ob out.v res
 | .newc d o v=>∀ m,Nu.at ν m = .l (aBo ν d)→σ[fresh]? = some ⟨0,none,0⟩→EffU ν w X σ fresh ⟨1,o (.var m)⟩ (v (.var m)) res
 | .updc d i o v=>∀ m,Nu.at ν m = .l (aBo ν d)→EffU ν w X σ i (o (.var m)) (v (.var m)) res
theorem aPx {w':World} {pl:Pl} (ht:Turn none w w') (hp:aTo w w' pl):Stays (Exc X σ) (Exc X (σ++[pl])) w w':=by
 refine⟨fun b _ hb=>ht.heap b hb (by simp),fun b hb=>?_,ht.size⟩;rcases hb with hb | ⟨i,p,c,hi,hc⟩
 · exact .inl (.inl hb)
 · by_cases h:i<σ.length
   · rw[List.getElem?_append_left h] at hi;exact .inl (.inr ⟨i,p,c,hi,hc⟩)
   · rw[List.getElem?_append_right (by omega)] at hi
     cases h0:i - σ.length with
     | succ n=>rw[h0] at hi; simp at hi
     | zero =>
      rw[h0] at hi;simp only[List.getElem?_cons_zero,Option.some.injEq] at hi;subst hi;rcases hp with hp | ⟨c',hp,_⟩
      · rw[hp] at hc; simp at hc
      · rw[hp] at hc;simp only[Option.some.injEq,Prod.mk.injEq] at hc;exact .inr (by omega)
theorem aO7 (pl:Pl):Later' σ (σ++[pl]):=⟨fun i p hi=>⟨p,by rw[List.getElem?_append_left (List.getElem?_eq_some_iff.1 hi).1]; exact hi,.inl rfl⟩⟩
theorem aEy {i:Nat} {pl pl':Pl} (hpl:σ[i]? = some pl) (j:Nat) (p:Pl) (hj:(σ.set i pl')[j]? = some p):(j=i∧p=pl')∨(j≠i∧σ[j]? = some p):=by
 by_cases e:i=j
 · subst e;rw[List.getElem?_set_self (List.getElem?_eq_some_iff.1 hpl).1] at hj;exact .inl ⟨rfl,by simpa using hj.symm⟩
 · rw[List.getElem?_set_ne e] at hj;exact .inr ⟨fun e'=>e e'.symm,hj⟩
theorem aFf {i:Nat} {pl pl':Pl} (hpl:σ[i]? = some pl) (hvv:pl'=pl∨pl.ver<pl'.ver):Later' σ (σ.set i pl'):=⟨fun j p hj=>by
 by_cases e:i=j
 · subst e
   obtain rfl:pl=p:=by rw[hpl] at hj; simpa using hj
   exact⟨pl',List.getElem?_set_self (List.getElem?_eq_some_iff.1 hpl).1,hvv⟩
 · exact⟨p,by rw[List.getElem?_set_ne e]; exact hj,.inl rfl⟩⟩
theorem aJW {w':World} {pl pl':Pl} (hm:aGf w w' pl pl') (b:Nat) (hb:b<w.heap.size) (hne : ∀ c,pl.at_≠some (b,c)):w'.heap[b]? = w.heap[b]?:=by
 rcases hm with ⟨b',c,c',hc,hc',ht⟩ | ⟨ht,_⟩
 · exact ht.heap b hb (fun e=>by
    simp only[Option.some.injEq] at e;subst e;exact hne c hc)
 · exact ht.heap b hb (by simp)
theorem aGz {w':World} {pl pl':Pl} (hm:aGf w w' pl pl') (b c:Nat) (hc:pl'.at_=some (b,c)):(∃ c',pl.at_=some (b,c'))∨(b=w.heap.size∧w.heap.size<w'.heap.size):=by
 rcases hm with ⟨b',c',c'',h1,h2,ht⟩ | ⟨ht,hp⟩
 · rw[h2] at hc;simp only[Option.some.injEq,Prod.mk.injEq] at hc;obtain⟨rfl,rfl⟩:=hc;exact .inl ⟨c',h1⟩
 · rcases hp with hp | ⟨c',hp,hlt⟩
   · rw[hp] at hc; simp at hc
   · rw[hp] at hc;simp only[Option.some.injEq,Prod.mk.injEq] at hc;exact .inr ⟨hc.1.symm,hlt⟩
theorem aDV {w':World} {i:Nat} {pl pl':Pl} (hpl:σ[i]? = some pl) (hm:aGf w w' pl pl'):Stays (Exc X σ) (Exc X (σ.set i pl')) w w':=by
 refine⟨fun b hb hlt=>aJW hm b hlt (fun c hc=>hb (.inr ⟨i,pl,c,hpl,hc⟩)),fun b hb=>?_,by rcases hm with ⟨_,_,_,_,_,h⟩ | ⟨h,_⟩ <;> exact h.size⟩;rcases hb with hb | ⟨j,p,c,hj,hc⟩
 · exact .inl (.inl hb)
 · rcases aEy hpl j p hj with ⟨rfl,rfl⟩ | ⟨hne,hj'⟩
   · rcases aGz hm b c hc with ⟨c',h1⟩ | ⟨rfl,_⟩
     · exact .inl (.inr ⟨j,pl,c',hpl,h1⟩)
     · exact .inr (Nat.le_refl _)
   · exact .inl (.inr ⟨j,p,c,hj',hc⟩)
theorem aGt {i:Nat} {pl:Pl} (hpl:σ[i]? = some pl):σ.set i pl=σ:=by
 apply List.ext_getElem?;intro j;by_cases e:i=j
 · subst e;rw[List.getElem?_set_self (List.getElem?_eq_some_iff.1 hpl).1,hpl]
 · rw[List.getElem?_set_ne e]
theorem aVN {T:Tab} {ρ:Operand→LV} {val:Operand→Value} {get:Nat→Option Ob} {fresh:Nat} {o:Oper} {e:TypeId} {x:Operand} (ho:o.op = .box e x) {out:Out} (h:aAx T ρ get fresh o.op=some out) (lx:LR ν w X σ (ρ x) (val x)) :
 aDs ν w X σ fresh out ((execOp val o).run P w):=by
 rw[ho] at h;simp only[aAx] at h;cases hb:(ρ x).cells.all LV.one
 · rw[hb] at h; simp at h
 rw[hb] at h;simp only[cond_true,Option.some.injEq] at h;subst h;intro hpl;have lc:=aD0 hb lx;have hm:aGf w (w.alloc (.cells (val x).cells e)) ⟨0,none,0⟩ ⟨1,some (w.heap.size,0),0⟩:=.inr ⟨Turn.alloc w _,.inr ⟨0,rfl,by simp⟩⟩;refine⟨.value (.pointer (some ⟨w.heap.size,0,none⟩)),_,w.alloc (.cells (val x).cells e),_,⟨1,some (w.heap.size,0),0⟩,?_,.inl rfl,hpl,rfl,.inr (by simp),hm,?_,?_⟩
 · simp[execOp,ho,Instr.box,newVar,newRow]
 · exact aE8 (pl:=⟨1,some (w.heap.size,0),0⟩) (List.getElem?_set_self (List.getElem?_eq_some_iff.1 hpl).1) rfl rfl
 · exact⟨_,_,_,(0,0),rfl,aAl _ _,fun o _ h=>by simp at h,LRs.step (aDV hpl hm) (aFf hpl (.inr (by simp))) _ _ lc⟩
theorem aS3 {T:Tab} (hT:TOK P T) {ρ:Operand→LV} {val:Operand→Value} {get:Nat→Option Ob} {fresh:Nat} {o:Oper} {e:TypeId} (ho:o.op = .alloc e) {out:Out} (h:aAx T ρ get fresh o.op=some out) (hbox : ∀ d f g,out.e≠.newc d f g) :
 aDs ν w X σ fresh out ((execOp val o).run P w):=by
 rw[ho] at h;simp only[aAx] at h;split at h
 · split at h
   · have:=aAp h
     subst this;exact absurd rfl (hbox _ _ _)
   · simp at h
 · rename_i z _ _ hg;obtain⟨hu,⟨i,hi,hs,_,hz⟩,_⟩:=hT.get hg;simp only[Option.some.injEq] at h;subst h;intro hpl
   have lc:LRs ν w X σ (zeroCells z) z.cells.toList:=by
    have:=aNV ν w X σ z
    cases z with
    | agg cs=>simpa[zeroCells,lvOf,LV.cells,Value.cells] using aD9 ν w X σ cs.toList
    | tuple vs =>
     simp only[zeroCells,lvOf,LV.cells,Value.cells,LRs];exact⟨by simpa only[lvOf] using this,trivial⟩
    | _ =>
     simp only[zeroCells,lvOf,aFO,LV.cells,Value.cells,LRs];exact⟨by simpa only[lvOf,aFO] using this,trivial⟩
   have hm:aGf w (w.alloc (.cells z.cells e)) ⟨0,none,0⟩ ⟨1,some (w.heap.size,0),0⟩:=.inr ⟨Turn.alloc w _,.inr ⟨0,rfl,by simp⟩⟩;refine⟨.value (.pointer (some ⟨w.heap.size,0,none⟩)),_,w.alloc (.cells z.cells e),_,⟨1,some (w.heap.size,0),0⟩,?_,.inl rfl,hpl,rfl,.inr (by simp),hm,?_,?_⟩
   · simp[execOp,ho,Instr.alloc,aCh hi (hz z rfl),newVar,newRow]
   · exact aE8 (pl:=⟨1,some (w.heap.size,0),0⟩) (List.getElem?_set_self (List.getElem?_eq_some_iff.1 hpl).1) rfl rfl
   · exact⟨_,_,_,(0,0),rfl,aAl _ _,fun o _ h=>by simp at h,LRs.step (aDV hpl hm) (aFf hpl (.inr (by simp))) _ _ lc⟩
 · simp at h
theorem aEe {w':World} {b c:Nat} {i:Nat} {pl:Pl} (hpl:σ[i]? = some pl) (hat:pl.at_=some (b,c)) (ht:Turn (some b) w w'):Stays (Exc X σ) (Exc X σ) w w' :=
 ⟨fun b' hb' hlt=>ht.heap b' hlt (fun h=>hb' (.inr (by
  simp only[Option.some.injEq] at h;subst h;exact⟨i,pl,c,hpl,hat⟩))),fun b' hb'=>.inl hb',ht.size⟩
theorem aQ1 {T:Tab} (hT:TOK P T) {ρ:Operand→LV} {val:Operand→Value} {get:Nat→Option Ob} {fresh:Nat} {o:Oper} {t:TypeId} {a x:Operand} (ho:o.op = .store t a x) {out:Out} (h:aAx T ρ get fresh o.op=some out)
 (hbox : ∀ d i f g,out.e≠.updc d i f g) (la:LR ν w X σ (ρ a) (val a)) (lx:LR ν w X σ (ρ x) (val x)) (hk : ∀ id,(ρ a).id? = some id→aBh ν w X σ get id) :
 aDs ν w X σ fresh out ((execOp val o).run P w):=by
 rw[ho] at h;simp only[aAx] at h;split at h
 · rename_i ti id ver off hg hx;rw[hx] at la hk;split at h
   · rename_i ver' cs e hob;cases hb:Nat.beq ver ver'&&(ρ x).cells.all LV.one&&Nat.beq (ρ x).cells.length ti.size&&Nat.ble (off+ti.size) cs.length
     · rw[hb] at h; simp at h
     rw[hb] at h;simp only[cond_true,Option.some.injEq] at h;subst h;simp only[Bool.and_eq_true] at hb;obtain⟨⟨⟨hv,hone⟩,hlen⟩,hle⟩:=hb;have hlen:=Nat.eq_of_beq_eq_true hlen
     have hle:off+ti.size≤cs.length:=by simpa using hle
     obtain⟨b,c,pl,hpl,hver,hat,hva,ho'⟩:=aCC (ρ:=.junk) la (hk id rfl) hob hv;obtain⟨b',c',ar,fr,hat',hh,hfr,lcs⟩:=ho';rw[hat] at hat';simp only[Option.some.injEq,Prod.mk.injEq] at hat';obtain⟨rfl,rfl⟩:=hat';obtain⟨hu,⟨i,hi,hs,_,_⟩,_⟩:=hT.get hg;have lxc:=aD0 hone lx;have l1:=aBe lxc;have l2:=aBe lcs;simp only[Array.length_toList] at l1 l2;obtain⟨w',hr,ht,hsz,hh'⟩:=aDO (P:=P) off (val x).cells.toList 0 ar w hh hfr (by simp; omega) (aI0 hone lxc);have hst:=aEe (X:=X) hpl hat ht;refine⟨.skip,undef,w',pl,pl,?_,.inr ⟨rfl,rfl⟩,hpl,hver,.inl rfl,.inl ⟨b,c,c,hat,hat,ht⟩,?_,?_⟩
     · have hne : ¬ (val x).cells.size≠i.size:=by rw[hs]; omega
       simp only[execOp,ho,Sem.run_bind,hva,Instr.storeAt,Instr.sureAddr,Sem.run_pure,Result.andThen_ok,storeVar,aAM hi,hne,if_false,hr]
     · simp only[LR];exact⟨#[],rfl,by simp[LRs]⟩
     · rw[aGt hpl];refine⟨b,c,putV ar off (val x).cells.toList 0,fr,hat,hh',?_,?_⟩
       · rw[aBX]; exact hfr
       · have:=aLb _ _ 0 off cs ar lxc lcs
         exact LRs.step hst (Later'.refl σ) _ _ this
   · split at h
     · have:=aAp h
       subst this;exact absurd rfl (hbox _ _ _ _)
     · simp at h
   · simp at h
 · split at h
   · have:=aAp h
     subst this;exact absurd rfl (hbox _ _ _ _)
   · simp at h
 · simp at h
end
end
section
open Go.RowKit
inductive DV where
 | c (x:CV)
 | agg (cs:List CV)
 | tup (vs:List DV)
 | box (el:List CV) (f:Nat)
 | fn (f:FuncId) (caps:List DV)
 deriving Inhabited
def CVRs (w:World) (X:Nat→Prop):List CV→List Value→Prop
 | [],[]=>True
 | c::cs,r::rs=>CVR w X c r∧CVRs w X cs rs
 | _,_=>False
mutual
def DVR (w:World) (X:Nat→Prop):DV→Value→Prop
 | .c x,r=>CVR w X x r
 | .agg cs,r=>∃ a:Array Value,r = .agg a∧CVRs w X cs a.toList
 | .tup vs,r=>∃ a:Array Value,r = .tuple a∧DVRs w X vs a.toList
 | .box el f,r=>ElR w X el f r
 | .fn f cs,r=>∃ a:Array Value,r = .func (.func f) #[] a∧DVRs w X cs a.toList
def DVRs (w:World) (X:Nat→Prop):List DV→List Value→Prop
 | [],[]=>True
 | c::cs,r::rs=>DVR w X c r∧DVRs w X cs rs
 | _,_=>False
end
def aBU (P:Program) (f:FuncId):Prop:=∀ (args:Array Value) (w:World),(callFunc f args).run P w = .ok (.enter f args) w
theorem canEnter_of {P:Program} {f:FuncId} {fn:Func} (hf:P.funcs[f]? = some fn) (hn:(fn.name == "runtime.NumGoroutine")=false) (hb:fn.body.isNone=false):aBU P f:=fun args w=>by
 simp only[callFunc,Sem.run_bind,run_program,Result.andThen_ok,hf,hn,hb,Bool.false_eq_true,if_false,Sem.run_pure]
def CallsX (P:Program) (f:FuncId) (args:Array Value) (w:World) (R:Ending→World→Prop):Prop :=
 ((callFunc f args).run P w = .ok (.enter f args) w∧Calls P f args w R)∨∃ v w',(callFunc f args).run P w = .ok (.value v) w'∧R (.returned v) w'
def FnC (P:Program) (f:FuncId) (args:List DV) (res:DV):Prop :=
 ∀ (w:World) (X:Nat→Prop) (vs:List Value),Glo w→(∀ b,X b→b<w.heap.size)→DVRs w X args vs →
  CallsX P f vs.toArray w fun e w'=>∃ v,e = .returned v∧DVR w' X res v∧Below w.heap.size w w'
theorem FnC.of {P:Program} {f:FuncId} {args:List DV} {res:DV} (hent:aBU P f) (h : ∀ (w:World) (X:Nat→Prop) (vs:List Value),Glo w→(∀ b,X b→b<w.heap.size)→DVRs w X args vs →
 Calls P f vs.toArray w fun e w'=>∃ v,e = .returned v∧DVR w' X res v∧Below w.heap.size w w'):FnC P f args res :=
 fun w X vs h1 h2 h3=>.inl ⟨hent _ _,h w X vs h1 h2 h3⟩
theorem FnC.calls {P:Program} {f:FuncId} {args:List DV} {res:DV} (hent:aBU P f) (h:FnC P f args res) (w:World) (X:Nat→Prop) (vs:List Value) (h1:Glo w) (h2 : ∀ b,X b→b<w.heap.size) (h3:DVRs w X args vs) :
 Calls P f vs.toArray w fun e w'=>∃ v,e = .returned v∧DVR w' X res v∧Below w.heap.size w w':=by
 rcases h w X vs h1 h2 h3 with h | ⟨v,w',h,_⟩
 · exact h.2
 · rw[hent] at h;cases h
theorem CallsX.wp {P:Program} {f:FuncId} {args:Array Value} {w:World} {R:Ending→World→Prop} (h:CallsX P f args w R) {o:Oper} {a:Act} {K:Act→World→Prop} {Q:Exit→Act→World→Prop}
 (hexec:(execOp a.eval o).run P w=(callFunc f args).run P w) (hK : ∀ e w',R e w'→∃ v,e = .returned v∧K (a.put o.dst v) w'):o.wp P a w K Q:=by
 unfold Oper.wp;rw[hexec];rcases h with ⟨h1,h2⟩ | ⟨v,w',h1,h2⟩
 · rw[h1];refine h2.mono ?_;intro e w' hr;obtain⟨v,rfl,hk⟩:=hK e w' hr;exact hk
 · rw[h1];obtain⟨v',e,hk⟩:=hK _ _ h2;cases e;exact hk
def AtB (at_:Option (Nat×Nat)) (b:Nat):Prop:=∃ c,at_=some (b,c)
def RowP (w:World) (X:Nat→Prop) (at_:Option (Nat×Nat)) (c:List (List CV)) (e:TypeId) (sz:Nat):Prop :=
 0<sz∧(∀ el∈c,el.length=sz)∧((at_=none∧c=[]) ∨
  ∃ (b cap:Nat) (a:Array Value) (fr:Nat×Nat),at_=some (b,cap)∧w.heap[b]? = some (.cells a e fr)∧FreeR fr a.size sz∧cap*sz≤a.size∧c.length≤cap ∧
   ∀ (i:Nat) (el:List CV),c[i]? = some el→∀ (f:Nat) (cv:CV),el[f]? = some cv→∃ r,a[i*sz+f]? = some r∧CVR w X cv r)
theorem OR_row {ν:Nu} {w:World} {X:Nat→Prop} {σ:List Pl} {pl:Pl} {c:E} {e:TypeId} {sz:Nat}:OR ν w X σ pl (.row c e sz)↔pl.sz=sz∧RowP w (Exc X σ) pl.at_ (denC ν c) e sz:=Iff.rfl
def SlP (at_:Option (Nat×Nat)) (n:Nat) (r:Value):Prop :=
 (at_=none∧r = .slice none 0 0∧n=0)∨∃ b c rc,at_=some (b,c)∧r = .slice (some ⟨b,0,none⟩) n rc∧n≤rc∧rc≤c
theorem SlP.of {pl:Pl} {n:Int} {a:Option Addr} {len rc:Nat} (h:RsR pl 0 n a len rc):SlP pl.at_ n.toNat (.slice a len rc)∧0≤n:=by
 rcases h with ⟨h1,rfl,rfl,rfl,rfl,_⟩ | ⟨b,c,off,h1,rfl,h2,_,h3,h4,h5,_⟩
 · exact⟨.inl ⟨h1,rfl,rfl⟩,Int.le_refl _⟩
 · obtain⟨rfl,h6⟩:=h5 rfl;subst h3;exact⟨.inr ⟨b,c,rc,h1,rfl,h4,h6⟩,h2⟩
theorem SlP.to {pl:Pl} {n:Nat} {r:Value} (h:SlP pl.at_ n r) : ∃ a len rc,r = .slice a len rc∧RsR pl 0 n a len rc:=by
 rcases h with ⟨h1,rfl,rfl⟩ | ⟨b,c,rc,h1,rfl,h4,h6⟩
 · exact⟨none,0,0,rfl,.inl ⟨h1,rfl,rfl,rfl,rfl,rfl⟩⟩
 · exact⟨_,_,_,rfl,.inr ⟨b,c,0,h1,rfl,by omega,Int.le_refl _,(Int.toNat_natCast _).symm,h4,fun _=>⟨rfl,h6⟩,fun _=>by simp⟩⟩
def aOw (w:World) (X:Nat→Prop) (at_:Option (Nat×Nat)):Nat→List DV→List Value→Prop
 | 0,a::as,v::vs=>(∃ c,a = .c (.vs c)∧SlP at_ c.length v)∧DVRs w X as vs
 | i+1,a::as,v::vs=>DVR w X a v∧aOw w X at_ i as vs
 | _,_,_=>False
def FnM (P:Program) (md:Md) (f:FuncId) (args:List DV) (res:DV):Prop :=
 aBU P f∧∃ c c',args[md.i]? = some (.c (.vs c))∧res = .c (.vs c')∧(md.back=false→c'.length=c.length) ∧
  ∀ (w:World) (X:Nat→Prop) (at_:Option (Nat×Nat)) (vs:List Value),Glo w→(∀ b,X b→b<w.heap.size)→(∀ b,AtB at_ b→b<w.heap.size∧¬ X b∧∀ g∈aEv,g≠b) →
   RowP w (fun b=>X b∨AtB at_ b) at_ c md.e md.sz→aOw w (fun b=>X b∨AtB at_ b) at_ md.i args vs →
   Calls P f vs.toArray w fun ex w'=>∃ v at',ex = .returned v∧Turn (at_.map (·.1)) w w'∧(∀ b,AtB at' b→(AtB at_ b∨w.heap.size≤b)∧b<w'.heap.size) ∧
    RowP w' (fun b=>X b∨AtB at' b) at' c' md.e md.sz∧(if md.back=true then SlP at' c'.length v else v = .tuple #[]∧at'=at_)
def CallOK (P:Program):Option Md→FuncId→List DV→DV→Prop
 | none,f,as_,res=>FnC P f as_ res
 | some md,f,as_,res=>FnM P md f as_ res
mutual
def dvOf (ν:Nu):LV→DV
 | .b e=>.c (.v (.bool (denB ν e)))
 | .i k e=>.c (.v (.int k (denI ν e)))
 | .s e=>.c (.v (.string (denS ν e)))
 | .k v=>.c (.v v)
 | .vs c=>.c (.vs (denC ν c))
 | .o e=>.c (cvE ν e)
 | .agg cs=>.agg (cs.map (cvOf ν))
 | .tup vs=>.tup (aAX ν vs)
 | .vp c i f=>.box ((denC ν c).getD (denI ν i).toNat []) f
 | .fn f cs=>.fn f (aAX ν cs)
 | _=>default
def aAX (ν:Nu):List LV→List DV
 | []=>[]
 | v::r=>dvOf ν v::aAX ν r
end
theorem CVR.mono {w:World} {X Y:Nat→Prop} (h : ∀ b,Y b→X b) {c:CV} {r:Value} (hr:CVR w X c r):CVR w Y c r :=
 hr.step ⟨fun _ _ _=>rfl,fun b hb=>.inl (h b hb),Nat.le_refl _⟩
section
variable {P:Program} {ν:Nu} {w:World} {X:Nat→Prop} {σ:List Pl}
theorem aP6 : ∀ {cs:List LV} {rs:List Value},cs.all LV.shut=true→LRs ν w X σ cs rs→CVRs w (Exc X σ) (cs.map (cvOf ν)) rs
 | [],[],_,_=>by simp[CVRs]
 | c::cs,r::rs,hv,h=>by
  simp only[List.all_cons,Bool.and_eq_true] at hv;simp only[LRs] at h;simp only[List.map_cons,CVRs];exact⟨aNG hv.1 h.1,aP6 hv.2 h.2⟩
 | [],_::_,_,h=>by simp only[LRs] at h
 | _::_,[],_,h=>by simp only[LRs] at h
theorem CVRs.mono {X Y:Nat→Prop} (h : ∀ b,Y b→X b) : ∀ {cs:List CV} {rs:List Value},CVRs w X cs rs→CVRs w Y cs rs
 | [],[],_=>by simp[CVRs]
 | c::cs,r::rs,hr=>by
  simp only[CVRs] at hr ⊢;exact⟨hr.1.mono h,CVRs.mono h hr.2⟩
 | [],_::_,hr=>by simp only[CVRs] at hr
 | _::_,[],hr=>by simp only[CVRs] at hr
theorem ElR.mono {X Y:Nat→Prop} (h : ∀ b,Y b→X b) {el:List CV} {f:Nat} {r:Value} (hr:ElR w X el f r):ElR w Y el f r:=by
 obtain⟨b,o,g,hr,hg⟩:=hr;refine⟨b,o,g,hr,fun f' cv hf=>?_⟩;obtain⟨h1,h2,h3⟩:=hg f' cv hf;exact⟨fun hb=>h1 (h _ hb),h2,h3.mono h⟩
theorem aPz {v:LV} (hv:aEU v=true) {r:Value} (h:LR ν w X σ v r) {Y:Nat→Prop} (hY : ∀ b,Y b→Exc X σ b):DVR w Y (dvOf ν v) r:=by
 have go:v.shut=true→dvOf ν v = .c (cvOf ν v)→DVR w Y (dvOf ν v) r:=fun h1 h2=>by
  rw[h2];simp only[DVR];exact (aNG h1 h).mono hY
 cases v with
 | vp c i f =>
  simp only[LR] at h;simp only[dvOf,DVR];exact h.mono hY
 | b e=>exact go rfl rfl
 | i k e=>exact go rfl rfl
 | s e=>exact go rfl rfl
 | k x=>exact go hv rfl
 | vs c=>exact go rfl rfl
 | o e=>exact go rfl rfl
 | _=>simp[aEU,LV.shut] at hv
theorem aMe {Y:Nat→Prop} (hY : ∀ b,Y b→Exc X σ b) : ∀ {vs:List LV} {rs:List Value},vs.all aEU=true→LRs ν w X σ vs rs→DVRs w Y (aAX ν vs) rs
 | [],[],_,_=>by simp[aAX,DVRs]
 | v::vs,r::rs,hv,h=>by
  simp only[List.all_cons,Bool.and_eq_true] at hv;simp only[LRs] at h;simp only[aAX,DVRs];exact⟨aPz hv.1 h.1 hY,aMe hY hv.2 h.2⟩
 | [],_::_,_,h=>by simp only[LRs] at h
 | _::_,[],_,h=>by simp only[LRs] at h
theorem aU6 {v:LV} {Y:Nat→Prop} {r:Value} (h:CVR w Y (cvOf ν v) r):CVR w Y (cvOf ν (nilV v)) r:=by
 unfold nilV;split
 · simp only[cvOf] at h;cases h;simp only[cvOf,denC];exact .nil _
 · exact h
theorem aP7 {Y:Nat→Prop} : ∀ {cs:List LV} {rs:List Value},CVRs w Y (cs.map (cvOf ν)) rs→CVRs w Y ((cs.map nilV).map (cvOf ν)) rs
 | [],[],_=>by simp[CVRs]
 | c::cs,r::rs,h=>by
  simp only[List.map_cons,CVRs] at h ⊢;exact⟨aU6 h.1,aP7 h.2⟩
 | [],_::_,h=>by simp[CVRs] at h
 | _::_,[],h=>by simp[CVRs] at h
theorem aOS {get:Nat→Option Ob} {v v':LV} {ns:List Need} (hs:aB3 get v=some (v',ns)) {r:Value} (h:LR ν w X σ v r) (hk : ∀ id,v.id? = some id→aBh ν w X σ get id) (hn:aAZ ν ns)
 {Y:Nat→Prop} (hY : ∀ b,Y b→Exc X σ b) (hY2:isRs v=false∨∀ (id:Nat) (p:Pl) (b c:Nat),v.id? = some id→σ[id]? = some p→p.at_=some (b,c)→¬ Y b):DVR w Y (dvOf ν v') r:=by
 unfold aB3 at hs;split at hs
 · simp only[Option.some.injEq,Prod.mk.injEq] at hs;obtain⟨rfl,rfl⟩:=hs;simp only[LR] at h;subst h;simp only[dvOf,denC,DVR];exact .nil _
 · rename_i cs
   have:=aAp hs
   cases hb:cs.all LV.shut
   · rw[hb] at hs; simp at hs
   simp only[Prod.mk.injEq] at this;obtain⟨rfl,rfl⟩:=this;simp only[LR] at h;obtain⟨a,rfl,ha⟩:=h
   have:=aP7 (aP6 hb ha)
   simp only[dvOf,DVR];exact⟨a,rfl,this.mono hY⟩
 · simp only[Option.some.injEq,Prod.mk.injEq] at hs;obtain⟨rfl,rfl⟩:=hs;exact aPz rfl h hY
 · rename_i f cs
   have:=aAp hs
   cases hb:cs.all aEU
   · rw[hb] at hs; simp at hs
   simp only[Prod.mk.injEq] at this;obtain⟨rfl,rfl⟩:=this;simp only[LR] at h;obtain⟨a,rfl,ha⟩:=h;simp only[dvOf,DVR];exact⟨a,rfl,aMe hY hb ha⟩
 · rename_i id ver o n;split at hs
   rotate_left
   · simp at hs
   rename_i c ns' hc;simp only[Option.some.injEq,Prod.mk.injEq] at hs;obtain⟨rfl,rfl⟩:=hs;have hY2:=hY2.resolve_left (by simp[isRs]);simp only[dvOf,DVR];obtain⟨a,len,rc,rfl,hlen,hle,hcase⟩:=aDl hc h hk hn;rcases hcase with ⟨rfl,rfl⟩ | ⟨b,o',sz,g,rfl,how,hsz,hcell⟩
   · rw[List.length_eq_zero_iff.1 hlen.symm];exact .nil _
   · have hown : ¬ Y b:=by
      rcases how with ⟨c',hc'⟩ | ⟨id',p,c'',h1,h2,h3⟩
      · simp at hc'
      · exact hY2 id' p b c'' h1 h2 h3
     rw[hlen];exact .vs _ b o' sz rc g hsz (by omega) (fun i el hi f cv hf=>⟨hown,(hcell i el hi f cv hf).1⟩) (fun i el hi f cv hf=>(hcell i el hi f cv hf).2.mono hY)
 · have h0:=aAp hs;cases hb:v.shut
   · rw[hb] at hs; simp at hs
   simp only[Prod.mk.injEq] at h0;obtain⟨rfl,rfl⟩:=h0;have h1:=aNG hb h
   have h2:dvOf ν v = .c (cvOf ν v):=by
    cases v <;> first | rfl | simp[LV.shut] at hb
   rw[h2];simp only[DVR];exact h1.mono hY
theorem aHt {get:Nat→Option Ob} {Y:Nat→Prop} (hY : ∀ b,Y b→Exc X σ b) : ∀ {vs vs':List LV} {ns:List Need} (hs:aA0 get vs=some (vs',ns)) {rs:List Value} (h:LRs ν w X σ vs rs) (hk : ∀ v∈vs,∀ id,v.id? = some id→aBh ν w X σ get id) (hn:aAZ ν ns)
 (hY2 : ∀ v∈vs,isRs v=false∨∀ (id:Nat) (p:Pl) (b c:Nat),v.id? = some id→σ[id]? = some p→p.at_=some (b,c)→¬ Y b),DVRs w Y (aAX ν vs') rs
 | [],vs',ns,hs,rs,h,hk,hn,_=>by
  simp only[aA0,Option.some.injEq,Prod.mk.injEq] at hs;obtain⟨rfl,rfl⟩:=hs
  cases rs with
  | nil=>simp[aAX,DVRs]
  | cons r rs=>simp only[LRs] at h
 | v::vs,vs',ns,hs,rs,h,hk,hn,hY2=>by
  cases rs with
  | nil=>simp only[LRs] at h
  | cons r rs =>
   simp only[LRs] at h;simp only[aA0] at hs;split at hs
   rotate_left
   · simp at hs
   rename_i a ns1 b ns2 ha hb;simp only[Option.some.injEq,Prod.mk.injEq] at hs;obtain⟨rfl,rfl⟩:=hs;have h1:=aOS ha h.1 (hk v (by simp)) (fun n hm=>hn n (by simp[hm])) hY (hY2 v (by simp));have h2:=aHt hY hb h.2 (fun v' hv'=>hk v' (by simp[hv'])) (fun n hm=>hn n (by simp[hm])) (fun v' hv'=>hY2 v' (by simp[hv']));simp only[aAX,DVRs];exact⟨h1,h2⟩
theorem aIW {Y:Nat→Prop} {v:LV} (hv:v.shut=true) (hy:v.flat=true∨Y=Exc X σ) {r:Value} (h:CVR w Y (cvOf ν v) r):LR ν w X σ v r:=by
 cases v with
 | b e=>simp only[cvOf] at h; cases h; simp only[LR]
 | i k e=>simp only[cvOf] at h; cases h; simp only[LR]
 | s e=>simp only[cvOf] at h; cases h; simp only[LR]
 | k x=>simp only[cvOf] at h; cases h; simp only[LR]
 | vs c =>
  rcases hy with hy | rfl
  · simp[LV.flat] at hy
  · simpa only[LR,cvOf] using h
 | o e =>
  rcases hy with hy | rfl
  · simp[LV.flat] at hy
  · simpa only[LR,cvOf] using h
 | _=>simp[LV.shut] at hv
theorem aJS {Y:Nat→Prop} : ∀ {vs:List LV} (hv:vs.all LV.shut=true) (hy:vs.all LV.flat=true∨Y=Exc X σ) {rs:List Value} (h:CVRs w Y (vs.map (cvOf ν)) rs),LRs ν w X σ vs rs
 | [],_,_,[],_=>by simp[LRs]
 | v::vs,hv,hy,r::rs,h=>by
  simp only[List.all_cons,Bool.and_eq_true] at hv hy;simp only[List.map_cons,CVRs] at h;simp only[LRs];exact⟨aIW hv.1 (hy.imp (·.1) id) h.1,aJS hv.2 (hy.imp (·.2) id) h.2⟩
 | [],_,_,_::_,h=>by simp[CVRs] at h
 | _::_,_,_,[],h=>by simp[CVRs] at h
def aCW:LV→Bool
 | .agg cs=>cs.all LV.shut
 | .vp _ _ _=>true
 | .fn _ cs=>cs.all aEU
 | v=>v.shut
theorem aPj {v:LV} (hv:aEU v=true) {r:Value} (h:DVR w (Exc X σ) (dvOf ν v) r):LR ν w X σ v r:=by
 have go:v.shut=true→dvOf ν v = .c (cvOf ν v)→LR ν w X σ v r:=fun h1 h3=>by
  rw[h3] at h;simp only[DVR] at h;exact aIW h1 (.inr rfl) h
 cases v with
 | vp c i f =>
  simp only[dvOf,DVR] at h;simpa only[LR] using h
 | b e=>exact go rfl rfl
 | i k e=>exact go rfl rfl
 | s e=>exact go rfl rfl
 | k x=>exact go hv rfl
 | vs c=>exact go rfl rfl
 | o e=>exact go rfl rfl
 | _=>simp[aEU,LV.shut] at hv
theorem aMy : ∀ {vs:List LV} {rs:List Value},vs.all aEU=true→DVRs w (Exc X σ) (aAX ν vs) rs→LRs ν w X σ vs rs
 | [],[],_,_=>by simp[LRs]
 | v::vs,r::rs,hv,h=>by
  simp only[List.all_cons,Bool.and_eq_true] at hv;simp only[aAX,DVRs] at h;simp only[LRs];exact⟨aPj hv.1 h.1,aMy hv.2 h.2⟩
 | [],_::_,_,h=>by simp[aAX,DVRs] at h
 | _::_,[],_,h=>by simp[aAX,DVRs] at h
theorem aCO {Y:Nat→Prop} {v:LV} (hv:aCW v=true) (hy:aOf v=true∨Y=Exc X σ) {r:Value} (h:DVR w Y (dvOf ν v) r):LR ν w X σ v r:=by
 have go:v.shut=true→(v.flat=true∨Y=Exc X σ)→dvOf ν v = .c (cvOf ν v)→LR ν w X σ v r:=fun h1 h2 h3=>by
  rw[h3] at h;simp only[DVR] at h;exact aIW h1 h2 h
 cases v with
 | agg cs =>
  simp only[dvOf,DVR] at h;obtain⟨a,rfl,ha⟩:=h;simp only[LR];exact⟨a,rfl,aJS hv hy ha⟩
 | vp c i f =>
  rcases hy with hy | rfl
  · simp[aOf,LV.flat] at hy
  · exact aPj rfl h
 | fn f cs =>
  rcases hy with hy | rfl
  · simp[aOf,LV.flat] at hy
  · simp only[dvOf,DVR] at h;obtain⟨a,rfl,ha⟩:=h;simp only[LR];exact⟨a,rfl,aMy hv ha⟩
 | b e=>exact go rfl hy rfl
 | i k e=>exact go rfl hy rfl
 | s e=>exact go rfl hy rfl
 | k x=>exact go hv hy rfl
 | vs c=>exact go rfl hy rfl
 | o e=>exact go rfl hy rfl
 | _=>simp[aCW,LV.shut] at hv
theorem aJf {Y:Nat→Prop} : ∀ {vs:List LV} (hv:vs.all aCW=true) (hy:vs.all aOf=true∨Y=Exc X σ) {rs:List Value} (h:DVRs w Y (aAX ν vs) rs),LRs ν w X σ vs rs
 | [],_,_,[],_=>by simp[LRs]
 | v::vs,hv,hy,r::rs,h=>by
  simp only[List.all_cons,Bool.and_eq_true] at hv hy;simp only[aAX,DVRs] at h;simp only[LRs];exact⟨aCO hv.1 (hy.imp (·.1) id) h.1,aJf hv.2 (hy.imp (·.2) id) h.2⟩
 | [],_,_,_::_,h=>by simp[aAX,DVRs] at h
 | _::_,_,_,[],h=>by simp[aAX,DVRs] at h
def aBF:LV→Bool
 | .tup vs=>vs.all aCW
 | v=>aCW v
theorem aMG {Y:Nat→Prop} {v:LV} (hv:aBF v=true) (hy:aCx v=true∨Y=Exc X σ) {r:Value} (h:DVR w Y (dvOf ν v) r):LR ν w X σ v r:=by
 cases v with
 | tup vs =>
  simp only[dvOf,DVR] at h;obtain⟨a,rfl,ha⟩:=h;simp only[LR];exact⟨a,rfl,aJf hv hy ha⟩
 | agg cs=>exact aCO (by simpa only[aBF] using hv) (by simpa only[aCx] using hy) h
 | b e=>exact aCO (by simpa only[aBF] using hv) (by simpa only[aCx] using hy) h
 | i k e=>exact aCO (by simpa only[aBF] using hv) (by simpa only[aCx] using hy) h
 | s e=>exact aCO (by simpa only[aBF] using hv) (by simpa only[aCx] using hy) h
 | k x=>exact aCO (by simpa only[aBF] using hv) (by simpa only[aCx] using hy) h
 | vp c i f=>exact aCO (by simpa only[aBF] using hv) (by simpa only[aCx] using hy) h
 | fn f cs=>exact aCO (by simpa only[aBF] using hv) (by simpa only[aCx] using hy) h
 | vs c=>exact aCO (by simpa only[aBF] using hv) (by simpa only[aCx] using hy) h
 | o e=>exact aCO (by simpa only[aBF] using hv) (by simpa only[aCx] using hy) h
 | _=>simp[aBF,aCW,LV.shut] at hv
end
end
section
open Go.RowKit
section
variable {P:Program} {ν:Nu} {w:World} {X:Nat→Prop} {σ:List Pl}
theorem aKY {t xt ty e:TypeId} {i:TypeInfo} {d:TypeDesc} (ht:P.underlying t=some (.slice e)) (hx:P.underlying xt=some d) (hd:aBs d=true) (hi:P.info? e=some i) {b sLen sCap:Nat} {x:Value} {m:Nat} {news:Array Value}
 (hl:(Builtin.lenOf x).run P w = .ok m w) (hf:(Builtin.firstCells i.size m x).run P w = .ok news w) (hroom:sLen+m≤sCap) {w':World} (hst:(storeCells ⟨b,sLen*i.size,none⟩ news.toList 0).run P w = .ok () w') :
 (Builtin.append_ #[t,xt] ty #[.slice (some ⟨b,0,none⟩) sLen sCap,x]).run P w = .ok (.slice (some ⟨b,0,none⟩) (sLen+m) sCap) w':=by
 cases d <;> simp[aBs] at hd
 all_goals simp[Builtin.append_,run_underlying ht,run_underlying hx,sizeOf,typeInfo,hi,hl,hroom,hf,Addr.add_lit,hst]
theorem aEp {t xt ty e:TypeId} {i:TypeInfo} {d:TypeDesc} (ht:P.underlying t=some (.slice e)) (hx:P.underlying xt=some d) (hd:aBs d=true) (hi:P.info? e=some i) {x:Value} {news:Array Value}
 (hl:(Builtin.lenOf x).run P w = .ok 0 w) (hf:(Builtin.firstCells i.size 0 x).run P w = .ok news w) :
 (Builtin.append_ #[t,xt] ty #[.slice none 0 0,x]).run P w = .ok (.slice none 0 0) w:=by
 cases d <;> simp[aBs] at hd
 all_goals simp[Builtin.append_,run_underlying ht,run_underlying hx,sizeOf,typeInfo,hi,hl,hf]
theorem aKW {t xt ty e:TypeId} {i:TypeInfo} {d:TypeDesc} {z:Value} (ht:P.underlying t=some (.slice e)) (hx:P.underlying xt=some d) (hd:aBs d=true) (hi:P.info? e=some i) (hz:i.zero=some z) {base:Option Addr} {sLen sCap:Nat} {x:Value} {m:Nat} {olds news:Array Value}
 (hl:(Builtin.lenOf x).run P w = .ok m w) (hfo:(Builtin.firstCells i.size sLen (.slice base sLen sCap)).run P w.drew = .ok olds w.drew) (hf:(Builtin.firstCells i.size m x).run P w.drew = .ok news w.drew) (hg:sCap<sLen+m)
 (h63:((sLen+m:Nat):Int)≤9223372036854775807) (hfit:Builtin.nextslicecap (sLen+m) sCap*i.bytes≤281474976710656) :
 (Builtin.append_ #[t,xt] ty #[.slice base sLen sCap,x]).run P w = .ok (.slice (some ⟨w.heap.size,0,none⟩) (sLen+m) (grownCap w (sLen+m) sCap e))
  (w.drew.alloc (.cells (olds++news++Builtin.zeroCells z.cells (grownCap w (sLen+m) sCap e - (sLen+m))) e)):=by
 have hn : ¬ (sLen+m≤sCap):=by omega
 have h63' : ¬ (9223372036854775807<((sLen:Int)+(m:Int))):=by omega
 have h48' : ¬ (281474976710656<Builtin.nextslicecap (sLen+m) sCap*i.bytes):=by omega
 cases d <;> simp[aBs] at hd
 all_goals simp[Builtin.append_,run_underlying ht,run_underlying hx,sizeOf,typeInfo,zeroValue,hi,hz,hl,hn,h63',h48',Question.forced,hf,hfo,newRow,grownCap]
def aFh (w:World) (Y:Nat→Prop) (sz:Nat) (els:List (List CV)) (f0:Nat→Option Value):Prop :=
 ∀ (i:Nat) (el:List CV),els[i]? = some el→∀ (f:Nat) (cv:CV),el[f]? = some cv→∃ r,f0 (i*sz+f)=some r∧CVR w Y cv r
theorem aKK {w:World} {Y:Nat→Prop} {sz:Nat} {as_ bs:List (List CV)} (hsz : ∀ el∈as_,el.length=sz) (hsz' : ∀ el∈bs,el.length=sz) {olds news:List Value} (hlo:olds.length=as_.length*sz) (h1:aFh w Y sz as_ (fun i=>olds[i]?)) (h2:aFh w Y sz bs (fun i=>news[i]?)) (rest:List Value) :
 aFh w Y sz (as_++bs) (fun i=>(olds++news++rest)[i]?):=fun i el hi f cv hf=>by
 by_cases hlt:i<as_.length
 · rw[List.getElem?_append_left hlt] at hi;obtain⟨r,g1,g2⟩:=h1 i el hi f cv hf;refine⟨r,?_,g2⟩
   have:i*sz+f<olds.length:=(List.getElem?_eq_some_iff.1 g1).1
   show (olds++news++rest)[i*sz+f]? = _;rw[List.append_assoc,List.getElem?_append_left this];exact g1
 · rw[List.getElem?_append_right (by omega)] at hi;obtain⟨r,g1,g2⟩:=h2 _ el hi f cv hf;refine⟨r,?_,g2⟩;have hn:(i - as_.length)*sz+f<news.length:=(List.getElem?_eq_some_iff.1 g1).1
   have e:i*sz+f=olds.length+((i - as_.length)*sz+f):=by
    rw[hlo,←Nat.add_assoc,←Nat.add_mul]
    congr 2
    omega
   show (olds++news++rest)[i*sz+f]? = _;rw[e,List.append_assoc,List.getElem?_append_right (by omega),Nat.add_sub_cancel_left,List.getElem?_append_left hn];exact g1
theorem aMZ {b o sz:Nat} {els:List (List CV)} {g:Nat→Nat→Value} {Y:Nat→Prop} (hsz : ∀ el∈els,el.length=sz) (h0:0<sz)
 (hc : ∀ (i:Nat) (el:List CV),els[i]? = some el→∀ (f:Nat) (cv:CV),el[f]? = some cv→w.cell? ⟨b,o+i*sz+f,none⟩=some (g i f)∧CVR w Y cv (g i f)) :
 ∃ news:List Value,news.length=els.length*sz∧(∀ j v,news[j]? = some v→w.cell? ⟨b,o+j,none⟩=some v)∧(∀ u∈news,u.oneCell'=true)∧aFh w Y sz els (fun i=>news[i]?):=by
 have at_ : ∀ j,j<els.length*sz→∃ el cv,els[j / sz]? = some el∧el[j % sz]? = some cv:=fun j hj=>by
  have h1:j / sz<els.length:=Nat.div_lt_of_lt_mul (by rw[Nat.mul_comm]; exact hj);refine⟨els[j / sz],?_⟩
  have h2:j % sz<(els[j / sz]).length:=by
   rw[hsz _ (List.getElem_mem h1)];exact Nat.mod_lt _ h0
  exact⟨(els[j / sz])[j % sz],List.getElem?_eq_getElem h1,List.getElem?_eq_getElem h2⟩
 refine⟨(List.range (els.length*sz)).map fun j=>g (j / sz) (j % sz),by simp,fun j v hj=>?_,fun u hu=>?_,fun i el hi f cv hf=>?_⟩
 · rw[List.getElem?_map] at hj
   have hlt:j<els.length*sz:=by
    by_cases h:j<els.length*sz
    · exact h
    · rw[List.getElem?_eq_none (by simp; omega)] at hj; simp at hj
   obtain⟨el,cv,h1,h2⟩:=at_ j hlt;rw[List.getElem?_range hlt] at hj;simp only[Option.map_some,Option.some.injEq] at hj;subst hj
   have:=(hc _ el h1 _ cv h2).1
   have e:=Nat.div_add_mod j sz;rw[Nat.mul_comm] at e;rw[←this,Nat.add_assoc,e]
 · simp only[List.mem_map,List.mem_range] at hu;obtain⟨j,hj,rfl⟩:=hu;obtain⟨el,cv,h1,h2⟩:=at_ j hj;exact (hc _ el h1 _ cv h2).2.one
 · have hfl:f<sz:=by
    rw[←hsz el (List.mem_of_getElem? hi)];exact (List.getElem?_eq_some_iff.1 hf).1
   have hil:i<els.length:=(List.getElem?_eq_some_iff.1 hi).1
   have hlt:i*sz+f<els.length*sz:=by
    have:(i+1)*sz≤els.length*sz:=Nat.mul_le_mul_right _ hil
    rw[Nat.add_mul] at this;omega
   refine⟨g i f,?_,(hc i el hi f cv hf).2⟩
   have e1:(i*sz+f) / sz=i:=by rw[Nat.mul_comm,Nat.mul_add_div h0,Nat.div_eq_of_lt hfl,Nat.add_zero]
   have e2:(i*sz+f) % sz=f:=by rw[Nat.mul_comm,Nat.mul_add_mod,Nat.mod_eq_of_lt hfl]
   simp only[List.getElem?_map,List.getElem?_range hlt,Option.map_some,e1,e2]
theorem aKx {get:Nat→Option Ob} {sz:Nat} {c:E} {v:LV} {d:DC} {m:E} {ns:List Need} (h:aNf get sz c v=some (d,m,ns)) (h0:0<sz) {r:Value} (lx:LR ν w X σ v r) (hk : ∀ id,v.id? = some id→aBh ν w X σ get id) (hn:aAZ ν ns) :
 ∃ (els:List (List CV)) (news:List Value),aBo ν d=denC ν c++els∧denI ν m=(els.length:Int)∧(∀ el∈els,el.length=sz)∧news.length=els.length*sz∧(∀ u∈news,u.oneCell'=true)∧aFh w (Exc X σ) sz els (fun i=>news[i]?) ∧
  ∀ w':World,w'.heap=w.heap→(Builtin.lenOf r).run P w' = .ok els.length w'∧(Builtin.firstCells sz els.length r).run P w' = .ok news.toArray w':=by
 have slice : ∀ (els:List (List CV)) (a:Option Addr) (len rc:Nat),(∀ el∈els,el.length=sz)→len=els.length →
  ((len=0∧rc=0)∨∃ (b o sz':Nat) (g:Nat→Nat→Value),a=some ⟨b,o,none⟩∧(∀ el∈els,el.length=sz') ∧
   (∀ (i:Nat) (el:List CV),els[i]? = some el→∀ (f:Nat) (cv:CV),el[f]? = some cv→w.cell? ⟨b,o+i*sz'+f,none⟩=some (g i f)∧CVR w (Exc X σ) cv (g i f))) →
  ∃ news:List Value,news.length=els.length*sz∧(∀ u∈news,u.oneCell'=true)∧aFh w (Exc X σ) sz els (fun i=>news[i]?) ∧
   ∀ w':World,w'.heap=w.heap→(Builtin.lenOf (.slice a len rc)).run P w' = .ok els.length w'∧(Builtin.firstCells sz els.length (.slice a len rc)).run P w' = .ok news.toArray w':=fun els a len rc hsz hlen hcase=>by
  subst hlen;rcases hcase with ⟨h1,rfl⟩ | ⟨b,o,sz',g,rfl,hsz',hc⟩
  · obtain rfl:=List.length_eq_zero_iff.1 h1;exact⟨[],by simp,by simp,fun i el hi=>by simp at hi,fun w' _=>⟨by simp[Builtin.lenOf],by cases a <;> simp[Builtin.firstCells,loadCells,loadCellsFrom]⟩⟩
  · have hc' : ∀ (i:Nat) (el:List CV),els[i]? = some el→∀ (f:Nat) (cv:CV),el[f]? = some cv→w.cell? ⟨b,o+i*sz+f,none⟩=some (g i f)∧CVR w (Exc X σ) cv (g i f):=fun i el hi=>by
     have e:sz'=sz:=(hsz' el (List.mem_of_getElem? hi)).symm.trans (hsz el (List.mem_of_getElem? hi));rw[←e];exact hc i el hi
    obtain⟨news,n1,n2,n3,n4⟩:=aMZ hsz h0 hc';refine⟨news,n1,n3,n4,fun w' hw=>⟨by simp[Builtin.lenOf],?_⟩⟩;refine run_firstCells_some (P:=P) w' sz els.length ⟨b,o,none⟩ els.length rc news n1 fun j v hj=>?_
    have:=n2 j v hj
    rw[Addr.add_lit];rw[←this];exact aCH (by rw[hw])
 unfold aNf at h;split at h
 · rename_i e;cases hb:Nat.beq sz 1
   · rw[hb] at h; simp at h
   have h':=aAp h;simp only[Prod.mk.injEq] at h';obtain⟨rfl,rfl,rfl⟩:=h';obtain rfl:=Nat.eq_of_beq_eq_true hb;simp only[LR] at lx;subst lx
   have hbl:(aAD (denS ν e)).length=(denS ν e).size:=by
    unfold aAD;rw[List.length_map,Array.length_toList];rfl
   refine⟨aAD (denS ν e),(denS ν e).data.toList.map fun b=>.int .u8 b.toNat,by simp[aBo],by rw[aFL,hbl],fun el hel=>?_,by simp[aAD],fun u hu=>?_,fun i el hi f cv hf=>?_,fun w' _=>⟨?_,?_⟩⟩
   · simp only[aAD,List.mem_map] at hel;obtain⟨b,_,rfl⟩:=hel;rfl
   · simp only[List.mem_map] at hu;obtain⟨b,_,rfl⟩:=hu;rfl
   · simp only[aAD,List.getElem?_map,Option.map_eq_some_iff] at hi;obtain⟨b,hb,rfl⟩:=hi
     cases f with
     | zero =>
      simp only[List.getElem?_cons_zero,Option.some.injEq] at hf;subst hf;refine⟨.int .u8 b.toNat,?_,.v _ rfl⟩;simp only[Nat.mul_one,Nat.add_zero,List.getElem?_map,hb,Option.map_some]
     | succ f=>simp at hf
   · rw[hbl];simp[Builtin.lenOf]
   · rw[hbl]
     have:(denS ν e).extract 0 (denS ν e).size=denS ν e:=by simp
     simp only[Builtin.firstCells,this,Sem.run_pure]
     congr 1
     apply Array.toList_inj.1
     simp
 · simp only[Option.some.injEq,Prod.mk.injEq] at h;obtain⟨rfl,rfl,rfl⟩:=h;simp only[LR] at lx;subst lx;refine⟨[],[],by simp[aBo,denS,aAD],by simp[denI],by simp,by simp,by simp,fun i el hi=>by simp at hi,fun w' _=>⟨by simp[Builtin.lenOf],by simp[Builtin.firstCells]⟩⟩
 · rename_i c';simp only[Option.some.injEq,Prod.mk.injEq] at h;obtain⟨rfl,rfl,rfl⟩:=h;have hall:denN ν (.szAll c' sz):=hn _ (by simp);simp only[denN] at hall;obtain⟨a,len,rc,rfl,h1,h2,h3⟩:=aDl (get:=get) (c:=c') (ns:=[]) rfl lx hk (fun n hn=>by simp at hn);obtain⟨news,n1,n2,n3,n4⟩:=slice (denC ν c') a len rc hall h1 (h3.imp (fun h=>h) fun ⟨b,o,sz',g,e1,_,e3,e4⟩=>⟨b,o,sz',g,e1,e3,e4⟩);exact⟨_,news,by simp[aBo],by simp[denI],hall,n1,n2,n3,n4⟩
 · rename_i id ver o n;split at h
   · rename_i ver' c0 e0 sz0 hob;cases hb:Nat.beq sz sz0
     · rw[hb] at h; simp at h
     rw[hb] at h;simp only[cond_true] at h;obtain rfl:=Nat.eq_of_beq_eq_true hb;split at h
     · rename_i d' ns' hc;simp only[Option.some.injEq,Prod.mk.injEq] at h;obtain⟨rfl,rfl,rfl⟩:=h;obtain⟨a,len,rc,rfl,h1,h2,h3⟩:=aDl hc lx hk hn
       have hlen:denI ν n=(len:Int)∧∀ el∈denC ν d',el.length=sz:=by
        simp only[aA9,hob] at hc;cases hb:Nat.beq ver ver'
        · rw[hb] at hc; simp at hc
        rw[hb] at hc;simp only[cond_true] at hc;obtain⟨a',len',rc',pl,hpl,hver,he,hrs,hsz,hpos,hels,hrow⟩:=aFv lx (hk id rfl) hob hb;simp only[Value.slice.injEq] at he;obtain⟨rfl,rfl,rfl⟩:=he;refine⟨?_,fun el hel=>hels el ?_⟩
        · rcases hrs with ⟨_,_,h1,_,h2,_⟩ | ⟨b,cc,off,_,_,hn0,_,hl,_⟩ <;> omega
        · cases hz:aCF o&&aBH c0 n
          · rw[hz] at hc;simp only[cond_false,Option.some.injEq,Prod.mk.injEq] at hc;obtain⟨rfl,_⟩:=hc;rw[aHz,aDK] at hel;exact List.mem_of_mem_drop (List.mem_of_mem_take hel)
          · rw[hz] at hc;simp only[cond_true,Option.some.injEq,Prod.mk.injEq] at hc;obtain⟨rfl,_⟩:=hc;exact hel
       obtain⟨news,n1,n2,n3,n4⟩:=slice (denC ν d') a len rc hlen.2 h1 (h3.imp (fun h=>h) fun ⟨b,o,sz',g,e1,_,e3,e4⟩=>⟨b,o,sz',g,e1,e3,e4⟩);exact⟨_,news,by simp[aBo],by rw[hlen.1,h1],hlen.2,n1,n2,n3,n4⟩
     · simp at h
   · simp at h
 · simp at h
theorem aGU {m:Nat} {els:List (List CV)} (hm:Nu.at ν m = .l els):denC ν (.var m)=els∧denI ν (.clen (.var m))=(els.length:Int):=by
 have:denC ν (.var m)=els:=by simp[denC,hm,D.els]
 exact⟨this,by simp[denI,this]⟩
theorem aMj {m id ver':Nat} {pl:Pl} (hpl:σ[id]? = some pl) (hv:pl.ver<ver') {els:List (List CV)} (hm:Nu.at ν m = .l els) {w':World} (ht:Turn none w w') {ar:Array Value} {e:TypeId} {fr:Nat×Nat} {sz:Nat} (hfr:FreeR fr ar.size sz) (hh:w'.heap[w.heap.size]? = some (.cells ar e fr))
 {cap rc:Nat} (hsz:0<sz) (hall : ∀ el∈els,el.length=sz) (has:ar.size=cap*sz) (hle:els.length≤rc) (hrc:rc≤cap) (hd:aFh w (Exc X σ) sz els (fun i=>ar[i]?)) {n:Next} {r:Value} {res:Result Next}
 (hr:res = .ok n w') (hn:n = .value r) {v:LV} (hvv:(r = .slice (some ⟨w.heap.size,0,none⟩) els.length rc∧v = .rs id ver' (.int 0) (.clen (.var m)))∨(r = .pointer (some ⟨w.heap.size,0,none⟩)∧v = .ptr id ver' 0)) :
 EffU ν w X σ id ⟨ver',.row (.var m) e sz⟩ v res:=by
 subst hr hn;obtain⟨e1,e2⟩:=aGU hm;have hlt:w.heap.size<w'.heap.size:=(Array.getElem?_eq_some_iff.1 hh).1;have hmv:aGf w w' pl ⟨ver',some (w.heap.size,cap),sz⟩:=.inr ⟨ht,.inr ⟨cap,rfl,hlt⟩⟩;have hst:=aDV (X:=X) hpl hmv;have hself:(σ.set id ⟨ver',some (w.heap.size,cap),sz⟩)[id]? = some ⟨ver',some (w.heap.size,cap),sz⟩:=List.getElem?_set_self (List.getElem?_eq_some_iff.1 hpl).1;refine⟨_,r,w',pl,_,rfl,.inl rfl,hpl,rfl,.inr hv,hmv,?_,?_⟩
 · rcases hvv with ⟨h1,rfl⟩ | ⟨h1,rfl⟩
   · subst h1;simp only[LR];refine⟨_,_,_,_,rfl,hself,Nat.le_refl _,fun _=>.inr ⟨w.heap.size,cap,0,rfl,rfl,by rw[e2]; omega,by simp[denI],by rw[e2]; simp,hle,fun _=>⟨rfl,hrc⟩,fun _=>by simp[denI]⟩⟩
   · subst h1;exact aE8 hself rfl rfl
 · refine⟨rfl,hsz,by rw[e1]; exact hall,.inr ⟨w.heap.size,cap,ar,fr,rfl,hh,hfr,Nat.le_of_eq has.symm,by rw[e1]; omega,fun i el hi f cv hf=>?_⟩⟩;rw[e1] at hi;obtain⟨r,h1,h2⟩:=hd i el hi f cv hf;exact⟨r,h1,h2.step hst⟩
theorem aIB {m id ver':Nat} {pl:Pl} (hpl:σ[id]? = some pl) (hv:pl.ver<ver') {els:List (List CV)} (hm:Nu.at ν m = .l els) {w':World} (ht:Turn none w w') {ar:Array Value} {e:TypeId} (hh:w'.heap[w.heap.size]? = some (.cells ar e (0,0)))
 {cap rc sz:Nat} (hmx:cap≤9223372036854775807) (hsz:0<sz) (hall : ∀ el∈els,el.length=sz) (has:ar.size=cap*sz) (hle:els.length≤rc) (hrc:rc≤cap) (hd:aFh w (Exc X σ) sz els (fun i=>ar[i]?)) {n:Next} {r:Value} {res:Result Next}
 (hr:res = .ok n w') (hn:n = .value r) {v:LV} (hvv:(r = .slice (some ⟨w.heap.size,0,none⟩) els.length rc∧v = .rs id ver' (.int 0) (.clen (.var m)))∨(r = .pointer (some ⟨w.heap.size,0,none⟩)∧v = .ptr id ver' 0)) :
 EffU ν w X σ id ⟨ver',.row (.var m) e sz⟩ v res :=
 aMj hpl hv hm ht (fr:=(0,0)) (FreeR.none has hmx) hh hsz hall has hle hrc hd hr hn hvv
theorem aPE {m id ver':Nat} {pl:Pl} (hpl:σ[id]? = some pl) (hv:pl.ver<ver') (hm:Nu.at ν m = .l []) {e:TypeId} {sz:Nat} (hsz:0<sz) {res:Result Next} (hr:res = .ok (.value (.slice none 0 0)) w) :
 EffU ν w X σ id ⟨ver',.row (.var m) e sz⟩ (.rs id ver' (.int 0) (.clen (.var m))) res:=by
 subst hr;obtain⟨e1,e2⟩:=aGU hm;have hmv:aGf w w pl ⟨ver',none,sz⟩:=.inr ⟨Turn.refl _ _,.inl rfl⟩;have hself:(σ.set id ⟨ver',none,sz⟩)[id]? = some ⟨ver',none,sz⟩:=List.getElem?_set_self (List.getElem?_eq_some_iff.1 hpl).1;refine⟨_,_,w,pl,_,rfl,.inl rfl,hpl,rfl,.inr hv,hmv,?_,?_⟩
 · simp only[LR];exact⟨_,_,_,_,rfl,hself,Nat.le_refl _,fun _=>.inl ⟨rfl,rfl,rfl,rfl,by rw[e2]; rfl,by simp[denI]⟩⟩
 · exact⟨rfl,hsz,by rw[e1]; simp,.inl ⟨rfl,e1⟩⟩
theorem aGu (o:Nat) : ∀ (vs:List Value) (k:Nat) (a:Array Value),o+k+vs.length≤a.size→∀ j,(putV a o vs k)[j]? = if o+k≤j∧j<o+k+vs.length then vs[j - (o+k)]? else a[j]?
 | [],k,a,_,j=>by
  simp only[putV,List.zipIdx_nil,List.foldl_nil,List.length_nil];rw[if_neg (by omega)]
 | v::vs,k,a,h,j=>by
  have ih:=aGu o vs (k+1) (a.setIfInBounds (o+k) v) (by simp at h ⊢; omega) j;unfold putV at ih ⊢;rw[List.zipIdx_cons,List.foldl_cons,ih];simp only[List.length_cons] at h ⊢;by_cases e:j=o+k
  · subst e;rw[if_neg (by omega),if_pos (by omega),Nat.sub_self,Array.getElem?_setIfInBounds,if_pos rfl,if_pos (by omega)];rfl
  · by_cases h1:o+(k+1)≤j∧j<o+(k+1)+vs.length
    · rw[if_pos h1,if_pos (by omega)]
      have:j - (o+k)=(j - (o+(k+1)))+1:=by omega
      rw[this];rfl
    · rw[if_neg h1,if_neg (by omega),Array.getElem?_setIfInBounds,if_neg (fun h=>e h.symm)]
end
end
end Go.Proofs.YtcdeimjlgpfjiaaGreatDoor
