/- A symbolic run of Go code, fourth part: the operations that only compute. No condition. -/
import Derived.Test.YtcdeimjlgpfjiaaGreatDoorG01
import Derived.Laws.StructEq
import Derived.Laws.Concat
import Derived.Lib.Bytes
import Derived.Laws.RangeString
import Derived.Laws.Slices
import Derived.Laws.DeepStrings4
import Derived.Laws.IdiomStrings
set_option linter.unusedSimpArgs false
set_option linter.unusedVariables false
namespace Go.Proofs.YtcdeimjlgpfjiaaGreatDoor
section
open Go.RowKit
theorem aUH (ν ds:Nu) (n:Nat) (h:n<ν.length):Nu.at (ν++ds) n=Nu.at ν n:=by
 induction ν generalizing n with
 | nil=>simp at h
 | cons d r ih =>
  cases n with
  | zero=>rfl
  | succ n=>simpa[Nu.at] using ih n (by simpa using h)
theorem aFC (ν ds:Nu) (e:E) (h:e.ok ν.length=true) :
 denI (ν++ds) e=denI ν e∧denB (ν++ds) e=denB ν e∧denS (ν++ds) e=denS ν e∧denC (ν++ds) e=denC ν e:=by
 induction e with
 | var m =>
  simp only[E.ok,Nat.blt_eq] at h;simp[denI,denB,denS,denC,aUH ν ds m h]
 | int _ | bool _ | str _=>simp[denI,denB,denS,denC]
 | wr _ a iha | not a iha | len a iha | clen a iha | sOf a iha | shr a _ iha | shl _ a _ iha =>
  simp only[E.ok] at h;obtain⟨a1,a2,a3,a4⟩:=iha h;simp[denI,denB,denS,denC,a1,a2,a3,a4]
 | ite a b c iha ihb ihc | cut a b c iha ihb ihc =>
  simp only[E.ok,Bool.and_eq_true] at h;obtain⟨a1,a2,a3,a4⟩:=iha h.1.1;obtain⟨b1,b2,b3,b4⟩:=ihb h.1.2;obtain⟨c1,c2,c3,c4⟩:=ihc h.2;simp[denI,denB,denS,denC,a1,a2,a3,a4,b1,b2,b3,b4,c1,c2,c3,c4]
 | cell a b _ iha ihb | add a b iha ihb | sub a b iha ihb | mul a b iha ihb | quo a b iha ihb | rem a b iha ihb | lt a b iha ihb | le a b iha ihb | eq a b iha ihb | eqb a b iha ihb
 | eqs a b iha ihb | lts a b iha ihb | and a b iha ihb | byte a b iha ihb | cat a b iha ihb | drop a b iha ihb | take a b iha ihb | rune a b iha ihb | runeW a b iha ihb | band _ a b iha ihb | bor _ a b iha ihb | shrv _ a b iha ihb | shlv _ a b iha ihb | mpos a b iha ihb =>
  simp only[E.ok,Bool.and_eq_true] at h;obtain⟨a1,a2,a3,a4⟩:=iha h.1;obtain⟨b1,b2,b3,b4⟩:=ihb h.2;simp[denI,denB,denS,denC,a1,a2,a3,a4,b1,b2,b3,b4]
theorem aAQ (ν ds:Nu) (e:E) (h:e.ok ν.length=true):denI (ν++ds) e=denI ν e:=(aFC ν ds e h).1
theorem aCD (ν ds:Nu) (e:E) (h:e.ok ν.length=true):denB (ν++ds) e=denB ν e:=(aFC ν ds e h).2.1
theorem aCf (ν ds:Nu) (e:E) (h:e.ok ν.length=true):denS (ν++ds) e=denS ν e:=(aFC ν ds e h).2.2.1
theorem aA6 (ν ds:Nu) (e:E) (h:e.ok ν.length=true):denC (ν++ds) e=denC ν e:=(aFC ν ds e h).2.2.2
theorem aGG (ν ds:Nu) (e:E) (h:e.ok ν.length=true):cvE (ν++ds) e=cvE ν e:=by
 cases e with
 | cell c i f =>
  simp only[E.ok,Bool.and_eq_true] at h;simp only[cvE,aA6 ν ds c h.1,aAQ ν ds i h.2]
 | _=>simp only[cvE,aA6 ν ds _ h]
mutual
theorem aOT (ν ds:Nu) (w:World) (X:Nat→Prop) (σ:List Pl) : ∀ (v:LV) (r:Value),v.ok ν.length=true→LR ν w X σ v r→LR (ν++ds) w X σ v r
 | .b e,r,h,hr=>by simpa only[LR,aCD ν ds e h] using hr
 | .i k e,r,h,hr=>by simpa only[LR,aAQ ν ds e h] using hr
 | .s e,r,h,hr=>by simpa only[LR,aCf ν ds e h] using hr
 | .k v,r,h,hr=>by simpa only[LR] using hr
 | .vs e,r,h,hr=>by simpa only[LR,aA6 ν ds e h] using hr
 | .o e,r,h,hr=>by simpa only[LR,aGG ν ds e h] using hr
 | .vp c i f,r,h,hr=>by
  simp only[LV.ok,Bool.and_eq_true] at h;simpa only[LR,aA6 ν ds c h.1,aAQ ν ds i h.2] using hr
 | .agg cs,r,h,hr=>by
  simp only[LR] at hr ⊢;obtain⟨a,hr,ha⟩:=hr;exact⟨a,hr,aEJ ν ds w X σ cs _ (by simpa only[LV.ok] using h) ha⟩
 | .tup cs,r,h,hr=>by
  simp only[LR] at hr ⊢;obtain⟨a,hr,ha⟩:=hr;exact⟨a,hr,aEJ ν ds w X σ cs _ (by simpa only[LV.ok] using h) ha⟩
 | .fn f cs,r,h,hr=>by
  simp only[LR] at hr ⊢;obtain⟨a,hr,ha⟩:=hr;exact⟨a,hr,aEJ ν ds w X σ cs _ (by simpa only[LV.ok] using h) ha⟩
 | .nl c n,r,h,hr=>by
  simp only[LV.ok] at h;simpa only[LR,aA6 ν ds c h] using hr
 | .ptr id ver off,r,h,hr=>by simpa only[LR] using hr
 | .mp id ver,r,h,hr=>by simpa only[LR] using hr
 | .rp id ver i f,r,h,hr=>by
  simp only[LV.ok] at h;simpa only[LR,aAQ ν ds i h] using hr
 | .rs id ver o n,r,h,hr=>by
  simp only[LV.ok,Bool.and_eq_true] at h;simpa only[LR,aAQ ν ds o h.1,aAQ ν ds n h.2] using hr
 | .ifc t v,r,h,hr=>by
  simp only[LV.ok] at h;simp only[LR] at hr ⊢;obtain⟨x,hr,hx⟩:=hr;exact⟨x,hr,aOT ν ds w X σ v x h hx⟩
 | .junk,_,_,_=>by simp only[LR]
 | .g c v,r,h,hr=>by
  simp only[LV.ok,Bool.and_eq_true] at h;simp only[LR,aCD ν ds c h.1] at hr ⊢;exact⟨fun hc=>aOT ν ds w X σ v r h.2 (hr.1 hc),hr.2⟩
theorem aEJ (ν ds:Nu) (w:World) (X:Nat→Prop) (σ:List Pl) : ∀ (cs:List LV) (rs:List Value),LVs.ok ν.length cs=true→LRs ν w X σ cs rs→LRs (ν++ds) w X σ cs rs
 | [],[],_,_=>by simp only[LRs]
 | c::cs,r::rs,h,hr=>by
  simp only[LVs.ok,Bool.and_eq_true] at h;simp only[LRs] at hr ⊢;exact⟨aOT ν ds w X σ c r h.1 hr.1,aEJ ν ds w X σ cs rs h.2 hr.2⟩
 | [],_::_,_,hr=>by simp only[LRs] at hr
 | _::_,[],_,hr=>by simp only[LRs] at hr
end
theorem aUN (ν ds:Nu) (w:World) (X:Nat→Prop) (σ:List Pl) (pl:Pl) (o:LO) (h:o.ok ν.length=true) (ho:OR ν w X σ pl o):OR (ν++ds) w X σ pl o:=by
 cases o with
 | box cs elem =>
  obtain⟨b,c,a,fr,h1,h2,h3,h4⟩:=ho;exact⟨b,c,a,fr,h1,h2,h3,aEJ ν ds w X σ _ _ h h4⟩
 | row c elem sz =>
  simp only[OR,aA6 ν ds c h] at ho ⊢;exact ho
 | iter s p =>
  simp only[LO.ok,Bool.and_eq_true] at h;simp only[OR,aCf ν ds s h.1,aAQ ν ds p h.2] at ho ⊢;exact ho
 | mp c vk =>
  simp only[OR,aA6 ν ds c h] at ho ⊢;exact ho
 | hole=>exact ho
theorem aBe {ν:Nu} {w:World} {X:Nat→Prop} {σ:List Pl} : ∀ {cs:List LV} {rs:List Value},LRs ν w X σ cs rs→cs.length=rs.length
 | [],[],_=>rfl
 | c::cs,r::rs,h=>by
  simp only[LRs] at h;simp[aBe h.2]
 | [],_::_,h=>by simp only[LRs] at h
 | _::_,[],h=>by simp only[LRs] at h
theorem aFs {ν:Nu} {w:World} {X:Nat→Prop} {σ:List Pl} : ∀ {cs:List LV} {rs:List Value} (_:LRs ν w X σ cs rs) (i:Nat) (r:Value),rs[i]? = some r→LR ν w X σ (getL cs i) r
 | [],[],_,i,r,hr=>by simp at hr
 | c::cs,r'::rs,h,0,r,hr=>by
  simp only[LRs] at h;simp only[List.getElem?_cons_zero,Option.some.injEq] at hr;subst hr;exact h.1
 | c::cs,r'::rs,h,i+1,r,hr=>by
  simp only[LRs] at h;exact aFs h.2 i r (by simpa using hr)
 | [],_::_,h,_,_,_=>by simp only[LRs] at h
 | _::_,[],h,_,_,_=>by simp only[LRs] at h
theorem aO8 {ν:Nu} {w:World} {X:Nat→Prop} {σ:List Pl} : ∀ {cs:List LV} {rs:List Value} (_:LRs ν w X σ cs rs) (i:Nat) (v:LV),atL cs i=some v→∃ r,rs[i]? = some r∧LR ν w X σ v r
 | [],[],_,i,r,hr=>by simp[atL] at hr
 | c::cs,r'::rs,h,0,v,hr=>by
  simp only[LRs] at h;simp only[atL,Option.some.injEq] at hr;subst hr;exact⟨r',rfl,h.1⟩
 | c::cs,r'::rs,h,i+1,v,hr=>by
  simp only[LRs] at h;simpa using aO8 h.2 i v (by simpa[atL] using hr)
 | [],_::_,h,_,_,_=>by simp only[LRs] at h
 | _::_,[],h,_,_,_=>by simp only[LRs] at h
theorem aK7 {ν:Nu} {w:World} {X:Nat→Prop} {σ:List Pl} : ∀ {cs:List LV} {rs:List Value} (_:LRs ν w X σ cs rs) (i:Nat) (v:LV) (r:Value),LR ν w X σ v r→LRs ν w X σ (setL cs i v) (rs.set i r)
 | [],[],_,i,v,r,hr=>by simp[setL,LRs]
 | c::cs,r'::rs,h,0,v,r,hr=>by
  simp only[LRs] at h;simp only[setL,List.set_cons_zero,LRs];exact⟨hr,h.2⟩
 | c::cs,r'::rs,h,i+1,v,r,hr=>by
  simp only[LRs] at h;simp only[setL,List.set_cons_succ,LRs];exact⟨h.1,aK7 h.2 i v r hr⟩
 | [],_::_,h,_,_,_,_=>by simp only[LRs] at h
 | _::_,[],h,_,_,_,_=>by simp only[LRs] at h
theorem aDe : ∀ (cs:List LV) (i:Nat),cs.length≤i→getL cs i = .junk
 | [],_,_=>rfl
 | _::_,0,h=>by simp at h
 | _::cs,i+1,h=>aDe cs i (by simpa using h)
theorem aL9 (ν:Nu) (w:World) (X:Nat→Prop) (σ:List Pl) (v:Value):LR ν w X σ (aFO v) v:=by
 cases v <;> simp[aFO,LR,denB,denI,denS]
theorem aD9 (ν:Nu) (w:World) (X:Nat→Prop) (σ:List Pl) : ∀ (vs:List Value),LRs ν w X σ (vs.map aFO) vs
 | []=>by simp[LRs]
 | v::vs=>by
  simp only[List.map_cons,LRs];exact⟨aL9 ν w X σ v,aD9 ν w X σ vs⟩
theorem aNV (ν:Nu) (w:World) (X:Nat→Prop) (σ:List Pl) (v:Value):LR ν w X σ (lvOf v) v:=by
 cases v with
 | agg cs=>simpa only[lvOf,LR] using ⟨cs,rfl,aD9 ν w X σ cs.toList⟩
 | tuple vs=>simpa only[lvOf,LR] using ⟨vs,rfl,aD9 ν w X σ vs.toList⟩
 | _ =>
  simp only[lvOf];exact aL9 ν w X σ _
theorem aCv {ν:Nu} {w:World} {X:Nat→Prop} {σ:List Pl} {S:St} {a:Act} (h:LRs ν w X σ S.F a.tmps.toList) (x:Operand):LR ν w X σ (S.ev x) (a.eval x):=by
 cases x with
 | tmp t =>
  simp only[St.ev,Act.eval];by_cases ht:t<a.tmps.size
  · exact aFs h t _ (by simp[Array.getD_eq_getD_getElem?,ht])
  · have hl:=aBe h;have ht':a.tmps.size≤t:=Nat.le_of_not_lt ht;rw[aDe S.F t (by simp at hl; omega)];simp only[LR]
 | const v=>exact aNV ν w X σ v
 | global g=>simp[St.ev,Act.eval,LR]
 | func f=>simp[St.ev,Act.eval,LR]
theorem aH5 (ν:Nu) (k:IntKind) (e:E):denI ν (mkWr k e)=k.wrap (denI ν e):=by
 cases e <;> simp[mkWr,denI]
theorem aDg (ν:Nu) (f:Int→Int→Int) (g:E→E→E) (hg : ∀ a b,denI ν (g a b)=f (denI ν a) (denI ν b)) (a b:E):denI ν (aHQ f g a b)=f (denI ν a) (denI ν b):=by
 unfold aHQ;split
 · simp[denI]
 · exact hg _ _
theorem aDj (ν:Nu) (f:Int→Int→Bool) (g:E→E→E) (hg : ∀ a b,denB ν (g a b)=f (denI ν a) (denI ν b)) (a b:E):denB ν (aGi f g a b)=f (denI ν a) (denI ν b):=by
 unfold aGi;split
 · simp[denI,denB]
 · exact hg _ _
theorem aBO (ν:Nu) (e:E):denB ν (aFu e) = !denB ν e:=by
 cases e <;> simp[aFu,denB]
theorem aFp (ν:Nu) (a b:E):denB ν (aKU a b)=(denB ν a&&denB ν b):=by
 unfold aKU;split <;> simp[denB]
theorem aGA (ν:Nu) (c a b:E):denB ν (aJj c a b)=if denB ν c then denB ν a else denB ν b:=by
 unfold aJj;split <;> simp[denB]
theorem aNv (ν:Nu) (c a b:E):denI ν (aJj c a b)=if denB ν c then denI ν a else denI ν b:=by
 unfold aJj;split <;> simp[denB,denI]
theorem aQA (l:List UInt8):(ByteArray.mk l.toArray).toList=l:=by
 rw[Lib.toList_data]
theorem aHv (ν:Nu) (a b:E):denB ν (aL3 a b)=((denS ν a).toList==(denS ν b).toList):=by
 unfold aL3;split
 · simp[denB,denS,aQA]
 · simp[denB]
theorem aFL (ν:Nu) (e:E):denI ν (aG6 e)=(denS ν e).size:=by
 cases e <;> first | rfl | simp[aG6,denI,denS]
theorem aIE (a b:IntKind):kEq a b=true↔a=b:=by
 cases a <;> cases b <;> simp[kEq]
theorem aKS {ρ:Operand→LV} {op:Op} {f:FuncId} {as_:List LV} (h:aDz ρ op=some (f,as_)) : ∃ x args tys,op = .call ⟨.value x,args,tys⟩ ∧
 ((ρ x = .k (.func (.func f) #[] #[])∧as_=args.toList.map ρ)∨∃ caps,caps.all aEU=true∧ρ x = .fn f caps∧as_=args.toList.map ρ++caps):=by
 unfold aDz at h;split at h
 · rename_i x args' tys;split at h
   · rename_i f' a b hx;cases hb:a.isEmpty&&b.isEmpty
     · rw[hb] at h; simp at h
     rw[hb] at h;simp only[cond_true,Option.some.injEq,Prod.mk.injEq] at h;obtain⟨rfl,rfl⟩:=h;simp only[Bool.and_eq_true,Array.isEmpty_iff] at hb;obtain⟨rfl,rfl⟩:=hb;exact⟨x,args',tys,rfl,.inl ⟨hx,rfl⟩⟩
   · rename_i f' caps hx;cases hb:caps.all aEU
     · rw[hb] at h; simp at h
     rw[hb] at h;simp only[cond_true,Option.some.injEq,Prod.mk.injEq] at h;obtain⟨rfl,rfl⟩:=h;exact⟨x,args',tys,rfl,.inr ⟨caps,hb,hx,rfl⟩⟩
   · simp at h
 · simp at h
theorem aM6 : ∀ {l:List (Nat×List Nat×Nat)} {t:Nat} {s:String} {f:Nat},aPo l t s=some f→∃ k,(t,k,f)∈l∧s=aDh k
 | [],_,_,_,h=>by simp[aPo] at h
 | (u,k,g)::r,t,s,f,h=>by
  simp only[aPo] at h;cases hb:Nat.beq u t&&(s==aDh k)
  · rw[hb] at h;obtain⟨k',h1,h2⟩:=aM6 (l:=r) h;exact⟨k',by simp[h1],h2⟩
  · rw[hb] at h;simp only[cond_true,Option.some.injEq] at h;simp only[Bool.and_eq_true,beq_iff_eq] at hb;obtain rfl:=Nat.eq_of_beq_eq_true hb.1;subst h;exact⟨k,by simp,hb.2⟩
theorem aNM {T:Tab} {ρ:Operand→LV} {op:Op} {f:FuncId} {as_:List LV} (h:aGR T ρ op=some (f,as_)):(∃ x args tys,op = .call ⟨.value x,args,tys⟩ ∧
 ((ρ x = .k (.func (.func f) #[] #[])∧as_=args.toList.map ρ)∨∃ caps,ρ x = .fn f caps∧as_=args.toList.map ρ++caps)) ∨
 ∃ x s args tys t v,op = .call ⟨.invoke x s,args,tys⟩∧ρ x = .ifc t v∧T.meth t s=some f∧as_=v::args.toList.map ρ:=by
 unfold aGR at h;split at h
 · rename_i x s args' tys;split at h
   · rename_i t v hx;split at h
     · rename_i f' hm;simp only[Option.some.injEq,Prod.mk.injEq] at h;obtain⟨rfl,rfl⟩:=h;exact .inr ⟨x,s,args',tys,t,v,rfl,hx,hm,rfl⟩
     · simp at h
   · simp at h
 · rename_i x args' tys;refine .inl ?_;split at h
   · rename_i f' a b hx;cases hb:a.isEmpty&&b.isEmpty
     · rw[hb] at h; simp at h
     rw[hb] at h;simp only[cond_true,Option.some.injEq,Prod.mk.injEq] at h;obtain⟨rfl,rfl⟩:=h;simp only[Bool.and_eq_true,Array.isEmpty_iff] at hb;obtain⟨rfl,rfl⟩:=hb;exact⟨x,args',tys,rfl,.inl ⟨hx,rfl⟩⟩
   · rename_i f' caps hx;simp only[Option.some.injEq,Prod.mk.injEq] at h;obtain⟨rfl,rfl⟩:=h;exact⟨x,args',tys,rfl,.inr ⟨caps,hx,rfl⟩⟩
   · simp at h
 · simp at h
def denN (ν:Nu):Need→Prop
 | .ix i n=>0≤denI ν i∧denI ν i<denI ν n
 | .cuts a b n=>0≤denI ν a∧denI ν a≤denI ν b∧denI ν b≤denI ν n
 | .ne0 a=>denI ν a≠0
 | .kinds c i f ks=>ks=((((denC ν c).getD (denI ν i).toNat []).drop f).take ks.length).map aBA
 | .fits n by_=>0≤denI ν n∧denI ν n*by_≤140737488355328∧denI ν n≤9223372036854775807
 | .strs a b=>(((denS ν a).size+(denS ν b).size:Nat):Int)≤9223372036854775807
 | .bytesC c=>∀ el∈denC ν c,∃ z:Int,el=[.v (.int .u8 z)]
 | .szAll c n=>∀ el∈denC ν c,el.length=n
 | .le a b=>denI ν a≤denI ν b
def cvOf (ν:Nu):LV→CV
 | .b e=>.v (.bool (denB ν e))
 | .i k e=>.v (.int k (denI ν e))
 | .s e=>.v (.string (denS ν e))
 | .k v=>.v v
 | .vs c=>.vs (denC ν c)
 | .o e=>cvE ν e
 | _=>default
def aAD (s:ByteArray):List (List CV):=s.data.toList.map fun b=>[.v (.int .u8 b.toNat)]
def aEk (el:List CV) (f:Nat) (cs:List CV):List CV:=el.take f++cs++el.drop (f+cs.length)
def aRI (c:List (List CV)) (k:ByteArray) (cv:CV):List (List CV):=if aBy c k<c.length then c.set (aBy c k) [.v (.string k),cv] else c++[[.v (.string k),cv]]
def aBo (ν:Nu):DC→List (List CV)
 | .app c d=>denC ν c++denC ν d
 | .appS c s=>denC ν c++aAD (denS ν s)
 | .set c i f cells=>(denC ν c).set (denI ν i).toNat (aEk ((denC ν c).getD (denI ν i).toNat []) f (cells.map (cvOf ν)))
 | .rep n cells=>List.replicate (denI ν n).toNat (cells.map (cvOf ν))
 | .lit els=>els.map (·.map (cvOf ν))
 | .bytes s=>aAD (denS ν s)
 | .mput c k v=>aRI (denC ν c) (denS ν k) (cvOf ν v)
def aAZ (ν:Nu) (ns:List Need):Prop:=∀ n∈ns,denN ν n
theorem aMw (ν ds:Nu) (v:LV) (h:v.ok ν.length=true):cvOf (ν++ds) v=cvOf ν v:=by
 cases v with
 | b e=>simp only[cvOf,aCD ν ds e h]
 | i k e=>simp only[cvOf,aAQ ν ds e h]
 | s e=>simp only[cvOf,aCf ν ds e h]
 | vs c=>simp only[cvOf,aA6 ν ds c h]
 | o e=>simp only[cvOf,aGG ν ds e h]
 | _=>rfl
theorem aD1 (ν ds:Nu) : ∀ (vs:List LV),LVs.ok ν.length vs=true→vs.map (cvOf (ν++ds))=vs.map (cvOf ν)
 | [],_=>rfl
 | v::vs,h=>by
  simp only[LVs.ok,Bool.and_eq_true] at h;simp only[List.map_cons,aMw ν ds v h.1,aD1 ν ds vs h.2]
theorem aRX (ν ds:Nu) (p:Need) (h:p.ok ν.length=true):denN (ν++ds) p↔denN ν p:=by
 cases p <;> simp only[Need.ok,Bool.and_eq_true] at h
 case ix i n=>simp only[denN,aAQ ν ds _ h.1,aAQ ν ds _ h.2]
 case cuts a b n=>simp only[denN,aAQ ν ds _ h.1.1,aAQ ν ds _ h.1.2,aAQ ν ds _ h.2]
 case ne0 a=>simp only[denN,aAQ ν ds _ h]
 case kinds c i f ks=>simp only[denN,aA6 ν ds _ h.1,aAQ ν ds _ h.2]
 case fits n by_=>simp only[denN,aAQ ν ds _ h]
 case strs a b=>simp only[denN,aCf ν ds _ h.1,aCf ν ds _ h.2]
 case bytesC c=>simp only[denN,aA6 ν ds _ h]
 case szAll c n=>simp only[denN,aA6 ν ds _ h]
 case le a b=>simp only[denN,aAQ ν ds _ h.1,aAQ ν ds _ h.2]
theorem aD3 (ν ds:Nu) : ∀ (ns:List Need),aAU ν.length ns=true→(aAZ (ν++ds) ns↔aAZ ν ns)
 | [],_=>by simp[aAZ]
 | p::ns,h=>by
  simp only[aAU,Bool.and_eq_true] at h;have h1:=aRX ν ds p h.1;have h2:=aD3 ν ds ns h.2;simp only[aAZ,List.mem_cons,forall_eq_or_imp] at h2 ⊢;rw[h1,h2]
theorem aHd (ν ds:Nu) (d:DC) (h:d.ok ν.length=true):aBo (ν++ds) d=aBo ν d:=by
 cases d with
 | app c d =>
  simp only[DC.ok,Bool.and_eq_true] at h;simp only[aBo,aA6 ν ds _ h.1,aA6 ν ds _ h.2]
 | appS c s =>
  simp only[DC.ok,Bool.and_eq_true] at h;simp only[aBo,aA6 ν ds _ h.1,aCf ν ds _ h.2]
 | set c i f cells =>
  simp only[DC.ok,Bool.and_eq_true] at h;simp only[aBo,aA6 ν ds _ h.1.1,aAQ ν ds _ h.1.2,aD1 ν ds _ h.2]
 | rep m cells =>
  simp only[DC.ok,Bool.and_eq_true] at h;simp only[aBo,aAQ ν ds _ h.1,aD1 ν ds _ h.2]
 | lit els =>
  simp only[DC.ok,List.all_eq_true] at h;simp only[aBo];exact List.map_congr_left fun l hl=>aD1 ν ds l (h l hl)
 | bytes s=>simp only[aBo,aCf ν ds s h]
 | mput c k v =>
  simp only[DC.ok,Bool.and_eq_true] at h;simp only[aBo,aA6 ν ds _ h.1.1,aCf ν ds _ h.1.2,aMw ν ds _ h.2]
def TiOK (P:Program) (t:Nat) (ti:TI):Prop :=
 P.underlying t=some ti.desc∧(∃ i:TypeInfo,P.info? t=some i∧i.size=ti.size∧i.bytes=ti.bytes∧(∀ z,ti.zero=some z→i.zero=some z)) ∧
  (ti.eq=true→P.stoodInHeld t=false∧P.eqGuardType P.depth t=false)
theorem aAb {P:Program} {t:Nat} {d:TypeDesc} {s b:Nat} {z:Option Value} {e:Bool} (h1:P.underlying t=some d) (h2:(P.info? t).map (fun i=>(i.size,i.bytes,i.zero))=some (s,b,z))
 (h3:e=true→P.stoodInHeld t=false∧P.eqGuardType P.depth t=false):TiOK P t ⟨d,s,b,z,e⟩:=by
 cases hi:P.info? t with
 | none=>rw[hi] at h2; simp at h2
 | some i =>
  rw[hi] at h2;simp only[Option.map_some,Option.some.injEq,Prod.mk.injEq] at h2;exact⟨h1,⟨i,hi,h2.1,h2.2.1,fun z' hz=>by rw[h2.2.2]; exact hz⟩,h3⟩
def TOKl (P:Program):List (Nat×TI)→Prop
 | []=>True
 | (t,ti)::r=>TiOK P t ti∧TOKl P r
def aMJ (P:Program) (t:Nat) (k:List Nat) (f:Nat):Prop :=
 (∃ e,P.underlying t=some (.pointer e))∧∃ i m,P.info? t=some i∧i.methods.find? (fun m=>m.name==aDh k)=some m∧m.path = #[]∧m.func=some (f,true)
def MOKl (P:Program):List (Nat×List Nat×Nat)→Prop
 | []=>True
 | (t,k,f)::r=>aMJ P t k f∧MOKl P r
theorem MOKl.get {P:Program} : ∀ {l:List (Nat×List Nat×Nat)} (_:MOKl P l) {t:Nat} {k:List Nat} {f:Nat},(t,k,f)∈l→aMJ P t k f
 | [],_,_,_,_,h=>by simp at h
 | (u,k',g)::r,hl,t,k,f,h=>by
  rcases List.mem_cons.1 h with h | h
  · simp only[Prod.mk.injEq] at h;obtain⟨rfl,rfl,rfl⟩:=h;exact hl.1
  · exact MOKl.get hl.2 h
def TOK (P:Program) (T:Tab):Prop:=TOKl P T.ts∧MOKl P T.mt
theorem TOKl.get {P:Program} : ∀ {T:List (Nat×TI)} (_:TOKl P T) {t:Nat} {ti:TI},getT T t=some ti→TiOK P t ti
 | [],_,_,_,h=>by simp[getT] at h
 | (t',ti')::r,hT,t,ti,h=>by
  simp only[getT] at h;cases hb:Nat.beq t' t
  · rw[hb] at h;exact TOKl.get hT.2 h
  · rw[hb] at h;obtain rfl:=Nat.eq_of_beq_eq_true hb
    obtain rfl:ti'=ti:=by simpa using h
    exact hT.1
theorem TOK.get {P:Program} {T:Tab} (hT:TOK P T) {t:Nat} {ti:TI} (h:T.get t=some ti):TiOK P t ti:=TOKl.get hT.1 h
theorem TOK.meth {P:Program} {T:Tab} (hT:TOK P T) {t:Nat} {s:String} {f:Nat} (h:T.meth t s=some f) : ∃ k,aMJ P t k f∧s=aDh k:=by
 obtain⟨k,h1,h2⟩:=aM6 h;exact⟨k,MOKl.get hT.2 h1,h2⟩
end
section
open Go.RowKit
theorem aAv {P:Program} {t:TypeId} {d:TypeDesc} (h:P.underlying t=some d) (w:World):(underlying t).run P w = .ok d w:=run_underlying h w
theorem aMr {P:Program} {t:TypeId} {i:TypeInfo} (h:P.info? t=some i) (w:World):(typeInfo t).run P w = .ok i w:=by
 simp[typeInfo,h]
theorem aAM {P:Program} {t:TypeId} {i:TypeInfo} (h:P.info? t=some i) (w:World):(sizeOf t).run P w = .ok i.size w:=by
 simp[sizeOf,aMr h]
theorem aCh {P:Program} {t:TypeId} {i:TypeInfo} {z:Value} (h:P.info? t=some i) (hz:i.zero=some z) (w:World):(zeroValue t).run P w = .ok z w:=by
 simp[zeroValue,aMr h,hz]
theorem aDR {P:Program} {t:TypeId} {d:TypeDesc} (h:P.underlying t=some d) (w:World):(isAgg t).run P w = .ok (aggT d) w:=by
 simp only[isAgg,Sem.run_bind,aAv h,Result.andThen_ok];cases d <;> simp[aggT]
section
variable {P:Program} {ν:Nu} {w:World} {X:Nat→Prop} {σ:List Pl}
def aA1 (P:Program) (op:BinOp) (t:TypeId) (ox oy:Operand) (a b:Value) (w:World):Result Value :=
 (do eqGuard op t ox oy a b; binOp op t a b:Sem Value).run P w
theorem aPm (op:BinOp) (t:TypeId) (ox oy:Operand) (k k':IntKind) (a b:Int):aA1 P op t ox oy (.int k a) (.int k' b) w=(binOp op t (.int k a) (.int k' b)).run P w:=by
 unfold aA1 eqGuard;cases op <;> simp
theorem aOV (op:BinOp) (t:TypeId) (ox oy:Operand) (a b:ByteArray):aA1 P op t ox oy (.string a) (.string b) w=(binOp op t (.string a) (.string b)).run P w:=by
 unfold aA1 eqGuard;cases op <;> simp
theorem aOb (op:BinOp) (t:TypeId) (ox oy:Operand) (a b:Bool):aA1 P op t ox oy (.bool a) (.bool b) w=(binOp op t (.bool a) (.bool b)).run P w:=by
 unfold aA1 eqGuard;cases op <;> simp
def aBC (P:Program) (ν:Nu) (w:World) (X:Nat→Prop) (σ:List Pl) (out:Out) (r:Result Value):Prop :=
 out.e = .no∧(aAZ ν out.needs→∃ v,r = .ok v w∧LR ν w X σ out.v v)
theorem aUk (op:BinOp) (k:IntKind) (t:TypeId) (a b:E) (out:Out) (h:aT0 op k a b=some out) :
 aBC P ν w X σ out ((binOp op t (.int k (denI ν a)) (.int k (denI ν b))).run P w):=by
 cases op <;> simp only[aT0,Option.some.injEq,reduceCtorEq] at h <;> subst h <;> refine⟨rfl,fun hn=>?_⟩
 all_goals simp only[binOp,ne_eq,not_true_eq_false,if_false,Op.intArith,Op.intDiv,Op.intCmp,Op.intBits]
 case add=>exact⟨_,rfl,by simp only[LR,aH5,aDg ν (· + ·) .add (fun _ _=>rfl)]⟩
 case sub=>exact⟨_,rfl,by simp only[LR,aH5,aDg ν (· - ·) .sub (fun _ _=>rfl)]⟩
 case mul=>exact⟨_,rfl,by simp only[LR,aH5,aDg ν (· * ·) .mul (fun _ _=>rfl)]⟩
 case quo =>
  have h0:denI ν b≠0:=hn (.ne0 b) (by simp);rw[if_neg h0];exact⟨_,rfl,by simp only[LR,aH5,aDg ν Int.tdiv .quo (fun _ _=>rfl)]⟩
 case rem =>
  have h0:denI ν b≠0:=hn (.ne0 b) (by simp);rw[if_neg h0];exact⟨_,rfl,by simp only[LR,aDg ν Int.tmod .rem (fun _ _=>rfl)]⟩
 case and=>exact⟨_,rfl,by simp only[LR,denI]⟩
 case or=>exact⟨_,rfl,by simp only[LR,denI]⟩
 case eql=>exact⟨_,rfl,by simp only[LR,aDj ν (· == ·) .eq (fun _ _=>rfl)]⟩
 case neq=>exact⟨_,rfl,by simp only[LR,aBO,aDj ν (· == ·) .eq (fun _ _=>rfl)]; rfl⟩
 case lss=>exact⟨_,rfl,by simp only[LR,aDj ν (fun x y=>decide (x<y)) .lt (fun _ _=>rfl)]⟩
 case leq=>exact⟨_,rfl,by simp only[LR,aDj ν (fun x y=>decide (x≤y)) .le (fun _ _=>rfl)]⟩
 case gtr=>exact⟨_,rfl,by simp only[LR,aDj ν (fun x y=>decide (x<y)) .lt (fun _ _=>rfl)]⟩
 case geq=>exact⟨_,rfl,by simp only[LR,aDj ν (fun x y=>decide (x≤y)) .le (fun _ _=>rfl)]⟩
theorem aT4 (op:BinOp) (t:TypeId) (a b:E) (out:Out) (h:aT1 op a b=some out) :
 aBC P ν w X σ out ((binOp op t (.string (denS ν a)) (.string (denS ν b))).run P w):=by
 cases op <;> simp only[aT1,Option.some.injEq,reduceCtorEq] at h <;> subst h <;> refine⟨rfl,fun hn=>?_⟩
 all_goals simp only[binOp]
 case add =>
  have h0:(((denS ν a).size+(denS ν b).size:Nat):Int)≤9223372036854775807:=hn (.strs a b) (by simp);exact⟨_,run_string_add_sum _ _ _ (by omega),by simp only[LR,denS]⟩
 all_goals simp only[Op.stringOp]
 case eql=>exact⟨_,rfl,by simp only[LR,aHv]⟩
 case neq=>exact⟨_,rfl,by simp only[LR,aBO,aHv]⟩
 case lss=>exact⟨_,rfl,by simp only[LR,denB]⟩
 case leq =>
  refine⟨_,rfl,?_⟩;simp only[LR,aGA,aHv,denB];cases Op.bytesLess (denS ν a).toList (denS ν b).toList <;> simp
 case gtr =>
  refine⟨_,rfl,?_⟩;simp only[LR,aBO,aGA,aHv,denB];cases Op.bytesLess (denS ν a).toList (denS ν b).toList <;> simp
 case geq=>exact⟨_,rfl,by simp only[LR,aBO,denB]⟩
theorem aGy {cs:List LV} {c:LV} {rs:List Value} (h:LRs ν w X σ (c::cs) rs) : ∃ r rs',rs=r::rs'∧LR ν w X σ c r∧LRs ν w X σ cs rs':=by
 cases rs with
 | nil=>simp only[LRs] at h
 | cons r rs' =>
  simp only[LRs] at h;exact⟨r,rs',rfl,h.1,h.2⟩
theorem aUt {d:TypeDesc} {ty:TypeId} (hu:P.underlying ty=some d) (n:Nat) {a b:LV} {e:E} (he:eqC d a b=some e) {ra rb:Value} (la:LR ν w X σ a ra) (lb:LR ν w X σ b rb) :
 aggT d=false∧(Op.equalIn (n+1) ty ra rb).run P w = .ok (denB ν e) w:=by
 unfold eqC at he;split at he
 · rename_i k0 k1 a1 k2 b1;cases hkk:kEq k1 k2
   · rw[hkk] at he; simp at he
   · rw[hkk] at he;obtain rfl:=(aIE _ _).1 hkk
     obtain rfl:aGi (· == ·) .eq a1 b1=e:=by simpa using he
     simp only[LR] at la lb;subst la lb;exact⟨rfl,by rw[run_equalIn_int w n ty k1 k0 _ _ hu,aDj ν (· == ·) .eq (fun _ _=>rfl)]⟩
 · simp only[Option.some.injEq] at he;subst he;simp only[LR] at la lb;subst la lb;exact⟨rfl,by rw[run_equalIn_string w n ty _ _ hu,aHv]⟩
 · simp only[Option.some.injEq] at he;subst he;simp only[LR] at la lb;subst la lb;exact⟨rfl,by rw[run_equalIn_bool' w n ty _ _ hu]; rfl⟩
 · simp at he
theorem aED {T:Tab} (hT:TOK P T) (d:Nat) (xs ys:Array Value) : ∀ (fs:List Field) (i:Nat) (as bs:List LV) (e:E),
 eqFs T fs i as bs=some e→LRs ν w X σ as (xs.toList.drop i)→LRs ν w X σ bs (ys.toList.drop i) →
 (Op.eqFields (d+1) xs ys fs).run P w = .ok (denB ν e) w
 | [],i,as,bs,e,he,_,_=>by
  unfold eqFs at he;split at he
  · simp only[Option.some.injEq] at he;subst he;simp[Op.eqFields,denB]
  all_goals simp_all
 | f::fs,i,as,bs,e,he,ha,hb=>by
  cases as with
  | nil=>simp[eqFs] at he
  | cons a as =>
   cases bs with
   | nil=>simp[eqFs] at he
   | cons b bs =>
    simp only[eqFs] at he;split at he
    rotate_left
    · simp at he
    rename_i ti hg;cases hc:Nat.beq f.offset i&&(f.name != "_")
    · rw[hc] at he; simp at he
    rw[hc] at he;simp only[cond_true] at he;split at he
    rotate_left
    · simp at he
    rename_i x y hx hy;simp only[Option.some.injEq] at he;subst he;simp only[Bool.and_eq_true,bne_iff_ne,ne_eq] at hc;obtain⟨ho,hn⟩:=hc;have ho:f.offset=i:=Nat.eq_of_beq_eq_true ho;obtain⟨ra,ras,hra,la,las⟩:=aGy ha;obtain⟨rb,rbs,hrb,lb,lbs⟩:=aGy hb
    have ga:xs[i]? = some ra:=by
     have:=congrArg (·[0]?) hra
     simpa using this
    have gb:ys[i]? = some rb:=by
     have:=congrArg (·[0]?) hrb
     simpa using this
    have da:xs.toList.drop (i+1)=ras:=by rw[←List.drop_drop,hra]; rfl
    have db:ys.toList.drop (i+1)=rbs:=by rw[←List.drop_drop,hrb]; rfl
    have hu:=(hT.get hg).1;obtain⟨hagg,key⟩:=aUt hu d hx la lb;have ih:=aED hT d xs ys fs (i+1) as bs y hy (by rw[da]; exact las) (by rw[db]; exact lbs);simp only[Op.eqFields,ne_eq,hn,not_false_eq_true,if_true,Sem.run_bind,part,aDR hu,hagg,Result.andThen_ok,Bool.false_eq_true,if_false,ho,ga,gb,Sem.run_pure,key,Sem.run_ite,aFp,ih];cases denB ν x <;> simp
end
end
section
open Go.RowKit
section
variable {P:Program} {ν:Nu} {w:World} {X:Nat→Prop} {σ:List Pl}
theorem aK5 (t:TypeId) (k k':IntKind) (a:Int) (n:Nat) (h:n<k.bits):(binOp .shr t (.int k a) (.int k' (Int.ofNat n))).run P w = .ok (.int k (a.fdiv (2 ^ n))) w:=by
 simp only[binOp,Op.shift];rw[if_neg (by simp)];simp[Nat.min_eq_left (Nat.le_of_lt h)]
theorem aLr (t:TypeId) (k k':IntKind) (a:Int) (n:Nat) (h:n<k.bits):(binOp .shl t (.int k a) (.int k' (Int.ofNat n))).run P w = .ok (.int k (k.wrap (a*2 ^ n))) w:=by
 simp only[binOp,Op.shift];rw[if_neg (by simp)];simp[Nat.min_eq_left (Nat.le_of_lt h)]
theorem aLC (t:TypeId) (k k':IntKind) (a b:Int) (h:0≤b):(binOp .shr t (.int k a) (.int k' b)).run P w = .ok (.int k (a.fdiv (2 ^ min b.toNat k.bits))) w:=by
 simp only[binOp,Op.shift];rw[if_neg (by omega)]
 simp
theorem aLs (t:TypeId) (k k':IntKind) (a b:Int) (h:0≤b):(binOp .shl t (.int k a) (.int k' b)).run P w = .ok (.int k (k.wrap (a*2 ^ min b.toNat k.bits))) w:=by
 simp only[binOp,Op.shift];rw[if_neg (by omega)]
 simp
theorem aVB {T:Tab} (hT:TOK P T) (op:BinOp) (t:TypeId) (x y:LV) (out:Out) (h:binO T op t x y=some out) (ox oy:Operand) (rx ry:Value) (lx:LR ν w X σ x rx) (ly:LR ν w X σ y ry) :
 aBC P ν w X σ out (aA1 P op t ox oy rx ry w):=by
 unfold binO at h;split at h
 · rename_i k a k' b;simp only[LR] at lx ly;subst lx ly;rw[aPm];split at h
   · split at h
     · rename_i n;cases hb:Nat.blt n k.bits
       · rw[hb] at h; simp at h
       · rw[hb] at h;simp only[cond_true,Option.some.injEq] at h;subst h;exact⟨rfl,fun _=>⟨_,aK5 t k k' (denI ν a) n (by simpa using hb),by simp only[LR,denI]⟩⟩
     · simp at h
   · split at h
     · rename_i n;cases hb:Nat.blt n k.bits
       · rw[hb] at h; simp at h
       · rw[hb] at h;simp only[cond_true,Option.some.injEq] at h;subst h;exact⟨rfl,fun _=>⟨_,aLr t k k' (denI ν a) n (by simpa using hb),by simp only[LR,denI]⟩⟩
     · simp at h
   · simp only[Option.some.injEq] at h;subst h;exact⟨rfl,fun hn=>⟨_,aLC t k k' (denI ν a) (denI ν b) (by simpa[aAZ,denN,denI] using hn),by simp only[LR,denI]⟩⟩
   · simp only[Option.some.injEq] at h;subst h;exact⟨rfl,fun hn=>⟨_,aLs t k k' (denI ν a) (denI ν b) (by simpa[aAZ,denN,denI] using hn),by simp only[LR,denI]⟩⟩
   · rename_i h1 h2 h3 h4;cases hk:kEq k k'
     · rw[hk] at h; simp at h
     · rw[hk] at h;obtain rfl:=(aIE _ _).1 hk;exact aUk op k t a b out (by simpa using h)
 · simp only[LR] at lx ly;subst lx ly;rw[aOV];exact aT4 op t _ _ out h
 · rename_i a b;simp only[LR] at lx ly;subst lx ly;rw[aOb];split at h
   · rename_i hg;have hu:=(hT.get hg).1;split at h
     · simp only[Option.some.injEq] at h;subst h;exact⟨rfl,fun _=>⟨_,run_eql_bool w t _ _ hu,by simp only[LR,denB]⟩⟩
     · simp only[Option.some.injEq] at h;subst h;refine⟨rfl,fun _=>⟨.bool (!(denB ν a==denB ν b)),?_,by simp only[LR,aBO,denB]⟩⟩;simp only[binOp,Sem.run_bind,run_equal_bool w t _ _ hu,Result.andThen_ok,Sem.run_pure]
     · simp at h
   · simp at h
 · rename_i c;split at h
   · rename_i el _ _ _ _ hg;have hu:=(hT.get hg).1;simp only[LR] at lx ly;subst ly
     obtain⟨ad,len,rc,rfl,hnil⟩ : ∃ ad len rc,rx = .slice ad len rc∧(ad.isNone=true→denC ν c=[]):=by
      generalize hcv:CV.vs (denC ν c)=cv at lx
      cases lx with
      | v x h1=>cases hcv
      | sem Q x h1 hq=>cases hcv
      | nil a =>
       simp only[CV.vs.injEq] at hcv;exact⟨a,0,0,rfl,fun _=>hcv⟩
      | vs els b o sz cc g h1 h2 h3 h4=>exact⟨_,_,_,rfl,fun h=>by simp at h⟩
     have hg2 : ∀ op,aA1 P op t ox oy (.slice ad len rc) (.slice none 0 0) w=(binOp op t (.slice ad len rc) (.slice none 0 0)).run P w:=fun op=>by
      unfold aA1 eqGuard;cases op <;> simp
     have hrun:(Op.equal t (.slice ad len rc) (.slice none 0 0)).run P w = .ok ad.isNone w:=by
      simp[Op.equal,Op.maxDepth,Lib.run_equalIn_slice_nil w 9999 t el ad len rc 0 0 hu]
     split at h
     · simp only[Option.some.injEq] at h;subst h;refine⟨rfl,fun _=>⟨.bool ad.isNone,?_,?_⟩⟩
       · rw[hg2]; simp only[binOp,Sem.run_bind,hrun,Result.andThen_ok,Sem.run_pure]
       · simp only[LR];exact⟨_,rfl,fun h=>hnil (by simpa using h)⟩
     · simp only[Option.some.injEq] at h;subst h;refine⟨rfl,fun _=>⟨.bool (!ad.isNone),?_,?_⟩⟩
       · rw[hg2]; simp only[binOp,Sem.run_bind,hrun,Result.andThen_ok,Sem.run_pure]
       · simp only[LR];exact⟨_,rfl,fun h=>hnil (by simpa using h)⟩
     · simp at h
   · simp at h
 · rename_i xs ys;split at h
   · rename_i fs _ _ _ hg;obtain⟨hu,⟨i,hi,_⟩,hq⟩:=hT.get hg;obtain⟨hp,hm⟩:=hq rfl;simp only[LR] at lx ly;obtain⟨ax,rfl,lx⟩:=lx;obtain⟨ay,rfl,ly⟩:=ly
     have hfs:P.fieldsOf t=fs:=by simp only[Program.fieldsOf,hu]
     have ht:P.underlying t=some (.struct (P.fieldsOf t)):=by rw[hfs]; exact hu
     split at h
     · rename_i e he;simp only[Option.some.injEq] at h;subst h;have key:=aED hT 9998 ax ay fs.toList 0 xs ys e he (by simpa using lx) (by simpa using ly);refine⟨rfl,fun _=>⟨_,?_,rfl⟩⟩;simp only[aA1,Sem.run_bind,run_eqGuard_agg w _ t ox oy ax ay hm,Result.andThen_ok,run_eql_struct,run_equalIn_agg w 9999 t ax ay ht hp,hfs,key]
     · rename_i e he;simp only[Option.some.injEq] at h;subst h;have key:=aED hT 9998 ax ay fs.toList 0 xs ys e he (by simpa using lx) (by simpa using ly);refine⟨rfl,fun _=>⟨.bool (!denB ν e),?_,by simp only[LR,aBO]⟩⟩;simp only[aA1,Sem.run_bind,run_eqGuard_agg w _ t ox oy ax ay hm,Result.andThen_ok,run_neq_struct,run_equalIn_agg w 9999 t ax ay ht hp,hfs,key]
     · simp at h
   · simp at h
 · simp at h
end
end
section
open Go.RowKit
section
variable {P:Program} {ν:Nu} {w:World} {X:Nat→Prop} {σ:List Pl}
theorem aGT {cs:List LV} {rs:List Value} (h:LRs ν w X σ cs rs) : ∀ (n off:Nat) (l:List LV),aIY cs off n=some l →
 ∃ qs:List Value,LRs ν w X σ l qs∧qs.length=n∧∀ (j:Nat) (v:Value),qs[j]? = some v→rs[off+j]? = some v
 | 0,off,l,hl=>by
  simp only[aIY,Option.some.injEq] at hl;subst hl;exact⟨[],by simp only[LRs],rfl,fun j v hv=>by simp at hv⟩
 | n+1,off,l,hl=>by
  simp only[aIY] at hl;split at hl
  · rename_i c r hc hr;simp only[Option.some.injEq] at hl;subst hl;obtain⟨q,hq,lq⟩:=aO8 h off c hc;obtain⟨qs,lqs,hlen,hqs⟩:=aGT h n (off+1) r hr;refine⟨q::qs,by simp only[LRs]; exact⟨lq,lqs⟩,by simp[hlen],fun j v hv=>?_⟩
    cases j with
    | zero=>simpa using hv▸hq
    | succ j =>
     have:=hqs j v (by simpa using hv)
     rw[show off+(j+1)=off+1+j from by omega];exact this
  · simp at hl
theorem aO0 {T:Tab} (hT:TOK P T) {t:TypeId} {ti:TI} (hg:T.get t=some ti) {l:List LV} {qs:List Value} (hl:LRs ν w X σ l qs) (hn:qs.length=ti.size) (b off:Nat)
 (hc : ∀ (j:Nat) (v:Value),qs[j]? = some v→w.cell? ⟨b,off+j,none⟩=some v) {v:LV} (hv:aHR (aggT ti.desc) l=some v) :
 ∃ r,(Instr.loadAt t (.pointer (some ⟨b,off,none⟩))).run P w = .ok r w∧LR ν w X σ v r:=by
 obtain⟨hu,⟨i,hi,hs,_,_⟩,_⟩:=hT.get hg;unfold aHR at hv;cases ha:aggT ti.desc
 · rw[ha] at hv;simp only[cond_false] at hv;split at hv
   · rename_i x
     obtain rfl:x=v:=by simpa using hv
     obtain⟨r,rs,rfl,lx,_⟩:=aGy hl;refine⟨r,?_,lx⟩;have h0:=hc 0 r rfl;simp only[Instr.loadAt,Instr.sureAddr,loadVar,Sem.run_bind,Sem.run_pure,Result.andThen_ok,aDR hu,ha,Bool.false_eq_true,if_false,run_load];rw[Nat.add_zero] at h0;rw[h0]
   · simp at hv
 · rw[ha] at hv;simp only[cond_true,Option.some.injEq] at hv;subst hv;refine⟨.agg qs.toArray,?_,by simp only[LR]; exact⟨qs.toArray,rfl,by simpa using hl⟩⟩;have hcc:=run_loadCells_list (P:=P) w ⟨b,off,none⟩ qs (fun j v hv=>by rw[Addr.add_lit]; exact hc j v hv);rw[hn] at hcc;simp only[Instr.loadAt,Instr.sureAddr,loadVar,Sem.run_bind,Sem.run_pure,Result.andThen_ok,aDR hu,ha,if_true,aAM hi,hs,hcc]
theorem aPK {α:Type} {l:List α} {i:Nat} {a d:α} (h:l[i]? = some a):l.getD i d=a:=by simp[List.getD,h]
theorem aSv {k:Nat} {c i:E} {f:Nat} {v:LV} (hv:lvK k (.cell c i f)=some v) {cv:CV} (hk:aBA cv=k) (hc:aAa (denC ν c) (denI ν i) f=cv) {r:Value} (hr:CVR w (Exc X σ) cv r):LR ν w X σ v r:=by
 subst hk
 cases hr with
 | v =>
  cases r with
  | int kk z=>cases kk <;> simp only[aBA,lvK,Option.some.injEq] at hv <;> subst hv <;> simp only[LR,denI,hc,CV.int]
  | bool z=>simp only[aBA,lvK,Option.some.injEq] at hv; subst hv; simp only[LR,denB,hc,CV.bool]
  | string z=>simp only[aBA,lvK,Option.some.injEq] at hv; subst hv; simp only[LR,denS,hc,CV.str]
  | _=>simp[aBA,lvK] at hv
 | nil a0 =>
  simp only[aBA,lvK,Option.some.injEq] at hv;subst hv;simp only[LR,denC,hc,CV.els];exact .nil a0
 | vs els b o sz cc g hsz hcc hcell hval =>
  simp only[aBA,lvK,Option.some.injEq] at hv;subst hv;simp only[LR,denC,hc,CV.els];exact .vs els b o sz cc g hsz hcc hcell hval
 | sem Q _ h1 hq =>
  simp only[aBA,lvK,Option.some.injEq] at hv;subst hv;simp only[LR,cvE,hc];exact .sem Q _ h1 hq
theorem aIq {c i:E} {el:List CV} (hel:(denC ν c).getD (denI ν i).toNat []=el) {g:Nat→Value} : ∀ (ks:List Nat) (f:Nat) (l:List LV),aJr c i f ks=some l →
 ks=((el.drop f).take ks.length).map aBA→(∀ (f':Nat) (cv:CV),el[f']? = some cv→CVR w (Exc X σ) cv (g f')) →
 ∃ qs:List Value,LRs ν w X σ l qs∧qs.length=ks.length∧∀ (j:Nat) (v:Value),qs[j]? = some v→v=g (f+j)∧f+j<el.length
 | [],f,l,hl,_,_=>by
  simp only[aJr,Option.some.injEq] at hl;subst hl;exact⟨[],by simp only[LRs],rfl,fun j v hv=>by simp at hv⟩
 | k::ks,f,l,hl,hk,hv=>by
  simp only[aJr] at hl;split at hl
  · rename_i x r hx hr;simp only[Option.some.injEq] at hl;subst hl
    cases hd:el[f]? with
    | none =>
     have:el.drop f=[]:=List.drop_eq_nil_of_le (by simpa using hd)
     rw[this] at hk;simp at hk
    | some cv =>
     have hlt:f<el.length:=by
      obtain⟨h,_⟩:=List.getElem?_eq_some_iff.1 hd;exact h
     have hcons:el.drop f=cv::el.drop (f+1):=by
      rw[List.drop_eq_getElem_cons hlt]
      congr 1
      rw[List.getElem?_eq_getElem hlt] at hd;simpa using hd
     rw[hcons] at hk;simp only[List.length_cons,List.take_succ_cons,List.map_cons,List.cons.injEq] at hk;obtain⟨qs,lqs,hlen,hqs⟩:=aIq hel ks (f+1) r hr hk.2 hv;refine⟨g f::qs,?_,by simp[hlen],fun j v hj=>?_⟩
     · simp only[LRs];refine⟨aSv hx hk.1.symm ?_ (hv f cv hd),lqs⟩;unfold aAa;rw[hel];exact aPK hd
     · cases j with
       | zero =>
        simp only[List.getElem?_cons_zero,Option.some.injEq] at hj;exact⟨hj.symm,hlt⟩
       | succ j =>
        have:=hqs j v (by simpa using hj)
        rw[show f+(j+1)=f+1+j from by omega];exact this
  · simp at hl
def aBh (ν:Nu) (w:World) (X:Nat→Prop) (σ:List Pl) (get:Nat→Option Ob) (id:Nat):Prop :=
 ∀ ob,get id=some ob→∃ pl,σ[id]? = some pl∧pl.ver=ob.ver∧OR ν w X σ pl ob.o
theorem aSF {T:Tab} (hT:TOK P T) {t:TypeId} {ti:TI} (hg:T.get t=some ti) {c i:E} {f:Nat} {out:Out} (h:rdE T t (aggT ti.desc) ti.size c i f=some out) (b o:Nat) {g:Nat→Value}
 (hcell : ∀ (f':Nat) (cv:CV),((denC ν c).getD (denI ν i).toNat [])[f']? = some cv→w.cell? ⟨b,o+f',none⟩=some (g f')∧CVR w (Exc X σ) cv (g f')) :
 aBC P ν w X σ out ((Instr.loadAt t (.pointer (some ⟨b,o+f,none⟩))).run P w):=by
 unfold rdE at h;split at h
 rotate_left
 · simp at h
 rename_i ks hks;cases hb:Nat.beq ks.length ti.size
 · rw[hb] at h; simp at h
 rw[hb] at h;simp only[Bool.not_true,cond_false] at h;split at h
 rotate_left
 · simp at h
 rename_i l hl;split at h
 rotate_left
 · simp at h
 rename_i v hv;simp only[Option.some.injEq] at h;subst h;refine⟨rfl,fun hn=>?_⟩;have hk:denN ν (.kinds c i f ks):=hn _ (by simp);obtain⟨qs,lqs,hlen,hqs⟩:=aIq rfl ks f l hl hk (fun f' cv hf=>(hcell f' cv hf).2);refine aO0 hT hg lqs (by rw[hlen]; exact Nat.eq_of_beq_eq_true hb) b (o+f) (fun j v hj=>?_) hv;obtain⟨rfl,hlt⟩:=hqs j v hj
 have:=(hcell (f+j) _ (List.getElem?_eq_getElem hlt)).1
 rw[show o+f+j=o+(f+j) from by omega];exact this
theorem aCt {b o:Nat} {a:Array Value} {e:TypeId} {fr:Nat×Nat} (h:w.heap[b]? = some (.cells a e fr)):w.cell? ⟨b,o,none⟩=a[o]?:=by
 unfold World.cell?;rw[h];rfl
theorem aP5 {els:List (List CV)} {a:Array Value} {sz:Nat} {i:Nat}
 (hr : ∀ (i:Nat) (el:List CV),els[i]? = some el→∀ (f:Nat) (cv:CV),el[f]? = some cv→∃ r,a[i*sz+f]? = some r∧CVR w (Exc X σ) cv r) :
 ∃ g:Nat→Value,∀ (f':Nat) (cv:CV),(els.getD i [])[f']? = some cv→a[i*sz+f']? = some (g f')∧CVR w (Exc X σ) cv (g f'):=by
 refine⟨fun f=>(a[i*sz+f]?).getD undef,fun f' cv hf=>?_⟩
 cases he:els[i]? with
 | none=>simp[List.getD,he] at hf
 | some el =>
  have:els.getD i []=el:=aPK he
  rw[this] at hf;obtain⟨r,hr,hc⟩:=hr i el he f' cv hf;simp only[hr,Option.getD_some];exact⟨trivial,hc⟩
theorem aQz {T:Tab} (hT:TOK P T) {ρ:Operand→LV} {get:Nat→Option Ob} {fresh:Nat} {t:TypeId} {x:Operand} {out:Out} (h:aAx T ρ get fresh (.load t x)=some out) {r:Value} (lx:LR ν w X σ (ρ x) r)
 (hk : ∀ id,(ρ x).id? = some id→aBh ν w X σ get id):aBC P ν w X σ out ((Instr.loadAt t r).run P w):=by
 simp only[aAx] at h;split at h
 · rename_i ti id ver off hg hx;rw[hx] at lx hk;simp only[LR] at lx;obtain⟨p,pl,rfl,hpl,hle,hlive⟩:=lx;split at h
   · rename_i ver' cs e hob;cases hb:Nat.beq ver ver'
     · rw[hb] at h; simp at h
     rw[hb] at h;simp only[cond_true] at h;obtain rfl:=Nat.eq_of_beq_eq_true hb;obtain⟨pl',hpl',hver,ho⟩:=hk id rfl _ hob
     obtain rfl:pl=pl':=by rw[hpl] at hpl'; simpa using hpl'
     obtain⟨b,c,hat,rfl⟩:=hlive hver.symm;obtain⟨b',c',a,fr,hat',hh,hfr,lcs⟩:=ho;rw[hat] at hat';simp only[Option.some.injEq,Prod.mk.injEq] at hat';obtain⟨rfl,rfl⟩:=hat';unfold rdB at h;split at h
     rotate_left
     · simp at h
     rename_i l hl;split at h
     rotate_left
     · simp at h
     rename_i v hv;simp only[Option.some.injEq] at h;subst h;refine⟨rfl,fun _=>?_⟩;obtain⟨qs,lqs,hlen,hqs⟩:=aGT lcs ti.size off l hl;refine aO0 hT hg lqs hlen b off (fun j v hj=>?_) hv;rw[aCt hh]
     have:=hqs j v hj
     simpa using this
   · simp at h
 · rename_i ti id ver i f hg hx;rw[hx] at lx hk;simp only[LR] at lx;obtain⟨p,pl,rfl,hpl,hle,hlive⟩:=lx;split at h
   · rename_i ver' c e sz hob;cases hb:Nat.beq ver ver'
     · rw[hb] at h; simp at h
     rw[hb] at h;simp only[cond_true] at h;obtain rfl:=Nat.eq_of_beq_eq_true hb;obtain⟨pl',hpl',hver,ho⟩:=hk id rfl _ hob
     obtain rfl:pl=pl':=by rw[hpl] at hpl'; simpa using hpl'
     obtain⟨b,cc,hat,rfl⟩:=hlive hver.symm;obtain⟨hsz,_,_,hrow⟩:=ho;subst hsz;rcases hrow with ⟨hno,_⟩ | ⟨b',cap,a,fr,hat',hh,hfr,hcap,hlen,hcells⟩
     · rw[hat] at hno; simp at hno
     · rw[hat] at hat';simp only[Option.some.injEq,Prod.mk.injEq] at hat';obtain⟨rfl,rfl⟩:=hat';obtain⟨g,hgc⟩:=aP5 (i:=(denI ν i).toNat) hcells
       exact aSF hT hg h b ((denI ν i).toNat*pl.sz) (fun f' cv hf=>by
        obtain⟨h1,h2⟩:=hgc f' cv hf;exact⟨by rw[aCt hh]; exact h1,h2⟩)
   · simp at h
 · rename_i ti c i f hg hx;rw[hx] at lx;simp only[LR] at lx;obtain⟨b,o,g,rfl,hgc⟩:=lx;exact aSF hT hg h b o (fun f' cv hf=>(hgc f' cv hf).2)
 · simp at h
end
end
section
open Go.RowKit
section
variable {P:Program} {ν:Nu} {w:World} {X:Nat→Prop} {σ:List Pl}
theorem aOd {c:E} {a b v:LV} {ra rb:Value} (h:pk c a b=some v) (ha:denB ν c=true→LR ν w X σ a ra) (hb:denB ν c=false→LR ν w X σ b rb):LR ν w X σ v (if denB ν c then ra else rb):=by
 unfold pk at h;split at h
 · simp only[Option.some.injEq] at h;subst h;simpa[denB] using ha rfl
 · simp only[Option.some.injEq] at h;subst h;simpa[denB] using hb rfl
 · split at h
   · simp only[Option.some.injEq] at h;subst h;cases hc:denB ν c
     · have:=hb hc
       simp only[LR] at this ⊢;simp[aGA,hc,this]
     · have:=ha hc
       simp only[LR] at this ⊢;simp[aGA,hc,this]
   · rename_i k x k' y;cases hk:kEq k k'
     · rw[hk] at h; simp at h
     · rw[hk] at h;obtain rfl:=(aIE _ _).1 hk;simp only[cond_true,Option.some.injEq] at h;subst h;cases hc:denB ν c
       · have:=hb hc
         simp only[LR] at this ⊢;simp[denI,hc,this]
       · have:=ha hc
         simp only[LR] at this ⊢;simp[denI,hc,this]
   · simp only[Option.some.injEq] at h;subst h;cases hc:denB ν c
     · have:=hb hc
       simp only[LR] at this ⊢;simp[denS,hc,this]
     · have:=ha hc
       simp only[LR] at this ⊢;simp[denS,hc,this]
   · simp at h
theorem aEN {g h:E} (hi:aEA g h=true) (hg:denB ν g=true):denB ν h=true:=by
 induction g with
 | and a b iha ihb =>
  simp only[aEA,Bool.or_eq_true,decide_eq_true_eq] at hi;simp only[denB,Bool.and_eq_true] at hg;rcases hi with rfl | hi | hi
  · simp[denB,hg]
  · exact iha hi hg.1
  · exact ihb hi hg.2
 | _ =>
  simp only[aEA,Bool.or_false,decide_eq_true_eq] at hi;subst hi;exact hg
theorem aFW {g h:E} (hi:aBV g h=true) (hg:denB ν g=true):denB ν h=true:=by
 induction h with
 | and a b iha ihb =>
  simp only[aBV,Bool.or_eq_true,Bool.and_eq_true] at hi;rcases hi with hi | ⟨h1,h2⟩
  · exact aEN hi hg
  · simp[denB,iha h1,ihb h2]
 | bool b =>
  cases b
  · exact aEN (by simpa[aBV] using hi) hg
  · simp[denB]
 | _=>exact aEN (by simpa[aBV] using hi) hg
theorem aUV {g:E} {v:LV} {r:Value} (hg:denB ν g=true) (h:LR ν w X σ v r):LR ν w X σ (ung g v) r:=by
 unfold ung;split
 · rename_i h' v;cases hi:aBV g h'
   · simpa using h
   · simp only[cond_true];simp only[LR] at h;exact h.1 (aFW hi hg)
 · exact h
theorem aOP {g:E} (hg:denB ν g=true) : ∀ {cs:List LV} {rs:List Value},LRs ν w X σ cs rs→LRs ν w X σ (cs.map (ung g)) rs
 | [],[],_=>by simp[LRs]
 | c::cs,r::rs,h=>by
  simp only[LRs] at h;simp only[List.map_cons,LRs];exact⟨aUV hg h.1,aOP hg h.2⟩
 | [],_::_,h=>by simp only[LRs] at h
 | _::_,[],h=>by simp only[LRs] at h
theorem aCz {g:E} {v:LV} {r:Value} (hg:denB ν g=true) (h:LR ν w X σ v r):LR ν w X σ (aBw g v) r:=by
 cases v with
 | g h' v' =>
  simp only[aBw];cases hi:aBV g h'
  · simp only[cond_false,LR]
  · simp only[cond_true];simp only[LR] at h;exact h.1 (aFW hi hg)
 | _=>exact h
theorem aHM {t:TypeId} {i:TypeInfo} (hi:P.info? t=some i) (hz:i.size≠0) (b o:Nat) (f:Field) (hf:f.type=t):(fieldPlace ⟨b,o,none⟩ f).run P w = .ok ⟨b,o+f.offset,none⟩ w:=by
 subst hf;simp[fieldPlace,aAM hi,hz,Addr.add_lit]
theorem aCC {ρ:LV} {get:Nat→Option Ob} {id ver off:Nat} {r:Value} (lx:LR ν w X σ (.ptr id ver off) r) (hk:aBh ν w X σ get id) {ob:Ob} (hob:get id=some ob) (hv:Nat.beq ver ob.ver=true) :
 ∃ b c pl,σ[id]? = some pl∧pl.ver=ob.ver∧pl.at_=some (b,c)∧r = .pointer (some ⟨b,off,none⟩)∧OR ν w X σ pl ob.o:=by
 simp only[LR] at lx;obtain⟨p,pl,rfl,hpl,hle,hlive⟩:=lx;obtain⟨pl',hpl',hver,ho⟩:=hk _ hob
 obtain rfl:pl=pl':=by rw[hpl] at hpl'; simpa using hpl'
 obtain rfl:=Nat.eq_of_beq_eq_true hv;obtain⟨b,c,hat,rfl⟩:=hlive hver.symm;exact⟨b,c,pl,hpl,hver,hat,rfl,ho⟩
theorem aQf {get:Nat→Option Ob} {id ver f:Nat} {i:E} {r:Value} (lx:LR ν w X σ (.rp id ver i f) r) (hk:aBh ν w X σ get id) {ob:Ob} (hob:get id=some ob) (hv:Nat.beq ver ob.ver=true) :
 ∃ b c pl,σ[id]? = some pl∧pl.ver=ob.ver∧pl.at_=some (b,c)∧r = .pointer (some ⟨b,(denI ν i).toNat*pl.sz+f,none⟩)∧OR ν w X σ pl ob.o:=by
 simp only[LR] at lx;obtain⟨p,pl,rfl,hpl,hle,hlive⟩:=lx;obtain⟨pl',hpl',hver,ho⟩:=hk _ hob
 obtain rfl:pl=pl':=by rw[hpl] at hpl'; simpa using hpl'
 obtain rfl:=Nat.eq_of_beq_eq_true hv;obtain⟨b,c,hat,rfl⟩:=hlive hver.symm;exact⟨b,c,pl,hpl,hver,hat,rfl,ho⟩
theorem aFv {get:Nat→Option Ob} {id ver:Nat} {o n:E} {r:Value} (lx:LR ν w X σ (.rs id ver o n) r) (hk:aBh ν w X σ get id) {ob:Ob} (hob:get id=some ob) (hv:Nat.beq ver ob.ver=true) :
 ∃ a len rc pl,σ[id]? = some pl∧pl.ver=ob.ver∧r = .slice a len rc∧RsR pl (denI ν o) (denI ν n) a len rc∧OR ν w X σ pl ob.o:=by
 simp only[LR] at lx;obtain⟨a,len,rc,pl,rfl,hpl,hle,hlive⟩:=lx;obtain⟨pl',hpl',hver,ho⟩:=hk _ hob
 obtain rfl:pl=pl':=by rw[hpl] at hpl'; simpa using hpl'
 obtain rfl:=Nat.eq_of_beq_eq_true hv;exact⟨a,len,rc,pl,hpl,hver,rfl,hlive hver.symm,ho⟩
theorem aE8 {id ver off:Nat} {pl:Pl} {b c:Nat} (hpl:σ[id]? = some pl) (hv:ver=pl.ver) (hat:pl.at_=some (b,c)):LR ν w X σ (.ptr id ver off) (.pointer (some ⟨b,off,none⟩)):=by
 simp only[LR];exact⟨_,pl,rfl,hpl,by omega,fun _=>⟨b,c,hat,rfl⟩⟩
theorem aLv {id ver f:Nat} {i:E} {pl:Pl} {b c:Nat} (hpl:σ[id]? = some pl) (hv:ver=pl.ver) (hat:pl.at_=some (b,c)) {o:Nat} (ho:o=(denI ν i).toNat*pl.sz+f):LR ν w X σ (.rp id ver i f) (.pointer (some ⟨b,o,none⟩)):=by
 subst ho;simp only[LR];exact⟨_,pl,rfl,hpl,by omega,fun _=>⟨b,c,hat,rfl⟩⟩
theorem aHw {T:Tab} (hT:TOK P T) {ρ:Operand→LV} {get:Nat→Option Ob} {fresh:Nat} {t:TypeId} {x:Operand} {f:Nat} {out:Out} (h:aAx T ρ get fresh (.fieldAddr t x f)=some out) {r:Value} (lx:LR ν w X σ (ρ x) r)
 (hk : ∀ id,(ρ x).id? = some id→aBh ν w X σ get id):aBC P ν w X σ out ((Instr.fieldAt t r f).run P w):=by
 simp only[aAx] at h;split at h
 rotate_left
 · simp at h
 rename_i fs _ _ _ _ hg;have hu:=(hT.get hg).1;split at h
 rotate_left
 · simp at h
 rename_i fl hf;split at h
 rotate_left
 · simp at h
 rename_i _ n _ _ _ hg2;obtain⟨_,⟨i,hi,hs,_,_⟩,_⟩:=hT.get hg2
 have hz:i.size≠0:=by rw[hs]; simp
 have go : ∀ b o,(Instr.fieldAt t (.pointer (some ⟨b,o,none⟩)) f).run P w = .ok (.pointer (some ⟨b,o+fl.offset,none⟩)) w:=fun b o=>by
  simp only[Instr.fieldAt,Sem.run_bind,aAv hu,Result.andThen_ok,hf,Instr.sureAddr,Sem.run_pure,aHM hi hz b o fl rfl]
 split at h
 · rename_i id ver off hx;rw[hx] at lx hk;split at h
   · rename_i ob _ hob;cases hb:Nat.beq ver ob
     · rw[hb] at h; simp at h
     rw[hb] at h;simp only[cond_true,Option.some.injEq] at h;subst h;obtain⟨b,c,pl,hpl,hver,hat,rfl,_⟩:=aCC (ρ:=.junk) lx (hk id rfl) hob hb
     have:=Nat.eq_of_beq_eq_true hb
     exact⟨rfl,fun _=>⟨_,go b off,aE8 hpl (by simp only at hver; omega) hat⟩⟩
   · simp at h
 · rename_i id ver i' off hx;rw[hx] at lx hk;split at h
   · rename_i ob _ hob;cases hb:Nat.beq ver ob
     · rw[hb] at h; simp at h
     rw[hb] at h;simp only[cond_true,Option.some.injEq] at h;subst h;obtain⟨b,c,pl,hpl,hver,hat,rfl,_⟩:=aQf lx (hk id rfl) hob hb
     have:=Nat.eq_of_beq_eq_true hb
     exact⟨rfl,fun _=>⟨_,go b _,aLv hpl (by simp only at hver; omega) hat (by omega)⟩⟩
   · simp at h
 · rename_i c i' off hx;rw[hx] at lx;simp only[Option.some.injEq] at h;subst h;simp only[LR] at lx;obtain⟨b,o,g,rfl,hgc⟩:=lx;refine⟨rfl,fun _=>⟨_,go b _,?_⟩⟩;simp only[LR];exact⟨b,o,g,by rw[Nat.add_assoc],hgc⟩
 · simp at h
theorem aJ5 {T:Tab} {ρ:Operand→LV} {get:Nat→Option Ob} {fresh:Nat} {x:Operand} {k:Nat} {out:Out} (h:aAx T ρ get fresh (.extract x k)=some out) {r:Value} (lx:LR ν w X σ (ρ x) r) :
 aBC P ν w X σ out ((Instr.extract r k).run P w):=by
 simp only[aAx] at h;split at h
 · rename_i vs hx;rw[hx] at lx;split at h
   · rename_i v hv;simp only[Option.some.injEq] at h;subst h;simp only[LR] at lx;obtain⟨a,rfl,la⟩:=lx;obtain⟨q,hq,lq⟩:=aO8 la k v hv
     have hq:a[k]? = some q:=by simpa using hq
     exact⟨rfl,fun _=>⟨q,by simp only[Instr.extract,hq,Sem.run_pure],lq⟩⟩
   · simp at h
 · simp at h
theorem aNc {T:Tab} (hT:TOK P T) {t:TypeId} {ti:TI} (hg:T.get t=some ti) {cs:List LV} {a:Array Value} (la:LRs ν w X σ cs a.toList) {off:Nat} {l l2:List LV} (hl:aIY cs off ti.size=some l) (h2 : ∀ qs,LRs ν w X σ l qs→LRs ν w X σ l2 qs) {v:LV} (hv:aHR (aggT ti.desc) l2=some v) :
 ∃ r,(part t a off).run P w = .ok r w∧LR ν w X σ v r:=by
 obtain⟨hu,⟨i,hi,hs,_,_⟩,_⟩:=hT.get hg;obtain⟨qs,lqs,hlen,hqs⟩:=aGT la ti.size off l hl;have lqs:=h2 qs lqs;unfold aHR at hv;cases ha:aggT ti.desc
 · rw[ha] at hv;simp only[cond_false] at hv;split at hv
   · rename_i x
     obtain rfl:x=v:=by simpa using hv
     obtain⟨r,rs,rfl,lx,_⟩:=aGy lqs;have h0:=hqs 0 r rfl
     have h0:a[off]? = some r:=by simpa using h0
     exact⟨r,by simp only[part,Sem.run_bind,aDR hu,ha,Result.andThen_ok,Bool.false_eq_true,if_false,h0,Sem.run_pure],lx⟩
   · simp at hv
 · rw[ha] at hv;simp only[cond_true,Option.some.injEq] at hv;subst hv;refine⟨.agg (a.extract off (off+ti.size)),by simp only[part,Sem.run_bind,aDR hu,ha,Result.andThen_ok,if_true,aAM hi,hs,Sem.run_pure],?_⟩;simp only[LR];refine⟨_,rfl,?_⟩
   have:(a.extract off (off+ti.size)).toList=qs:=by
    apply List.ext_getElem?;intro j;simp only[Array.toList_extract,List.extract_eq_take_drop,Nat.add_sub_cancel_left];by_cases hj:j<ti.size
    · rw[List.getElem?_take_of_lt hj,List.getElem?_drop]
      have hjq:j<qs.length:=by omega
      rw[List.getElem?_eq_getElem hjq];exact hqs j _ (List.getElem?_eq_getElem hjq)
    · rw[List.getElem?_eq_none (by simp; omega),List.getElem?_eq_none (by omega)]
   rw[this];exact lqs
theorem aOY {T:Tab} (hT:TOK P T) {t:TypeId} {ti:TI} (hg:T.get t=some ti) {cs:List LV} {a:Array Value} (la:LRs ν w X σ cs a.toList) {off:Nat} {out:Out} (h:rdB (aggT ti.desc) ti.size cs off=some out) :
 aBC P ν w X σ out ((part t a off).run P w):=by
 unfold rdB at h;split at h
 rotate_left
 · simp at h
 rename_i l hl;split at h
 rotate_left
 · simp at h
 rename_i v hv;simp only[Option.some.injEq] at h;subst h;exact⟨rfl,fun _=>aNc hT hg la hl (fun _ h=>h) hv⟩
theorem aLN {c:E} : ∀ {a b l:List LV} (_:pkL c a b=some l) {rs:List Value} (_:denB ν c=true→LRs ν w X σ a rs) (_:denB ν c=false→LRs ν w X σ b rs),LRs ν w X σ l rs
 | [],[],l,h,rs,ha,hb=>by
  simp only[pkL,Option.some.injEq] at h;subst h;cases hc:denB ν c
  · exact hb hc
  · exact ha hc
 | x::a,y::b,l,h,rs,ha,hb=>by
  simp only[pkL] at h;split at h
  · rename_i z r hz hr;simp only[Option.some.injEq] at h;subst h
    cases rs with
    | nil =>
     cases hc:denB ν c
     · have:=hb hc; simp only[LRs] at this
     · have:=ha hc; simp only[LRs] at this
    | cons q qs =>
     simp only[LRs];refine⟨?_,aLN hr (fun hc=>?_) (fun hc=>?_)⟩
     · have:=aOd hz (ra:=q) (rb:=q) (fun hc=>by have:=ha hc; simp only[LRs] at this; exact this.1) (fun hc=>by have:=hb hc; simp only[LRs] at this; exact this.1)
       simpa using this
     · have:=ha hc; simp only[LRs] at this; exact this.2
     · have:=hb hc; simp only[LRs] at this; exact this.2
  · simp at h
 | [],_::_,l,h,rs,_,_=>by simp[pkL] at h
 | _::_,[],l,h,rs,_,_=>by simp[pkL] at h
theorem aOH {cs:List LV} {e:E} {sz J:Nat} (he:denI ν e=(J:Int)) : ∀ (n j:Nat) {l:List LV} (_:ixL cs e sz n j=some l),j≤J→J<j+n→∃ l0,aIY cs (J*sz) sz=some l0∧∀ qs,LRs ν w X σ l0 qs→LRs ν w X σ l qs
 | 0,j,l,h,_,_=>by simp[ixL] at h
 | n+1,j,l,h,h1,h2=>by
  simp only[ixL] at h
  cases n with
  | zero =>
   simp only[] at h
   obtain rfl:J=j:=by omega
   exact⟨l,h,fun _ h=>h⟩
  | succ n =>
   simp only[] at h;split at h
   · rename_i a b ha hb;by_cases hj:J=j
     · subst hj;exact⟨a,ha,fun qs hq=>aLN h (fun _=>hq) (fun hc=>by simp[denB,denI,he] at hc)⟩
     · obtain⟨l0,g1,g2⟩:=aOH he (n+1) (j+1) hb (by omega) (by omega);exact⟨l0,g1,fun qs hq=>aLN h (fun hc=>by simp only[denB,denI,he,beq_iff_eq] at hc; omega) (fun _=>g2 qs hq)⟩
   · simp at h
theorem aPY {T:Tab} (hT:TOK P T) {ρ:Operand→LV} {get:Nat→Option Ob} {fresh:Nat} {t:TypeId} {x:Operand} {f:Nat} {out:Out} (h:aAx T ρ get fresh (.field t x f)=some out) {r:Value} (lx:LR ν w X σ (ρ x) r) :
 aBC P ν w X σ out ((Instr.field t r f).run P w):=by
 simp only[aAx] at h;split at h
 rotate_left
 · simp at h
 rename_i fs _ _ _ _ cs hg hx;have hu:=(hT.get hg).1;split at h
 rotate_left
 · simp at h
 rename_i fl hf;split at h
 rotate_left
 · simp at h
 rename_i ti hg2;rw[hx] at lx;simp only[LR] at lx;obtain⟨a,rfl,la⟩:=lx
 have:=aOY hT hg2 la h
 simpa only[Instr.field,Sem.run_bind,aAv hu,Result.andThen_ok,hf,asAgg,Sem.run_pure] using this
end
end
section
open Go.RowKit
section
variable {P:Program} {ν:Nu} {w:World} {X:Nat→Prop} {σ:List Pl}
theorem aGk (ν:Nu) (a b:E):denI ν (aIl a b)=denI ν a+denI ν b:=by
 unfold aIl;split
 · simp[denI]
 · simp[denI]
 · unfold aNA;rw[aDg ν (· + ·) .add (fun _ _=>rfl)]
theorem aE6 (ν:Nu) (a b:E):denI ν (aPq a b)=denI ν a - denI ν b:=by
 unfold aPq;split
 · simp[denI]
 · rw[aDg ν (· - ·) .sub (fun _ _=>rfl)]
theorem aDK (ν:Nu) (c n:E):denC ν (aHh c n)=(denC ν c).drop (denI ν n).toNat:=by
 unfold aHh;split <;> simp[denI,denC]
theorem aCT {v:LV} {e:E} (h:intE v=some e) {r:Value} (lx:LR ν w X σ v r) : ∃ k,r = .int k (denI ν e):=by
 unfold intE at h;split at h
 · rename_i k e';simp only[Option.some.injEq] at h;subst h;simp only[LR] at lx;exact⟨k,lx⟩
 · simp at h
theorem aE3 (a b:Int) (s:Nat) (ha:0≤a) (hb:0≤b):(a+b).toNat*s=a.toNat*s+b.toNat*s:=by
 rw[Int.toNat_add ha hb,Nat.add_mul]
theorem aVh {els:List (List CV)} {r:Value} {Y:Nat→Prop} (h:CVR w Y (.vs els) r) {i:Nat} (hi:i<els.length) {sz:Nat} (hsz : ∀ el∈els,el.length=sz) :
 ∃ b o c,r = .slice (some ⟨b,o,none⟩) els.length c∧els.length≤c∧ElR w Y (els.getD i []) 0 (.pointer (some ⟨b,o+i*sz,none⟩)):=by
 cases h with
 | nil=>simp at hi
 | vs _ b o sz' c g hsz' hc hcell hval =>
  refine⟨b,o,c,rfl,hc,b,o+i*sz,g i,rfl,fun f' cv hf=>?_⟩
  have he:els[i]? = some (els.getD i []):=by simp[List.getD,List.getElem?_eq_getElem hi]
  have e:sz'=sz:=by
   have h1:=hsz' _ (List.mem_of_getElem? he);have h2:=hsz _ (List.mem_of_getElem? he);omega
  subst e;obtain⟨h1,h2⟩:=hcell i _ he f' cv hf;exact⟨h1,h2,hval i _ he f' cv hf⟩
theorem aHE {T:Tab} (hT:TOK P T) {ρ:Operand→LV} {get:Nat→Option Ob} {fresh:Nat} {t:TypeId} {x ix:Operand} {out:Out} (h:aAx T ρ get fresh (.indexAddr t x ix)=some out) {r ri:Value} (lx:LR ν w X σ (ρ x) r) (li:LR ν w X σ (ρ ix) ri)
 (hk : ∀ id,(ρ x).id? = some id→aBh ν w X σ get id):aBC P ν w X σ out ((Instr.indexAt t r ri).run P w):=by
 simp only[aAx] at h;split at h
 · rename_i el _ _ _ _ e hg hi;have hu:=(hT.get hg).1;obtain⟨k,rfl⟩:=aCT hi li;split at h
   rotate_left
   · simp at h
   rename_i _ es _ _ _ hg2;obtain⟨_,⟨i,hinf,hs,_,_⟩,_⟩:=hT.get hg2;simp only at hs
   have go : ∀ (b o len cap:Nat),0≤denI ν e→denI ν e<len→(Instr.indexAt t (.slice (some ⟨b,o,none⟩) len cap) (.int k (denI ν e))).run P w = .ok (.pointer (some ⟨b,o+(denI ν e).toNat*es,none⟩)) w:=fun b o len cap h0 h1=>by
    simp[Instr.indexAt,asIntOf,aAv hu,h0,h1,aAM hinf,hs,Addr.add_lit]
   split at h
   · rename_i id ver o n hx;rw[hx] at lx hk;split at h
     · rename_i ver' _ _ sz hob;cases hb:Nat.beq ver ver'&&Nat.beq sz es
       · rw[hb] at h; simp at h
       rw[hb] at h;simp only[cond_true,Option.some.injEq] at h;subst h;simp only[Bool.and_eq_true] at hb;refine⟨rfl,fun hn=>?_⟩;have h1:denN ν (.ix e n):=hn _ (by simp);obtain⟨h1,h2⟩:=h1;obtain⟨a,len,rc,pl,hpl,hver,rfl,hrs,ho⟩:=aFv lx (hk id rfl) hob hb.1;have hver':=Nat.eq_of_beq_eq_true hb.1;have hsz':=Nat.eq_of_beq_eq_true hb.2;obtain⟨hsz,_⟩:=ho;rcases hrs with ⟨_,_,_,_,hn0,_⟩ | ⟨b,c,off,hat,rfl,hn0,ho0,hlen,hle,_,hoff⟩
       · omega
       · have hoff:=hoff (by omega);refine⟨_,go b off len rc h1 (by omega),?_⟩;refine aLv hpl (by simp only at hver; omega) hat ?_;rw[aGk,hsz,hsz',aE3 _ _ _ ho0 h1,hoff,hsz,hsz'];omega
     · simp at h
   · rename_i c hx;rw[hx] at lx;simp only[Option.some.injEq] at h;subst h;refine⟨rfl,fun hn=>?_⟩;have h1:denN ν (.ix e (.clen c)):=hn _ (by simp);have h2:denN ν (.szAll c es):=hn _ (by simp);simp only[denN,denI] at h1 h2;simp only[LR] at lx;obtain⟨b,o,cc,rfl,hcc,hel⟩:=aVh lx (i:=(denI ν e).toNat) (by omega) h2;refine⟨_,go b o _ cc h1.1 h1.2,?_⟩;simp only[LR];exact hel
   · simp at h
 · rename_i n el _ _ _ _ e hg hi;have hu:=(hT.get hg).1;obtain⟨k,rfl⟩:=aCT hi li;split at h
   rotate_left
   · simp at h
   rename_i _ es _ _ _ hg2;obtain⟨_,⟨i,hinf,hs,_,_⟩,_⟩:=hT.get hg2;simp only at hs;split at h
   · rename_i id ver hx;rw[hx] at lx hk;split at h
     · rename_i ver' _ _ sz hob;cases hb:Nat.beq ver ver'&&Nat.beq sz es
       · rw[hb] at h; simp at h
       rw[hb] at h;simp only[cond_true,Option.some.injEq] at h;subst h;simp only[Bool.and_eq_true] at hb;refine⟨rfl,fun hn=>?_⟩;have h1:denN ν (.ix e (.int n)):=hn _ (by simp);simp only[denN,denI] at h1;obtain⟨h1,h2⟩:=h1;obtain⟨b,c,pl,hpl,hver,hat,rfl,ho⟩:=aCC (ρ:=.junk) lx (hk id rfl) hob hb.1;have hver':=Nat.eq_of_beq_eq_true hb.1;have hsz':=Nat.eq_of_beq_eq_true hb.2;obtain⟨hsz,_⟩:=ho;refine⟨.pointer (some ⟨b,0+(denI ν e).toNat*es,none⟩),?_,?_⟩
       · simp[Instr.indexAt,asIntOf,aAv hu,h1,h2,aAM hinf,hs,Addr.add_lit,Instr.sureAddr]
       · exact aLv hpl (by simp only at hver; omega) hat (by rw[hsz,hsz']; omega)
     · simp at h
   · simp at h
 · simp at h
theorem aPp {T:Tab} (hT:TOK P T) {ρ:Operand→LV} {get:Nat→Option Ob} {fresh:Nat} {t:TypeId} {x ix:Operand} {out:Out} (h:aAx T ρ get fresh (.index t x ix)=some out) {r ri:Value} (lx:LR ν w X σ (ρ x) r) (li:LR ν w X σ (ρ ix) ri) :
 aBC P ν w X σ out ((Instr.index t r ri).run P w):=by
 simp only[aAx] at h;split at h
 · rename_i _ _ _ _ e s hg hi hx;have hu:=(hT.get hg).1;obtain⟨k,rfl⟩:=aCT hi li;rw[hx] at lx;simp only[LR] at lx;subst lx;simp only[Option.some.injEq] at h;subst h;refine⟨rfl,fun hn=>?_⟩;have h1:denN ν (.ix e (aG6 s)):=hn _ (by simp);simp only[denN,aFL] at h1;obtain⟨h1,h2⟩:=h1
   have hlt:(denI ν e).toNat<(denS ν s).size:=by omega
   refine⟨.int .u8 ((denS ν s)[(denI ν e).toNat]'hlt).toNat,?_,?_⟩
   · simp only[Instr.index,asIntOf,Sem.run_bind,Sem.run_pure,Result.andThen_ok,aAv hu,h1,if_true];rw[getElem?_pos (denS ν s) (denI ν e).toNat hlt];rfl
   · simp only[LR,denI]
     congr 2
     have hlt':(denI ν e).toNat<(denS ν s).data.size:=hlt;rw[Array.getD_eq_getD_getElem?,Array.getElem?_eq_getElem hlt'];rfl
 · rename_i n el _ _ _ _ j cs hg hi hx;have hu:=(hT.get hg).1;obtain⟨k,rfl⟩:=aCT hi li;rw[hx] at lx;simp only[LR] at lx;obtain⟨a,rfl,la⟩:=lx;split at h
   rotate_left
   · simp at h
   rename_i ti hg2;cases hb:Nat.blt j n
   · rw[hb] at h; simp at h
   rw[hb] at h;simp only[cond_true] at h
   have hlt:j<n:=by simpa using hb
   obtain⟨_,⟨i,hinf,hs,_,_⟩,_⟩:=hT.get hg2
   have:=aOY hT hg2 la h
   have e:(Instr.index t (.agg a) (.int k (denI ν (.int (Int.ofNat j))))).run P w=(part el a (j*ti.size)).run P w:=by
    simp[Instr.index,asIntOf,aAv hu,denI,hlt,aAM hinf,hs]
   rw[e];exact this
 · rename_i n el _ _ _ _ e cs _ hg hi hx;have hu:=(hT.get hg).1;obtain⟨k,rfl⟩:=aCT hi li;rw[hx] at lx;simp only[LR] at lx;obtain⟨a,rfl,la⟩:=lx;split at h
   rotate_left
   · simp at h
   rename_i ti hg2;split at h
   rotate_left
   · simp at h
   rename_i l hl;split at h
   rotate_left
   · simp at h
   rename_i v hv;simp only[Option.some.injEq] at h;subst h;refine⟨rfl,fun hn=>?_⟩;have h1:denN ν (.ix e (.int n)):=hn _ (by simp);simp only[denN,denI] at h1;obtain⟨h1,h2⟩:=h1;obtain⟨J,hJ⟩ : ∃ J:Nat,denI ν e=(J:Int):=⟨(denI ν e).toNat,by omega⟩;obtain⟨l0,g1,g2⟩:=aOH (w:=w) (X:=X) (σ:=σ) hJ n 0 hl (by omega) (by omega);obtain⟨_,⟨i,hinf,hs,_,_⟩,_⟩:=hT.get hg2
   have hlt:J<n:=by omega
   obtain⟨r,hr,lr⟩:=aNc hT hg2 la g1 g2 hv;refine⟨r,?_,lr⟩;rw[hJ]
   have e:(Instr.index t (.agg a) (.int k (J:Int))).run P w=(part el a (J*ti.size)).run P w:=by
    simp[Instr.index,asIntOf,aAv hu,hlt,aAM hinf,hs]
   rw[e];exact hr
 · simp at h
end
end
section
open Go.RowKit
section
variable {P:Program} {ν:Nu} {w:World} {X:Nat→Prop} {σ:List Pl}
theorem aCj {isSlice:Bool} {len cap:Nat} {lo hi:Option Value} {l h:Int} (hl:(lo=none∧l=0)∨∃ k,lo=some (.int k l)) (hh:(hi=none∧h=len)∨∃ k,hi=some (.int k h))
 (h0:0≤l) (h1:l≤h) (h2:h≤cap):(Instr.sliceBounds isSlice len cap lo hi none).run P w = .ok (l.toNat,h.toNat,cap) w:=by
 have h3:0≤h:=by omega
 have e:((h.toNat:Nat):Int)=h:=Int.toNat_of_nonneg h3;rcases hl with ⟨rfl,rfl⟩ | ⟨k,rfl⟩ <;> rcases hh with ⟨rfl,rfl⟩ | ⟨k',rfl⟩
 · simp[Instr.sliceBounds]
 · simp[Instr.sliceBounds,Instr.sliceBound,asIntOf,h3,h2]
 · simp[Instr.sliceBounds,Instr.sliceBound,asIntOf,h0,h1]
 · simp[Instr.sliceBounds,Instr.sliceBound,asIntOf,h0,h1,h2,h3,e]
theorem aHD {isSlice:Bool} {len cap:Nat} {lo:Option Value} {l h m:Int} {k k':IntKind} (hl:(lo=none∧l=0)∨∃ k,lo=some (.int k l))
 (h0:0≤l) (h1:l≤h) (h2:h≤m) (h3:m≤cap):(Instr.sliceBounds isSlice len cap lo (some (.int k h)) (some (.int k' m))).run P w = .ok (l.toNat,h.toNat,m.toNat) w:=by
 have h4:0≤h:=by omega
 have h5:0≤m:=by omega
 have e:((h.toNat:Nat):Int)=h:=Int.toNat_of_nonneg h4;have e2:((m.toNat:Nat):Int)=m:=Int.toNat_of_nonneg h5;rcases hl with ⟨rfl,rfl⟩ | ⟨k,rfl⟩
 · simp[Instr.sliceBounds,Instr.sliceBound,asIntOf,h2,h3,h4,h5,e2]
 · simp[Instr.sliceBounds,Instr.sliceBound,asIntOf,h0,h1,h2,h3,h4,h5,e,e2]
theorem aB8 {d e:E} {o:Option Operand} {ρ:Operand→LV} {val:Operand→Value} (h:optE d (o.map ρ)=some e) (lo : ∀ x,o=some x→LR ν w X σ (ρ x) (val x)) :
 (o.map val=none∧e=d)∨∃ k,o.map val=some (.int k (denI ν e)):=by
 cases o with
 | none=>simp only[Option.map_none,optE,Option.some.injEq] at h; exact .inl ⟨rfl,h.symm⟩
 | some x =>
  simp only[Option.map_some,optE] at h;obtain⟨k,hk⟩:=aCT h (lo x rfl);exact .inr ⟨k,by simp[hk]⟩
theorem aID {w:World} {Y:Nat→Prop} {els:List (List CV)} {b o sz c:Nat} {g:Nat→Nat→Value} (hsz : ∀ el∈els,el.length=sz) (hc:els.length≤c)
 (hcell : ∀ (i:Nat) (el:List CV),els[i]? = some el→∀ (f:Nat) (cv:CV),el[f]? = some cv→¬ Y b∧w.cell? ⟨b,o+i*sz+f,none⟩=some (g i f))
 (hval : ∀ (i:Nat) (el:List CV),els[i]? = some el→∀ (f:Nat) (cv:CV),el[f]? = some cv→CVR w Y cv (g i f)) (l n cc o':Nat) (hl:l+n≤els.length) (hcc:n≤cc) (ho:n≠0→o'=o+l*sz) :
 CVR w Y (.vs ((els.drop l).take n)) (.slice (some ⟨b,o',none⟩) n cc):=by
 have hlen:((els.drop l).take n).length=n:=by simp; omega
 have key:CVR w Y (.vs ((els.drop l).take n)) (.slice (some ⟨b,o',none⟩) ((els.drop l).take n).length cc):=by
  refine .vs _ b o' sz cc (fun i=>g (l+i)) (fun el hel=>hsz el (List.mem_of_mem_drop (List.mem_of_mem_take hel))) (by omega) (fun i el hi f cv hf=>?_) (fun i el hi f cv hf=>?_)
  all_goals
   have hin:i<n:=by
    have:=(List.getElem?_eq_some_iff.1 hi).1
    omega
   rw[List.getElem?_take_of_lt hin,List.getElem?_drop] at hi
  · obtain⟨h1,h2⟩:=hcell (l+i) el hi f cv hf;refine⟨h1,?_⟩;rw[ho (by omega),show o+l*sz+i*sz+f=o+(l+i)*sz+f from by rw[Nat.add_mul]; omega];exact h2
  · exact hval (l+i) el hi f cv hf
 rw[hlen] at key;exact key
theorem aB6 {els:List (List CV)} {r:Value} {Y:Nat→Prop} (h:CVR w Y (.vs els) r):(els=[]∧∃ a:Option Addr,r = .slice a 0 0) ∨
 ∃ (b o sz c:Nat) (g:Nat→Nat→Value),r = .slice (some ⟨b,o,none⟩) els.length c∧(∀ el∈els,el.length=sz)∧els.length≤c ∧
  (∀ (i:Nat) (el:List CV),els[i]? = some el→∀ (f:Nat) (cv:CV),el[f]? = some cv→¬ Y b∧w.cell? ⟨b,o+i*sz+f,none⟩=some (g i f)) ∧
  (∀ (i:Nat) (el:List CV),els[i]? = some el→∀ (f:Nat) (cv:CV),el[f]? = some cv→CVR w Y cv (g i f)):=by
 cases h with
 | nil a=>exact .inl ⟨rfl,a,rfl⟩
 | vs _ b o sz c g hsz hc hcell hval=>exact .inr ⟨b,o,sz,c,g,rfl,hsz,hc,hcell,hval⟩
theorem aJG {o n a b:Int} {len rc off c:Nat} {pl:Pl} {b':Nat} {es:Nat} (hat:pl.at_=some (b',c)) (hsz:pl.sz=es) (hn0:0≤n) (ho0:0≤o) (hlen:len=n.toNat) (hle:len≤rc) (hz:o=0→off=0∧rc≤c) (hoff:len≠0→off=o.toNat*pl.sz)
 (h0:0≤a) (h1:a≤b) (h2:b≤n) :
 RsR pl (o+a) (b - a) (if rc=a.toNat then some ⟨b',off,none⟩ else some ⟨b',off+a.toNat*es,none⟩) (b.toNat - a.toNat) (rc - a.toNat):=by
 right
 by_cases hr:rc=a.toNat
 · rw[if_pos hr];refine⟨b',c,off,hat,rfl,by omega,by omega,by omega,by omega,fun h=>?_,fun h=>by omega⟩
   have ha:a=0:=by omega
   have:=hz (by omega)
   subst ha;simp only[Int.toNat_zero] at hr;omega
 · rw[if_neg hr];refine⟨b',c,off+a.toNat*es,hat,rfl,by omega,by omega,by omega,by omega,fun h=>?_,fun h=>?_⟩
   · have ha:a=0:=by omega
     have:=hz (by omega)
     subst ha;simp only[Int.toNat_zero,Nat.zero_mul];omega
   · have h3:=hoff (by omega);rw[h3,hsz,aE3 _ _ _ ho0 h0]
theorem aOJ {T:Tab} (hT:TOK P T) {ρ:Operand→LV} {val:Operand→Value} {get:Nat→Option Ob} {fresh:Nat} {t:TypeId} {x:Operand} {lo hi mx:Option Operand} {out:Out} (h:aAx T ρ get fresh (.slice t x lo hi mx)=some out)
 (lx:LR ν w X σ (ρ x) (val x)) (ll : ∀ y,lo=some y→LR ν w X σ (ρ y) (val y)) (lh : ∀ y,hi=some y→LR ν w X σ (ρ y) (val y)) (lm : ∀ y,mx=some y→LR ν w X σ (ρ y) (val y)) (hk : ∀ id,(ρ x).id? = some id→aBh ν w X σ get id) :
 aBC P ν w X σ out ((Instr.sliceAt t (val x) (lo.map val) (hi.map val) (mx.map val)).run P w):=by
 simp only[aAx] at h;split at h
 · rename_i _ _ _ _ s hg hx;have hu:=(hT.get hg).1;rw[hx] at lx;simp only[LR] at lx;split at h
   · rename_i a b ha hb;simp only[Option.some.injEq] at h;subst h;refine⟨rfl,fun hn=>?_⟩;have h1:denN ν (.cuts a b (aG6 s)):=hn _ (by simp);simp only[denN,aFL] at h1;obtain⟨h0,h1,h2⟩:=h1
     have hl':((lo.map val)=none∧denI ν a=0)∨∃ k,lo.map val=some (.int k (denI ν a)):=by
      rcases aB8 ha ll with ⟨e1,rfl⟩ | e
      · exact .inl ⟨e1,by simp[denI]⟩
      · exact .inr e
     have hh':((hi.map val)=none∧denI ν b=((denS ν s).size:Nat))∨∃ k,hi.map val=some (.int k (denI ν b)):=by
      rcases aB8 hb lh with ⟨e1,rfl⟩ | e
      · exact .inl ⟨e1,by rw[aFL]⟩
      · exact .inr e
     have hbnd:=aCj (P:=P) (w:=w) (isSlice:=false) (len:=(denS ν s).size) (cap:=(denS ν s).size) hl' hh' h0 h1 h2;refine⟨.string ((denS ν s).extract (denI ν a).toNat (denI ν b).toNat),?_,by simp only[LR,denS]⟩;rw[lx];simp only[Instr.sliceAt,Sem.run_bind,aAv hu,Result.andThen_ok,Instr.slice,Option.map_none,Option.isSome_none,Bool.false_eq_true,if_false,hbnd,Sem.run_pure]
   · simp at h
 · rename_i el _ _ _ _ c hg hx;have hu:=(hT.get hg).1;rw[hx] at lx;simp only[LR] at lx;split at h
   rotate_left
   · simp at h
   rename_i _ es _ _ _ a b hg2 ha hb;obtain⟨_,⟨i,hinf,hs,_,_⟩,_⟩:=hT.get hg2;simp only at hs;simp only[Option.some.injEq] at h;subst h;refine⟨rfl,fun hn=>?_⟩;have h1:denN ν (.cuts a b (.clen c)):=hn _ (by simp);have h2:denN ν (.szAll c es):=hn _ (by simp);simp only[denN,denI] at h1 h2;obtain⟨h0,h1,h3⟩:=h1
   have hl':((lo.map val)=none∧denI ν a=0)∨∃ k,lo.map val=some (.int k (denI ν a)):=by
    rcases aB8 ha ll with ⟨e1,rfl⟩ | e
    · exact .inl ⟨e1,by simp[denI]⟩
    · exact .inr e
   have hh':((hi.map val)=none∧denI ν b=((denC ν c).length:Nat))∨∃ k,hi.map val=some (.int k (denI ν b)):=by
    rcases aB8 hb lh with ⟨e1,rfl⟩ | e
    · exact .inl ⟨e1,by simp[denI]⟩
    · exact .inr e
   have hcont:denC ν (cutC hi.isSome c a b)=((denC ν c).drop (denI ν a).toNat).take ((denI ν b).toNat - (denI ν a).toNat):=by
    cases hi with
    | none =>
     rcases hh' with ⟨_,e⟩ | ⟨k,e⟩
     · simp only[cutC,Option.isSome_none,cond_false,aDK,e];rw[List.take_of_length_le (by simp)]
     · simp at e
    | some y =>
     simp only[cutC,Option.isSome_some,cond_true,denC,aDK,aE6]
     congr 1
     omega
   have run : ∀ (base:Option Addr) (cap:Nat),(denC ν c).length≤cap→(Instr.sliceAt t (.slice base (denC ν c).length cap) (lo.map val) (hi.map val) (Option.map val none)).run P w =
    .ok (.slice (if cap=(denI ν a).toNat then base else base.map (·.add ((denI ν a).toNat*es))) ((denI ν b).toNat - (denI ν a).toNat) (cap - (denI ν a).toNat)) w:=fun base cap hcap=>by
    have hbnd:=aCj (P:=P) (w:=w) (isSlice:=true) (len:=(denC ν c).length) (cap:=cap) hl' hh' h0 h1 (by omega);simp only[Instr.sliceAt,Sem.run_bind,aAv hu,Result.andThen_ok,Instr.slice,Option.map_none,hbnd,aAM hinf,hs,Sem.run_pure]
   simp only[LR,hcont];rcases aB6 lx with ⟨hnil,ad,hv⟩ | ⟨bb,o,sz,cap,g,hv,hsz,hcc,hcell,hval⟩
   · have hlen:(denC ν c).length=0:=by rw[hnil]; rfl
     have hb0:(denI ν b).toNat=0:=by omega
     have ha0:(denI ν a).toNat=0:=by omega
     refine⟨.slice ad 0 0,?_,?_⟩
     · have:=run ad 0 (by omega)
       rw[hlen] at this;rw[hv,this];simp[hb0,ha0]
     · rw[hnil,hb0];simp only[Nat.zero_sub,List.take_zero];exact .nil _
   · rw[hv];refine⟨_,run _ cap hcc,?_⟩
     have hz:sz=es∨denC ν c=[]:=by
      cases hd:denC ν c with
      | nil=>exact .inr rfl
      | cons e0 r0 =>
       have h3:=hsz e0 (by rw[hd]; simp);have h4:=h2 e0 (by rw[hd]; simp);exact .inl (by omega)
     by_cases hr:cap=(denI ν a).toNat
     · rw[if_pos hr];exact aID hsz hcc hcell hval (denI ν a).toNat ((denI ν b).toNat - (denI ν a).toNat) _ _ (by omega) (by omega) (fun h=>by omega)
     · rw[if_neg hr];simp only[Option.map_some,Addr.add_lit];refine aID hsz hcc hcell hval (denI ν a).toNat ((denI ν b).toNat - (denI ν a).toNat) _ _ (by omega) (by omega) (fun h=>?_);rcases hz with rfl | hz
       · rfl
       · rw[hz] at h3;simp at h3;omega
 · rename_i el _ _ _ _ c y hg hx;have hu:=(hT.get hg).1;rw[hx] at lx;simp only[LR] at lx;split at h
   rotate_left
   · simp at h
   rename_i _ es _ _ _ a hv m hg2 ha hhi hm;split at h
   rotate_left
   · simp at h
   rename_i b hb;obtain⟨_,⟨i,hinf,hs,_,_⟩,_⟩:=hT.get hg2;simp only at hs;simp only[Option.some.injEq] at h;subst h;refine⟨rfl,fun hn=>?_⟩;have h1:denN ν (.cuts a b m):=hn _ (by simp);have h2:denN ν (.szAll c es):=hn _ (by simp);have h3:denN ν (.le m (.clen c)):=hn _ (by simp);simp only[denN,denI] at h1 h2 h3;obtain⟨h0,h1,h4⟩:=h1
   have hl':((lo.map val)=none∧denI ν a=0)∨∃ k,lo.map val=some (.int k (denI ν a)):=by
    rcases aB8 ha ll with ⟨e1,rfl⟩ | e
    · exact .inl ⟨e1,by simp[denI]⟩
    · exact .inr e
   obtain⟨z,rfl,hz⟩ : ∃ z,hi=some z∧ρ z=hv:=by
    cases hi with
    | none=>simp at hhi
    | some z=>exact⟨z,rfl,by simpa using hhi⟩
   obtain⟨k,hk1⟩:=aCT (by rw[hz]; exact hb) (lh z rfl);obtain⟨k',hk2⟩:=aCT hm (lm y rfl)
   have hcont:denC ν (cutC true c a b)=((denC ν c).drop (denI ν a).toNat).take ((denI ν b).toNat - (denI ν a).toNat):=by
    simp only[cutC,cond_true,denC,aDK,aE6]
    congr 1
    omega
   simp only[LR,hcont];rcases aB6 lx with ⟨hnil,ad,hv⟩ | ⟨bb,o,sz,cap,g,hv,hsz,hcc,hcell,hval⟩
   · have hlen:(denC ν c).length=0:=by rw[hnil]; rfl
     have hb0:(denI ν b).toNat=0:=by omega
     have ha0:(denI ν a).toNat=0:=by omega
     have hm0:(denI ν m).toNat=0:=by omega
     refine⟨.slice ad 0 0,?_,?_⟩
     · have hbnd:=aHD (P:=P) (w:=w) (isSlice:=true) (len:=0) (cap:=0) (k:=k) (k':=k') hl' h0 h1 h4 (by omega);rw[hv];simp only[Option.map_some,hk1,hk2,Instr.sliceAt,Sem.run_bind,aAv hu,Result.andThen_ok,Instr.slice,hbnd,aAM hinf,hs,Sem.run_pure];simp[hb0,ha0,hm0]
     · rw[hnil,hb0];simp only[Nat.zero_sub,List.take_zero];exact .nil _
   · have hbnd:=aHD (P:=P) (w:=w) (isSlice:=true) (len:=(denC ν c).length) (cap:=cap) (k:=k) (k':=k') hl' h0 h1 h4 (by omega);rw[hv]
     refine⟨.slice (if (denI ν m).toNat=(denI ν a).toNat then some ⟨bb,o,none⟩ else (some (⟨bb,o,none⟩:Addr)).map (·.add ((denI ν a).toNat*es))) ((denI ν b).toNat - (denI ν a).toNat) ((denI ν m).toNat - (denI ν a).toNat),?_,?_⟩
     · simp only[Option.map_some,hk1,hk2,Instr.sliceAt,Sem.run_bind,aAv hu,Result.andThen_ok,Instr.slice,hbnd,aAM hinf,hs,Sem.run_pure]
     have hz:sz=es∨denC ν c=[]:=by
      cases hd:denC ν c with
      | nil=>exact .inr rfl
      | cons e0 r0 =>
       have h5:=hsz e0 (by rw[hd]; simp);have h6:=h2 e0 (by rw[hd]; simp);exact .inl (by omega)
     by_cases hr:(denI ν m).toNat=(denI ν a).toNat
     · rw[if_pos hr];exact aID hsz hcc hcell hval (denI ν a).toNat ((denI ν b).toNat - (denI ν a).toNat) _ _ (by omega) (by omega) (fun h=>by omega)
     · rw[if_neg hr];simp only[Option.map_some,Addr.add_lit];refine aID hsz hcc hcell hval (denI ν a).toNat ((denI ν b).toNat - (denI ν a).toNat) _ _ (by omega) (by omega) (fun h=>?_);rcases hz with rfl | hz
       · rfl
       · rw[hz] at h3;simp at h3;omega
 · rename_i el _ _ _ _ id ver o n hg hx;have hu:=(hT.get hg).1;rw[hx] at lx hk;split at h
   rotate_left
   · simp at h
   rename_i _ es _ _ _ ver' c e' sz a b hg2 hob ha hb;obtain⟨_,⟨i,hinf,hs,_,_⟩,_⟩:=hT.get hg2;simp only at hs;cases hbb:Nat.beq ver ver'&&Nat.beq sz es
   · rw[hbb] at h; simp at h
   rw[hbb] at h;simp only[cond_true,Option.some.injEq] at h;subst h;simp only[Bool.and_eq_true] at hbb;refine⟨rfl,fun hn=>?_⟩;have h1:denN ν (.cuts a b n):=hn _ (by simp);simp only[denN,denI] at h1;obtain⟨h0,h1,h3⟩:=h1;obtain⟨ad,len,rc,pl,hpl,hver,hv,hrs,ho⟩:=aFv lx (hk id rfl) hob hbb.1;have hver':=Nat.eq_of_beq_eq_true hbb.1;have hsz':=Nat.eq_of_beq_eq_true hbb.2;obtain⟨hsz,_⟩:=ho
   have hl':((lo.map val)=none∧denI ν a=0)∨∃ k,lo.map val=some (.int k (denI ν a)):=by
    rcases aB8 ha ll with ⟨e1,rfl⟩ | e
    · exact .inl ⟨e1,by simp[denI]⟩
    · exact .inr e
   rw[hv];simp only[LR];rcases hrs with ⟨hat,rfl,rfl,rfl,hn0,ho0⟩ | ⟨b',c',off,hat,rfl,hn0,ho0,hlen,hle,hz,hoff⟩
   · have hh':((hi.map val)=none∧denI ν b=((0:Nat):Int))∨∃ k,hi.map val=some (.int k (denI ν b)):=by
      rcases aB8 hb lh with ⟨e1,rfl⟩ | e
      · exact .inl ⟨e1,by rw[hn0]; rfl⟩
      · exact .inr e
     have hbnd:=aCj (P:=P) (w:=w) (isSlice:=true) (len:=0) (cap:=0) hl' hh' h0 h1 (by omega)
     have ha0:denI ν a=0:=by omega
     have hb0:denI ν b=0:=by omega
     refine⟨.slice none 0 0,?_,none,0,0,pl,rfl,hpl,by simp only at hver; omega,fun _=>.inl ⟨hat,rfl,rfl,rfl,?_,?_⟩⟩
     · simp only[Instr.sliceAt,Sem.run_bind,aAv hu,Result.andThen_ok,Instr.slice,Option.map_none,hbnd,aAM hinf,hs,Sem.run_pure,ha0,hb0];rfl
     · rw[aE6,ha0,hb0]; rfl
     · rw[aGk,ha0,ho0]; rfl
   · have hh':((hi.map val)=none∧denI ν b=((len:Nat):Int))∨∃ k,hi.map val=some (.int k (denI ν b)):=by
      rcases aB8 hb lh with ⟨e1,rfl⟩ | e
      · exact .inl ⟨e1,by omega⟩
      · exact .inr e
     have hbnd:=aCj (P:=P) (w:=w) (isSlice:=true) (len:=len) (cap:=rc) hl' hh' h0 h1 (by omega)
     refine⟨.slice (if rc=(denI ν a).toNat then some ⟨b',off,none⟩ else some ⟨b',off+(denI ν a).toNat*es,none⟩) ((denI ν b).toNat - (denI ν a).toNat) (rc - (denI ν a).toNat),?_,_,_,_,pl,rfl,hpl,by simp only at hver; omega,fun _=>?_⟩
     · simp only[Instr.sliceAt,Sem.run_bind,aAv hu,Result.andThen_ok,Instr.slice,Option.map_none,hbnd,aAM hinf,hs,Sem.run_pure,Option.map_some,Addr.add_lit]
     · rw[aGk,aE6];exact aJG hat (hsz.trans hsz') hn0 ho0 hlen hle hz hoff h0 h1 h3
 · rename_i el _ _ _ _ hg hx;have hu:=(hT.get hg).1;rw[hx] at lx;split at h
   rotate_left
   · simp at h
   rename_i ti a b hg2 ha hb;obtain⟨_,⟨i,hinf,hs,_,_⟩,_⟩:=hT.get hg2;simp only[Option.some.injEq] at h;subst h;refine⟨rfl,fun hn=>?_⟩;have h1:denN ν (.cuts a b (.int 0)):=hn _ (by simp);simp only[denN,denI] at h1;obtain⟨h0,h1,h3⟩:=h1
   have hl':((lo.map val)=none∧denI ν a=0)∨∃ k,lo.map val=some (.int k (denI ν a)):=by
    rcases aB8 ha ll with ⟨e1,rfl⟩ | e
    · exact .inl ⟨e1,by simp[denI]⟩
    · exact .inr e
   have hh':((hi.map val)=none∧denI ν b=((0:Nat):Int))∨∃ k,hi.map val=some (.int k (denI ν b)):=by
    rcases aB8 hb lh with ⟨e1,rfl⟩ | e
    · exact .inl ⟨e1,by simp[denI]⟩
    · exact .inr e
   have hbnd:=aCj (P:=P) (w:=w) (isSlice:=true) (len:=0) (cap:=0) hl' hh' h0 h1 (by omega)
   have ha0:denI ν a=0:=by omega
   have hb0:denI ν b=0:=by omega
   simp only[LR] at lx;refine⟨.slice none 0 0,?_,by simp only[LR]⟩;rw[lx];simp only[Instr.sliceAt,Sem.run_bind,aAv hu,Result.andThen_ok,Instr.slice,Option.map_none,hbnd,aAM hinf,hs,Sem.run_pure,ha0,hb0];rfl
 · rename_i n el _ _ _ _ id ver hg hx;have hu:=(hT.get hg).1;rw[hx] at lx hk;split at h
   rotate_left
   · simp at h
   rename_i _ es _ _ _ ver' c e' sz a b hg2 hob ha hb;obtain⟨_,⟨i,hinf,hs,_,_⟩,_⟩:=hT.get hg2;simp only at hs;cases hbb:Nat.beq ver ver'&&Nat.beq sz es
   · rw[hbb] at h; simp at h
   rw[hbb] at h;simp only[cond_true,Option.some.injEq] at h;subst h;simp only[Bool.and_eq_true] at hbb;refine⟨rfl,fun hn=>?_⟩;have h1:denN ν (.cuts a b (.int n)):=hn _ (by simp);have h4:denN ν (.le (.int n) (.clen c)):=hn _ (by simp);simp only[denN,denI] at h1 h4;obtain⟨h0,h1,h3⟩:=h1;obtain⟨b',c',pl,hpl,hver,hat,hv,ho⟩:=aCC (ρ:=.junk) lx (hk id rfl) hob hbb.1;have hver':=Nat.eq_of_beq_eq_true hbb.1;have hsz':=Nat.eq_of_beq_eq_true hbb.2;obtain⟨hsz,_,_,hrow⟩:=ho
   have hcap:n≤c':=by
    rcases hrow with ⟨hno,_⟩ | ⟨b2,cap,a2,fr,hat2,_,_,_,hlen2,_⟩
    · rw[hat] at hno; simp at hno
    · rw[hat] at hat2;simp only[Option.some.injEq,Prod.mk.injEq] at hat2;omega
   have hl':((lo.map val)=none∧denI ν a=0)∨∃ k,lo.map val=some (.int k (denI ν a)):=by
    rcases aB8 ha ll with ⟨e1,rfl⟩ | e
    · exact .inl ⟨e1,by simp[denI]⟩
    · exact .inr e
   have hh':((hi.map val)=none∧denI ν b=((n:Nat):Int))∨∃ k,hi.map val=some (.int k (denI ν b)):=by
    rcases aB8 hb lh with ⟨e1,rfl⟩ | e
    · exact .inl ⟨e1,by simp[denI]⟩
    · exact .inr e
   have hbnd:=aCj (P:=P) (w:=w) (isSlice:=false) (len:=n) (cap:=n) hl' hh' h0 h1 (by omega);rw[hv];simp only[LR]
   refine⟨.slice (if n=(denI ν a).toNat then some ⟨b',0,none⟩ else some ⟨b',0+(denI ν a).toNat*es,none⟩) ((denI ν b).toNat - (denI ν a).toNat) (n - (denI ν a).toNat),?_,_,_,_,pl,rfl,hpl,by simp only at hver; omega,fun _=>?_⟩
   · simp only[Instr.sliceAt,Sem.run_bind,aAv hu,Result.andThen_ok,Instr.sureAddr,Option.map_none,hbnd,aAM hinf,hs,Sem.run_pure,Addr.add_lit];split <;> rfl
   · rw[aE6]
     have:=aJG (o:=0) (n:=n) (a:=denI ν a) (b:=denI ν b) (len:=n) (rc:=n) (off:=0) hat (hsz.trans hsz') (by omega) (by omega) (by omega) (by omega) (fun _=>⟨rfl,hcap⟩) (fun _=>by simp) h0 h1 h3
     rw[Int.zero_add] at this;exact this
 · simp at h
end
end
section
open Go.RowKit
section
variable {P:Program} {ν:Nu} {w:World} {X:Nat→Prop} {σ:List Pl}
theorem aHz (ν:Nu) (c n:E):denC ν (aJu c n)=(denC ν c).take (denI ν n).toNat:=by
 unfold aJu;cases h:aBH c n
 · simp[denC]
 · simp only[cond_true];unfold aBH at h;split at h
   · rename_i a b;obtain rfl:=Nat.eq_of_beq_eq_true h;simp[denI,denC]
   · simp at h
theorem aNy {o:E} (h:aCF o=true):denI ν o=0:=by
 unfold aCF at h;split at h
 · simp[denI]
 · simp at h
theorem aFB {c n:E} (h:aBH c n=true):denI ν n=((denC ν c).length:Nat):=by
 unfold aBH at h;split at h
 · rename_i a b;obtain rfl:=Nat.eq_of_beq_eq_true h;simp[denI,denC]
 · simp at h
theorem aDl {get:Nat→Option Ob} {v:LV} {c:E} {ns:List Need} (h:aA9 get v=some (c,ns)) {r:Value} (lx:LR ν w X σ v r) (hk : ∀ id,v.id? = some id→aBh ν w X σ get id) (hn:aAZ ν ns) :
 ∃ (a:Option Addr) (len rc:Nat),r = .slice a len rc∧len=(denC ν c).length∧len≤rc ∧
  ((len=0∧rc=0)∨∃ (b o sz:Nat) (g:Nat→Nat→Value),a=some ⟨b,o,none⟩∧((∃ c',v = .vs c')∨∃ (id:Nat) (p:Pl) (c':Nat),v.id? = some id∧σ[id]? = some p∧p.at_=some (b,c'))∧(∀ el∈denC ν c,el.length=sz) ∧
   (∀ (i:Nat) (el:List CV),(denC ν c)[i]? = some el→∀ (f:Nat) (cv:CV),el[f]? = some cv→w.cell? ⟨b,o+i*sz+f,none⟩=some (g i f)∧CVR w (Exc X σ) cv (g i f))):=by
 unfold aA9 at h;split at h
 · rename_i c';simp only[Option.some.injEq,Prod.mk.injEq] at h;obtain⟨rfl,rfl⟩:=h;simp only[LR] at lx;rcases aB6 lx with ⟨hnil,ad,rfl⟩ | ⟨b,o,sz,cap,g,rfl,hsz,hcc,hcell,hval⟩
   · exact⟨ad,0,0,rfl,by rw[hnil]; rfl,by omega,.inl ⟨rfl,rfl⟩⟩
   · exact⟨_,_,_,rfl,rfl,hcc,.inr ⟨b,o,sz,g,rfl,.inl ⟨_,rfl⟩,hsz,fun i el hi f cv hf=>⟨(hcell i el hi f cv hf).2,hval i el hi f cv hf⟩⟩⟩
 · rename_i id ver o n;split at h
   rotate_left
   · simp at h
   rename_i ver' c' e' sz hob;cases hb:Nat.beq ver ver'
   · rw[hb] at h; simp at h
   rw[hb] at h;simp only[cond_true] at h;obtain⟨a,len,rc,pl,hpl,hver,rfl,hrs,hsz,hpos,hels,hrow⟩:=aFv lx (hk id rfl) hob hb
   have hc:denC ν c=((denC ν c').drop (denI ν o).toNat).take (denI ν n).toNat∧((denI ν n).toNat≤(denC ν c').length - (denI ν o).toNat∨denI ν o+denI ν n≤(denC ν c').length):=by
    cases hz:aCF o&&aBH c' n
    · rw[hz] at h;simp only[cond_false,Option.some.injEq,Prod.mk.injEq] at h;obtain⟨rfl,rfl⟩:=h;refine⟨by rw[aHz,aDK],.inr ?_⟩
      have:=hn (.le (aIl o n) (.clen c')) (by simp)
      simpa only[denN,aGk,denI] using this
    · rw[hz] at h;simp only[cond_true,Option.some.injEq,Prod.mk.injEq] at h;obtain⟨rfl,rfl⟩:=h;simp only[Bool.and_eq_true] at hz;have h1:=aNy (ν:=ν) hz.1;have h2:=aFB (ν:=ν) hz.2;exact⟨by rw[h1,h2]; simp,.inl (by omega)⟩
   obtain⟨hc,hle⟩:=hc;rcases hrs with ⟨hat,rfl,rfl,rfl,hn0,ho0⟩ | ⟨b,cc,off,hat,rfl,hn0,ho0,rfl,hlr,hz,hoff⟩
   · exact⟨none,0,0,rfl,by rw[hc,hn0]; simp,by omega,.inl ⟨rfl,rfl⟩⟩
   · refine⟨_,_,_,rfl,?_,hlr,.inr ⟨b,off,sz,?_⟩⟩
     · rw[hc]; simp; omega
     · rcases hrow with ⟨hno,_⟩ | ⟨b2,cap,a2,fr,hat2,hh,hfr,hcap,hlen2,hcells⟩
       · rw[hat] at hno; simp at hno
       rw[hat] at hat2;simp only[Option.some.injEq,Prod.mk.injEq] at hat2;obtain⟨rfl,rfl⟩:=hat2;refine⟨fun i f=>(a2[((denI ν o).toNat+i)*sz+f]?).getD undef,rfl,.inr ⟨id,pl,_,rfl,hpl,hat⟩,fun el hel=>?_,fun i el hi f cv hf=>?_⟩
       · rw[hc] at hel;exact hels el (List.mem_of_mem_drop (List.mem_of_mem_take hel))
       · rw[hc] at hi
         have hin:i<(denI ν n).toNat:=by
          have:=(List.getElem?_eq_some_iff.1 hi).1
          simp at this;omega
         rw[List.getElem?_take_of_lt hin,List.getElem?_drop] at hi;obtain⟨r,hr,hv⟩:=hcells _ el hi f cv hf;have hof:=hoff (by omega)
         have he:off+i*sz+f=((denI ν o).toNat+i)*sz+f:=by rw[hof,hsz,Nat.add_mul]
         simp only[aCt hh,he,hr,Option.getD_some];exact⟨trivial,hv⟩
 · simp at h
theorem aTb {T:Tab} (hT:TOK P T) {c:E} {src dst e:TypeId} (hs:P.underlying src=some (.slice e)) (he:P.underlying e=some (.int .u8)) (hd:P.underlying dst=some .string) {get:Nat→Option Ob} {v:LV} {ns:List Need}
 (h:aA9 get v=some (c,ns)) {r:Value} (lx:LR ν w X σ v r) (hk : ∀ id,v.id? = some id→aBh ν w X σ get id) (hn:aAZ ν ns) (hb:denN ν (.bytesC c)) :
 (convert src dst r).run P w = .ok (.string (denS ν (.sOf c))) w:=by
 obtain⟨a,len,rc,rfl,hlen,hle,hcase⟩:=aDl h lx hk hn;simp only[denN] at hb;rcases hcase with ⟨rfl,rfl⟩ | ⟨b,o,sz,g,rfl,_,hsz,hcell⟩
 · have h0:denC ν c=[]:=List.length_eq_zero_iff.1 hlen.symm;rw[run_convert_bytes_string w src dst e a 0 0 hs he hd];cases a <;> simp[Conv.bytesToString,loadCells,loadCellsFrom,denS,h0] <;> rfl
 · have hl:=run_loadCells_list (P:=P) w ⟨b,o,none⟩ (((denC ν c).map fun el=>(el.getD 0 default).int).map (Value.int .u8)) (fun j v hj=>by
    rw[List.map_map,List.getElem?_map] at hj
    cases hi:(denC ν c)[j]? with
    | none=>rw[hi] at hj; simp at hj
    | some el =>
     rw[hi] at hj;simp only[Option.map_some,Function.comp_apply,Option.some.injEq] at hj;obtain⟨z,rfl⟩:=hb _ (List.mem_of_getElem? hi);have h1:=hsz _ (List.mem_of_getElem? hi);simp only[List.length_cons,List.length_nil] at h1;obtain⟨h2,h3⟩:=hcell j _ hi 0 _ rfl
     have h4 : ∀ r,CVR w (Exc X σ) (.v (.int .u8 z)) r→r = .int .u8 z:=by
      intro r hr;cases hr;rfl
     have h4:=h4 _ h3;rw[Addr.add_lit,←hj];rw[←h1,h4] at h2;simpa[CV.int] using h2)
   simp only[List.length_map] at hl;rw[run_convert_bytes_string w src dst e _ len rc hs he hd,hlen,run_bytesToString w ⟨b,o,none⟩ _ rc _ hl]
   have fp : ∀ (l:List Int) (acc:ByteArray),l.foldl (fun r n=>r.push (UInt8.ofNat n.toNat)) acc=⟨acc.data++(l.map fun n=>UInt8.ofNat n.toNat).toArray⟩:=by
    intro l
    induction l with
    | nil=>intro acc; simp
    | cons n l ih =>
     intro acc;rw[List.foldl_cons,ih]
     have:(acc.push (UInt8.ofNat n.toNat)).data=acc.data.push (UInt8.ofNat n.toNat):=rfl
     rw[this]
     congr 1
     apply Array.toList_inj.1
     simp
   rw[fp];have he0:ByteArray.empty.data = #[]:=rfl;simp[denS,he0,List.map_map,Function.comp_def]
end
end
end Go.Proofs.YtcdeimjlgpfjiaaGreatDoor
