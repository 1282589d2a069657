/- A symbolic run of Go code: regions that draw their order. No condition. -/
import Derived.Test.YtcdeimjlgpfjiaaGreatDoorG06
import Derived.Orders
set_option linter.unusedSimpArgs false
set_option linter.unusedVariables false
namespace Go.Proofs.YtcdeimjlgpfjiaaGreatDoor
section
open Go.RowKit
section
variable {P:Program} {T:Tab} {w0:Base} {X:Nat→Prop} {Fin:Nu→Ex→St→Prop} {Ag:Nu→Nat→List D→Prop} {ops:Array Oper}
structure EvOK (P:Program) (ν:Nu) (e:Ev):Prop where
 ns:denB ν e.g=true→aAZ ν e.ns
 call : ∀ md f as_ sh n m,e.call=some (md,f,as_,sh,n,m)→denB ν e.g=true→CallOK P md f (aAX ν as_) (dvOf ν sh)
 dc:e.call=none→∀ d,e.dc=some d→Nu.at ν e.n = .l (aBo ν d)
structure EvIn (S:St) (e:Ev):Prop where
 n:e.n=S.n
 g:e.g.ok S.n=true
 ns:aAU S.n e.ns=true
 call : ∀ md f as_ sh n m,e.call=some (md,f,as_,sh,n,m)→n=S.n∧LVs.ok S.n as_=true∧sh.ok m=true∧e.S'.n=m
 dc:e.call=none→∀ d,e.dc=some d→d.ok S.n=true∧e.S'.n=S.n+1
 no:e.call=none→e.dc=none→e.S'.n=S.n
 G:e.S'.G=S.G
theorem aJc (S:St) (d:Option Tmp) (v:LV):(S.put d v).n=S.n:=by cases d <;> rfl
theorem aCu (S:St) (d:Option Tmp) (v:LV):(S.put d v).L=S.L:=by cases d <;> rfl
theorem aDv (S:St) (d:Option Tmp) (v:LV):(S.put d v).G=S.G:=by cases d <;> rfl
theorem aQ2 (S:St) (u:Option (Nat×Ob)):(upS S u).G=S.G:=by
 cases u with
 | none=>rfl
 | some x=>obtain⟨j,ob⟩:=x; simp only[upS]; cases Nat.beq j S.L.length <;> rfl
theorem aRA (S:St) (u:Option (Nat×Ob)):(upS S u).F=S.F:=by
 cases u with
 | none=>rfl
 | some x=>obtain⟨j,ob⟩:=x; simp only[upS]; cases Nat.beq j S.L.length <;> rfl
theorem aTT {S:St} {g:E} {v v':LV} {e:Eff} {up:Option (Nat×Ob)} {dc:Option DC} {m:Nat} (h:effD S g v e=some (v',up,dc,m)) :
 (dc=none→m=S.n)∧(∀ d,dc=some d→d.ok S.n=true∧m=S.n+1):=by
 unfold effD at h;split at h
 · simp only[Option.some.injEq,Prod.mk.injEq] at h;obtain⟨rfl,rfl,rfl,rfl⟩:=h;exact⟨fun _=>rfl,fun d hd=>by simp at hd⟩
 all_goals
  have h':=aAp h;simp only[Prod.mk.injEq] at h';obtain⟨rfl,rfl,rfl,rfl⟩:=h'
 · exact⟨fun _=>rfl,fun d hd=>by simp at hd⟩
 · exact⟨fun _=>rfl,fun d hd=>by simp at hd⟩
 · rename_i d _ _;cases hb:aA7 g&&d.ok S.n
   · rw[hb] at h; simp at h
   simp only[Bool.and_eq_true] at hb
   exact⟨fun h=>by simp at h,fun d' hd=>by
    simp only[Option.some.injEq] at hd;subst hd;exact⟨hb.2,rfl⟩⟩
 · rename_i d i _ _;cases hb:aA7 g&&Nat.blt i S.L.length&&d.ok S.n
   · rw[hb] at h; simp at h
   simp only[Bool.and_eq_true] at hb
   exact⟨fun h=>by simp at h,fun d' hd=>by
    simp only[Option.some.injEq] at hd;subst hd;exact⟨hb.2,rfl⟩⟩
theorem aJ8 {o:Oper} {S:St} {e:Ev} (h:aF6 T ops o S=some e):EvIn S e∧e.S'.F=(S.put o.dst e.v).F∧e.S'.L=(upS S e.up).L:=by
 unfold aF6 at h;split at h
 · simp at h
 · simp only[Option.some.injEq] at h;subst h;exact⟨⟨rfl,rfl,rfl,fun md f as_ sh n m h=>by simp at h,fun _ d hd=>by simp at hd,fun _ _=>aJc _ _ _,aDv _ _ _⟩,rfl,aCu _ _ _⟩
 rename_i g _ hg;cases hgo:g.ok S.n
 · rw[hgo] at h; simp at h
 rw[hgo] at h;simp only[cond_true] at h
 have putF : ∀ (S S':St) (v:LV),S'.F=S.F→(S'.put o.dst v).F=(S.put o.dst v).F:=fun S S' v h=>by
  cases o.dst with
  | none=>exact h
  | some d=>simp only[St.put,h]
 unfold evOp at h;split at h
 · rename_i f args hc;split at h
   · rename_i M hM;have h':=aAp h;cases hb:aA7 g&&Nat.blt M.id S.L.length&&aAU S.n M.ns&&LVs.ok S.n M.as_
     · rw[hb] at h; simp at h
     subst h';simp only[Bool.and_eq_true] at hb;refine⟨⟨rfl,hgo,hb.1.2,fun md f as_ sh n m h=>?_,fun h=>by simp at h,fun h=>by simp at h,(aDv _ _ _).trans (aQ2 _ _)⟩,putF _ _ _ (aRA _ _),?_⟩
     · simp only[Option.some.injEq,Prod.mk.injEq] at h;obtain⟨rfl,rfl,rfl,rfl,rfl,rfl⟩:=h;exact⟨rfl,hb.2,by simp[LV.ok,E.ok],aJc _ _ _⟩
     · rw[aCu]
   split at h
   · have h':=aAp h;subst h';refine⟨⟨rfl,hgo,rfl,fun md f as_ sh n m h=>by simp at h,fun _ d hd=>?_,fun _ hd=>by simp at hd,(aDv _ _ _).trans (aQ2 _ _)⟩,putF _ _ _ (aRA _ _),?_⟩
     · simp only[Option.some.injEq] at hd;subst hd;exact⟨rfl,aJc _ _ _⟩
     · rw[aCu]
   · split at h
     · rename_i as_ ns sh m hs hsh;cases hb:aAU S.n ns&&LVs.ok S.n as_&&sh.ok m
       · rw[hb] at h; simp at h
       rw[hb] at h;simp only[cond_true] at h;simp only[Bool.and_eq_true] at hb;cases hfr:args.any isRs && !aCx sh
       · rw[hfr] at h;simp only[cond_false,Option.some.injEq] at h;subst h;refine⟨⟨rfl,hgo,hb.1.1,fun md f as_ sh n m h=>?_,fun h=>by simp at h,fun h=>by simp at h,aDv _ _ _⟩,putF _ _ _ rfl,aCu _ _ _⟩;simp only[Option.some.injEq,Prod.mk.injEq] at h;obtain⟨rfl,rfl,rfl,rfl,rfl,rfl⟩:=h;exact⟨rfl,hb.1.2,hb.2,aJc _ _ _⟩
       · rw[hfr] at h;simp only[cond_true] at h;split at h
         · have h':=aAp h;subst h';refine⟨⟨rfl,hgo,hb.1.1,fun md f as_ sh n m h=>?_,fun h=>by simp at h,fun h=>by simp at h,(aDv _ _ _).trans (aQ2 _ _)⟩,putF _ _ _ (aRA _ _),?_⟩
           · simp only[Option.some.injEq,Prod.mk.injEq] at h;obtain⟨rfl,rfl,rfl,rfl,rfl,rfl⟩:=h;exact⟨rfl,hb.1.2,hb.2,aJc _ _ _⟩
           · rw[aCu]
         · simp at h
     · simp at h
 · split at h
   · split at h
     · split at h
       · simp only[Option.some.injEq] at h;subst h;exact⟨⟨rfl,hgo,rfl,fun md f as_ sh n m h=>by simp at h,fun _ d hd=>by simp at hd,fun _ _=>aJc _ _ _,aDv _ _ _⟩,rfl,aCu _ _ _⟩
       · simp at h
     · simp at h
   · split at h
     · rename_i ns d hlit;have h':=aAp h;cases hb:aAU S.n ns&&d.ok S.n
       · rw[hb] at h; simp at h
       subst h';simp only[Bool.and_eq_true] at hb;refine⟨⟨rfl,hgo,hb.1,fun md f as_ sh n m h=>by simp at h,fun _ d' hd=>?_,fun _ hd=>by simp at hd,aDv _ _ _⟩,putF _ _ _ rfl,aCu _ _ _⟩;simp only[Option.some.injEq] at hd;subst hd;exact⟨hb.2,aJc _ _ _⟩
     split at h
     · rename_i ns v e' hop;split at h
       · rename_i v' up dc m hE;have h':=aAp h;cases hb:aAU S.n ns
         · rw[hb] at h; simp at h
         subst h';obtain⟨h1,h2⟩:=aTT hE;refine⟨⟨rfl,hgo,hb,fun md f as_ sh n m h=>by simp at h,fun _ d hd=>⟨(h2 d hd).1,by rw[aJc]; exact (h2 d hd).2⟩,fun _ hd=>by rw[aJc]; exact h1 hd,(aDv _ _ _).trans (aQ2 _ _)⟩,putF _ _ _ (aRA _ _),?_⟩;rw[aCu]
       · simp at h
     · simp at h
theorem aHr : ∀ (F:List LV) (d:Nat) (v v':LV),setL (setL F d v) d v'=setL F d v'
 | [],d,v,v'=>by cases d <;> rfl
 | _::_,0,v,v'=>rfl
 | x::F,d+1,v,v'=>by simp only[setL,aHr F d v v']
theorem aKF (K:List (Nat×Bool)) (dst:Option Tmp) (n:Nat) (e:Ev):knE K dst n e=e∨∃ d b x,dst=some d∧e.v = .b x∧e.g = .bool true∧x.ok n=true∧knE K dst n e={ e with ns:=aK6 x b::e.ns,v:=.b (.bool b),S':={ e.S' with F:=setL e.S'.F d (.b (.bool b)) } }:=by
 unfold knE
 cases dst with
 | none=>exact .inl rfl
 | some d =>
  simp only
  cases aQL K d with
  | none=>exact .inl rfl
  | some b =>
   simp only;split
   · rename_i x hx;cases hb:aA7 e.g&&x.ok n
     · exact .inl rfl
     · simp only[Bool.and_eq_true] at hb
       have:e.g = .bool true:=by
        have:=hb.1
        unfold aA7 at this;split at this
        · assumption
        · simp at this
       exact .inr ⟨d,b,x,rfl,hx,this,hb.2,rfl⟩
   · exact .inl rfl
theorem aRp {x:E} {b:Bool} {n:Nat} (h:x.ok n=true):(aK6 x b).ok n=true:=by
 cases b <;> simp[aK6,Need.ok,E.ok,h]
theorem aPX {ν:Nu} {x:E} {b:Bool} (h:denN ν (aK6 x b)):denB ν x=b:=by
 cases b <;> cases hx:denB ν x <;> simp[aK6,denN,denI,hx] at h ⊢
theorem aCe {K:List (Nat×Bool)} {o:Oper} {S:St} {e:Ev} (h:aGh T K ops o S=some e):EvIn S e∧e.S'.F=(S.put o.dst e.v).F∧e.S'.L=(upS S e.up).L:=by
 unfold aGh at h;split at h
 · simp at h
 rename_i e0 he0;simp only[Option.some.injEq] at h;obtain⟨h1,h2,h3⟩:=aJ8 he0;rcases aKF K o.dst S.n e0 with hk | ⟨d,b,x,hd,hv,hg,hx,hk⟩
 · rw[hk] at h; subst h; exact⟨h1,h2,h3⟩
 · rw[hk] at h;subst h;refine⟨⟨h1.n,h1.g,?_,h1.call,h1.dc,h1.no,h1.G⟩,?_,h3⟩
   · simp only[aAU,aRp hx,h1.ns,Bool.and_self]
   · simp only[h2,hd,St.put,aHr]
theorem aSM : ∀ (ν:Nu) (x:D) (r:Nu) (n:Nat),ν.length=n→Nu.at (ν++[x]++r) n=x
 | [],x,r,_,rfl=>rfl
 | _::ν,x,r,_,rfl=>by
  have:=aSM ν x r ν.length rfl
  simpa[Nu.at] using this
theorem aDT {S:St} {e:Ev} (hin:EvIn S e) {ν:Nu} (hν:ν.length=S.n) {t:Tr} (hd:den P Fin Ag ν (aKv e t)) : ∃ ds1:Nu,(ν++ds1).length=e.S'.n∧den P Fin Ag (ν++ds1) t∧∀ ds2:Nu,EvOK P (ν++ds1++ds2) e:=by
 simp only[aKv] at hd;obtain⟨hns,hd⟩:=aA5 _ hd;have hg : ∀ ds:Nu,denB (ν++ds) e.g=denB ν e.g:=fun ds=>aCD ν ds e.g (by rw[hν]; exact hin.g);have hns' : ∀ ds:Nu,denB (ν++ds) e.g=true→aAZ (ν++ds) e.ns:=fun ds h=>(aD3 ν ds e.ns (by rw[hν]; exact hin.ns)).2 (hns (by rw[←hg ds]; exact h));split at hd
 · rename_i md f as_ sh n m hcall;simp only[den] at hd;obtain⟨ds1,hm,hF,hd⟩:=hd;obtain⟨c1,c2,c3,c4⟩:=hin.call md f as_ sh n m hcall;refine⟨ds1,by rw[c4,List.length_append,hν,←c1]; exact hm,hd,fun ds2=>⟨?_,?_,fun h=>by rw[hcall] at h; simp at h⟩⟩
   · rw[List.append_assoc]; exact hns' _
   · intro md' f' as' sh' n' m' h' hgt;rw[hcall] at h';simp only[Option.some.injEq,Prod.mk.injEq] at h';obtain⟨rfl,rfl,rfl,rfl,rfl,rfl⟩:=h';rw[List.append_assoc,hg] at hgt
     have:=hF hgt
     rw[aM0 (ν++ds1) ds2 sh (by rw[List.length_append,hν,←c1,hm]; exact c3),List.append_assoc,aDw ν (ds1++ds2) as_ (by rw[hν]; exact c2)];exact this
 · rename_i hcall;split at hd
   · rename_i d hdc;simp only[den] at hd;have hd:=hd _ rfl;obtain⟨c1,c2⟩:=hin.dc hcall d hdc;refine⟨[.l (aBo ν d)],by rw[c2]; simp[hν],hd,fun ds2=>⟨?_,?_,?_⟩⟩
     · rw[List.append_assoc]; exact hns' _
     · intro md' f' as' sh' n' m' h' hgt;rw[hcall] at h'; simp at h'
     · intro _ d' hd';rw[hdc] at hd';simp only[Option.some.injEq] at hd';subst hd';rw[List.append_assoc,aHd ν _ d (by rw[hν]; exact c1),←List.append_assoc,hin.n];exact aSM ν _ ds2 _ hν
   · rename_i hdc;have hS:=hin.no hcall hdc;refine⟨[],by rw[hS]; simpa using hν,by simpa using hd,fun ds2=>⟨?_,?_,?_⟩⟩
     · rw[List.append_assoc]; exact hns' _
     · intro md' f' as' sh' n' m' h' hgt;rw[hcall] at h'; simp at h'
     · intro _ d' hd';rw[hdc] at hd'; simp at hd'
theorem aHk {K:List (Nat×Bool)} : ∀ (l:List Oper) (S:St) (evs:List Ev) (S':St) (ν:Nu) (t:Tr),aDo T K ops l S=some (evs,S')→ν.length=S.n→den P Fin Ag ν (aLe evs t) →
 ∃ ds:Nu,den P Fin Ag (ν++ds) t∧(ν++ds).length=S'.n∧∀ e∈evs,EvOK P (ν++ds) e
 | [],S,evs,S',ν,t,h,hν,hd=>by
  simp only[aDo,Option.some.injEq,Prod.mk.injEq] at h;obtain⟨rfl,rfl⟩:=h;exact⟨[],by simpa[aLe] using hd,by simpa using hν,fun e he=>by simp at he⟩
 | o::l,S,evs,S',ν,t,h,hν,hd=>by
  simp only[aDo] at h;split at h
  · simp at h
  rename_i e he;split at h
  · simp at h
  rename_i evs' S'' hc;simp only[Option.some.injEq,Prod.mk.injEq] at h;obtain⟨rfl,rfl⟩:=h;obtain⟨hin,_,_⟩:=aCe he;simp only[aLe] at hd;obtain⟨ds1,h1,h2,h3⟩:=aDT hin hν hd;obtain⟨ds2,g1,g2,g3⟩:=aHk l e.S' evs' S'' (ν++ds1) t hc h1 h2;refine⟨ds1++ds2,by rw[←List.append_assoc]; exact g1,by rw[←List.append_assoc]; exact g2,fun e' he'=>?_⟩;rw[←List.append_assoc];rcases List.mem_cons.1 he' with rfl | he'
  · exact h3 ds2
  · exact g3 e' he'
def aEo (T:Tab) (ops:Array Oper):List Oper→St→List Ev→St→Prop
 | [],S,[],S'=>S=S'
 | o::l,S,e::es,S'=>(∃ K,aGh T K ops o S=some e)∧aEo T ops l e.S' es S'
 | _,_,_,_=>False
theorem aJy {K:List (Nat×Bool)} : ∀ (l:List Oper) (S:St) (evs:List Ev) (S':St),aDo T K ops l S=some (evs,S')→aEo T ops l S evs S'
 | [],S,evs,S',h=>by
  simp only[aDo,Option.some.injEq,Prod.mk.injEq] at h;obtain⟨rfl,rfl⟩:=h;rfl
 | o::l,S,evs,S',h=>by
  simp only[aDo] at h;split at h
  · simp at h
  rename_i e he;split at h
  · simp at h
  rename_i evs' S'' hc;simp only[Option.some.injEq,Prod.mk.injEq] at h;obtain⟨rfl,rfl⟩:=h;exact⟨⟨K,he⟩,aJy l e.S' evs' S'' hc⟩
theorem aG7 {S0:St} {k:St→Tr} {fk:List Nat} : ∀ (l:List Oper) (S:St) (acc:List Ev) (ν:Nu),ν.length=S.n→den P Fin Ag ν (aIG T ops S0 k fk l S acc) →
 ∃ (es:List Ev) (S':St) (ds:Nu),aEo T ops l S es S'∧(S0.ok&&okD ops (acc++es))=true∧den P Fin Ag (ν++ds) (k S')∧(ν++ds).length=S'.n∧∀ e∈es,EvOK P (ν++ds) e
 | [],S,acc,ν,hν,hd=>by
  simp only[aIG] at hd;cases hb:S0.ok&&okD ops acc
  · rw[hb] at hd; simp[den] at hd
  rw[hb] at hd;simp only[cond_true] at hd;exact⟨[],S,[],rfl,by simpa using hb,by simpa using hd,by simpa using hν,fun e he=>by simp at he⟩
 | o::l,S,acc,ν,hν,hd=>by
  simp only[aIG] at hd;split at hd
  · simp[den] at hd
  rename_i e he;obtain⟨hin,_,_⟩:=aJ8 he
  have go : ∀ (K:List (Nat×Bool)) (ds1:Nu),(ν++ds1).length=e.S'.n→(∀ ds2,EvOK P (ν++ds1++ds2) (knE K o.dst S.n e))→den P Fin Ag (ν++ds1) (aIG T ops S0 k fk l (knE K o.dst S.n e).S' (acc++[knE K o.dst S.n e])) →
   ∃ (es:List Ev) (S':St) (ds:Nu),aEo T ops (o::l) S es S'∧(S0.ok&&okD ops (acc++es))=true∧den P Fin Ag (ν++ds) (k S')∧(ν++ds).length=S'.n∧∀ e∈es,EvOK P (ν++ds) e:=fun K ds1 hlen hE hd=>by
   have hstep:aGh T K ops o S=some (knE K o.dst S.n e):=by simp only[aGh,he]
   have hn:(knE K o.dst S.n e).S'.n=e.S'.n:=by
    rcases aKF K o.dst S.n e with hk | ⟨d,b,x,_,_,_,_,hk⟩ <;> rw[hk]
   obtain⟨es,S',ds2,h1,h2,h3,h4,h5⟩:=aG7 l _ _ (ν++ds1) (by rw[hn]; exact hlen) hd;refine⟨knE K o.dst S.n e::es,S',ds1++ds2,⟨⟨K,hstep⟩,h1⟩,by simpa using h2,by rw[←List.append_assoc]; exact h3,by rw[←List.append_assoc]; exact h4,fun e' he'=>?_⟩;rw[←List.append_assoc];rcases List.mem_cons.1 he' with rfl | he'
   · exact hE ds2
   · exact h5 e' he'
  split at hd
  · rename_i x hx;obtain⟨ds1,g1,g2,g3⟩:=aDT hin hν hd;simp only[den] at g2
    have hxe:e.v = .b x∧x.ok S.n=true:=by
     unfold aVr at hx;split at hx
     · rename_i d y hd0 hv
       have:=aAp hx
       subst this;cases hb:aNN d fk&&aA7 e.g&&y.ok S.n && !aPI y
       · rw[hb] at hx; simp at hx
       simp only[Bool.and_eq_true] at hb;exact⟨hv,hb.1.2⟩
     · simp at hx
    have hE : ∀ b,denB (ν++ds1) x=b→∀ ds2,EvOK P (ν++ds1++ds2) (knE [(o.dst.getD 0,b)] o.dst S.n e):=fun b hb ds2=>by
     have h0:=g3 ds2;rcases aKF [(o.dst.getD 0,b)] o.dst S.n e with hk | ⟨d,b',y,hd',hv,hge,_,hk⟩
     · rw[hk]; exact h0
     · rw[hk];rw[hxe.1] at hv;simp only[LV.b.injEq] at hv;subst hv
       have hbb:b'=b:=by
        have hk':=congrArg Ev.v hk;rw[hd'] at hk';simp only[knE,Option.getD_some,aQL,Nat.beq_refl,cond_true,hxe.1,hxe.2,hge,aA7,Bool.and_self,LV.b.injEq,E.bool.injEq] at hk';exact hk'.symm
       subst hbb;refine⟨fun hg n hn=>?_,h0.call,h0.dc⟩;rcases List.mem_cons.1 hn with rfl | hn
       · have e1:denB (ν++ds1++ds2) x=b':=by
          rw[List.append_assoc,aCD ν _ x (by rw[hν]; exact hxe.2),←aCD ν ds1 x (by rw[hν]; exact hxe.2)];exact hb
         cases b' <;> simp only[aK6,cond_true,cond_false,denN,denI,e1,if_true,Bool.false_eq_true,if_false] <;> exact Int.le_refl _
       · exact h0.ns hg n hn
    cases hb:denB (ν++ds1) x
    · exact go _ ds1 g1 (hE false hb) (g2.2 hb)
    · exact go _ ds1 g1 (hE true hb) (g2.1 hb)
  · obtain⟨ds1,g1,g2,g3⟩:=aDT hin hν hd
    have hk:knE [] o.dst S.n e=e:=by
     unfold knE;cases o.dst <;> simp[aQL]
    exact go [] ds1 g1 (by rw[hk]; exact g3) (by rw[hk]; exact g2)
theorem aKz : ∀ (l:List Oper) (S:St) (evs:List Ev) (S':St),aEo T ops l S evs S' →
 ∃ (s:Nat→St) (ev:Nat→Ev),s 0=S∧s l.length=S'∧evs.length=l.length∧(∀ i e,evs[i]? = some e→ev i=e)∧∀ i o,l[i]? = some o→(∃ K,aGh T K ops o (s i)=some (ev i))∧s (i+1)=(ev i).S'
 | [],S,[],S',h=>by
  simp only[aEo] at h;subst h;exact⟨fun _=>S,fun _=>⟨.bool false,[],none,none,.junk,none,[],0,S⟩,rfl,rfl,rfl,fun i e h=>by simp at h,fun i o h=>by simp at h⟩
 | o::l,S,e::evs',S',h=>by
  simp only[aEo] at h;obtain⟨he,hc⟩:=h;obtain⟨s,ev,h1,h2,h3,h4,h5⟩:=aKz l e.S' evs' S' hc
  refine⟨fun i=>match i with | 0=>S | i+1=>s i,fun i=>match i with | 0=>e | i+1=>ev i,rfl,by simpa using h2,by simp[h3],fun i e' hi=>?_,fun i o' hi=>?_⟩
  · cases i with
    | zero=>simpa using hi
    | succ i=>exact h4 i e' (by simpa using hi)
  · cases i with
    | zero =>
     simp only[List.getElem?_cons_zero,Option.some.injEq] at hi;subst hi;exact⟨he,h1⟩
    | succ i=>exact h5 i o' (by simpa using hi)
 | [],_,_::_,_,h=>by simp[aEo] at h
 | _::_,_,[],_,h=>by simp[aEo] at h
theorem aF5 {ν:Nu} {S:St} {σ:List Pl} {a:Act} {w:World} (hR:Rel w0 X ν S σ a w) {i:Nat} (h:getO S.L i=some ⟨0,.hole⟩):σ[i]? = some ⟨0,none,0⟩:=by
 have hi:i<σ.length:=by rw[hR.len]; exact aG4 _ _ _ h
 have h1:=hR.L i _ σ[i] h (by simp[hi])
 have:σ[i]=⟨0,none,0⟩:=by simpa only[OR] using h1.2
 rw[List.getElem?_eq_getElem hi,this]
theorem aK0 {o:Oper} {F F':List LV} (h : ∀ t∈o.looksAt ops,getL F t=getL F' t):aGb ops F o.guard=aGb ops F' o.guard:=by
 unfold aGb
 cases hg:o.guard with
 | none=>rfl
 | some gw =>
  obtain⟨j,want⟩:=gw;simp only
  cases hd:(ops[j]?).bind (·.dst) with
  | none=>rfl
  | some d =>
   have:=h d (by simp[Oper.looksAt,hg,hd])
   simp only[this]
theorem aP1 {o:Oper} {S S':St} (h : ∀ t∈o.looksAt ops,getL S.F t=getL S'.F t) {x:Operand} (hx:x∈o.op.operands):S.ev x=S'.ev x:=by
 cases x with
 | tmp t=>exact h t (List.mem_append_left _ (List.mem_filterMap.2 ⟨.tmp t,by simpa using hx,rfl⟩))
 | _=>rfl
theorem aHp {ρ:Operand→LV} {x:Operand} {id:Nat} (h:(ρ x).id? = some id) : ∀ {l:List Operand},x∈l→id∈aHx ρ l
 | y::l,hx=>by
  simp only[aHx];rcases List.mem_cons.1 hx with rfl | hx
  · rw[h]; simp
  · have:=aHp h hx
    split
    · exact List.mem_cons_of_mem _ this
    · exact this
theorem aFD {ρ:Operand→LV} {op:Op} {x:Operand} {id:Nat} (h:(ρ x).id? = some id) (hx:x∈lookO op) (hm : ∀ y,op≠.move y∧op≠.assign y):id∈aFR ρ op:=by
 have:=aHp h hx
 cases op <;> first | exact this | exact absurd rfl (hm _).1 | exact absurd rfl (hm _).2
theorem aKA {ν:Nu} {w:World} {σ:List Pl} {g:E} {v:LV} {r:Value} (hg:denB ν g=true) (h:LR ν w X σ v r):LR ν w X σ (gv g v) r:=by
 unfold gv;cases aA7 g
 · simp only[cond_false,LR];exact⟨fun _=>h,fun h'=>by rw[hg] at h'; simp at h'⟩
 · exact h
theorem aDC {g:E} (h:aA7 g=true):g = .bool true:=by
 unfold aA7 at h;split at h
 · rfl
 · simp at h
theorem aQU {ν:Nu} {w:World} {σ:List Pl} {g:E} {v:LV} (hg:denB ν g=false):LR ν w X σ (gv g v) undef:=by
 unfold gv;cases hb:aA7 g
 · simp only[cond_false,LR];exact⟨fun h'=>by rw[hg] at h'; simp at h',fun _=>trivial⟩
 · rw[aDC hb] at hg;simp[denB] at hg
theorem CallOK.ent {md:Md} {f:FuncId} {as_:List DV} {res:DV} (h:CallOK P (some md) f as_ res):aBU P f:=h.1
theorem aRP {v:LV} (h:aEU v=true):v.id? = none:=by
 cases v <;> first | rfl | simp[aEU,LV.shut] at h
theorem aPi {ν:Nu} {S:St} {σ:List Pl} {a:Act} {w:World} (hR:Rel w0 X ν S σ a w) {vs:List LV} {rs:List Value} {o:Oper} {f:FuncId} (hexec:(execOp a.eval o).run P w=(callFunc f rs.toArray).run P w) (hl:LRs ν w X σ vs rs)
 {get:Nat→Option Ob} (hk : ∀ v∈vs,∀ id,v.id? = some id→aBh ν w X σ get id) {as_:List LV} {ns:List Need} (hs:aA0 get vs=some (as_,ns)) {sh:LV} (hsh:aBF sh=true) (hfl:(vs.any isRs && !aCx sh)=false)
 (hn:aAZ ν ns) (hF:FnC P f (aAX ν as_) (dvOf ν sh)) {K:Act→World→Prop} {Q:Exit→Act→World→Prop}
 (hK : ∀ (r:Value) (w':World),Rel w0 X ν S σ a w'→LR ν w' X σ sh r→K (a.put o.dst r) w'):o.wp P a w K Q:=by
 have hd:=fun (Y:Nat→Prop) hY hY2=>aHt (Y:=Y) hY hs hl hk hn hY2
 have hlow : ∀ b,Exc X σ b→b<w.heap.size:=fun b hb=>by
  rcases hb with hb | hb
  · exact Nat.lt_of_lt_of_le (hR.ex b hb).1 hR.old.size
  · exact (hR.own b hb).2
 have key : ∀ (Y:Nat→Prop),(∀ b,Y b→b<w.heap.size)→DVRs w Y (aAX ν as_) rs→(aCx sh=true∨Y=Exc X σ)→o.wp P a w K Q:=fun Y hY hD hfr=>by
  refine (hF w Y _ (hR.glo.kept hR.old) hY hD).wp hexec ?_;rintro e w' ⟨v,rfl,hv,hb⟩;refine⟨v,rfl,?_⟩;exact hK v w' (hR.turn (Turn.of_below hb)) (aMG hsh hfr hv)
 cases hany:vs.any isRs
 · exact key _ hlow (hd _ (fun b hb=>hb) (fun v hv=>.inl (Bool.eq_false_iff.2 (List.any_eq_false.1 hany v hv)))) (.inr rfl)
 · rw[hany] at hfl;exact key (fun _=>False) (fun b hb=>hb.elim) (hd _ (fun b hb=>hb.elim) (fun v hv=>.inr fun _ _ b _ _ _ _ hb=>hb)) (.inl (by simpa using hfl))
theorem aOg {ν:Nu} {S:St} {σ:List Pl} {a:Act} {w:World} (hR:Rel w0 X ν S σ a w) {vs:List LV} {rs:List Value} {o:Oper} {f:FuncId} (hexec:(execOp a.eval o).run P w=(callFunc f rs.toArray).run P w) (hl:LRs ν w X σ vs rs)
 {get:Nat→Option Ob} (hk : ∀ v∈vs,∀ id,v.id? = some id→aBh ν w X σ get id) {as_:List LV} {ns:List Need} (hs:aA0 get vs=some (as_,ns)) {sh:LV} (hsh:aBF sh=true) {i:Nat} {ob:Ob} (hf:frz get vs=some (i,ob))
 (hn:aAZ ν ns) (hF:FnC P f (aAX ν as_) (dvOf ν sh)) {K:Act→World→Prop} {Q:Exit→Act→World→Prop}
 (hK : ∀ (σ':List Pl) (r:Value) (w':World),Rel w0 X ν { S with L:=setO S.L i ob } σ' a w'→LR ν w' X σ' sh r→K (a.put o.dst r) w'):o.wp P a w K Q:=by
 obtain⟨σ',hR',hD⟩ : ∃ σ',Rel w0 X ν { S with L:=setO S.L i ob } σ' a w∧DVRs w (Exc X σ') (aAX ν as_) rs:=⟨_,aI6 hR hs hl hk hn hf⟩
 have hlow : ∀ b,Exc X σ' b→b<w.heap.size:=fun b hb=>by
  rcases hb with hb | hb
  · exact Nat.lt_of_lt_of_le (hR'.ex b hb).1 hR'.old.size
  · exact (hR'.own b hb).2
 refine (hF w _ _ (hR.glo.kept hR.old) hlow hD).wp hexec ?_;rintro e w' ⟨v,rfl,hv,hb⟩;refine⟨v,rfl,?_⟩;exact hK σ' v w' (hR'.turn (Turn.of_below hb)) (aMG hsh (.inr rfl) hv)
theorem aO5 {α:Type} {c:Bool} {x:Option α} {y:α} (h:(bif c then x else none)=some y):x=some y:=by
 cases c
 · simp at h
 · exact h
theorem aNL (hT:TOK P T) {ν:Nu} {S:St} {σ:List Pl} {a:Act} {w:World} (hR:Rel w0 X ν S σ a w) {ρ:Operand→LV} {get:Nat→Option Ob} {fresh:Nat} {o:Oper} {ns:List Need} {d:DC} (hl:aNB T ρ get fresh o.op=some (ns,d)) (hn:aAZ ν ns)
 (hρ : ∀ x∈o.op.operands,LR ν w X σ (ρ x) (a.eval x)) (hk : ∀ x∈o.op.operands,∀ id,(ρ x).id? = some id→aBh ν w X σ get id) {m:Nat} (hm:Nu.at ν m = .l (aBo ν d)) :
 ∃ r w',(execOp a.eval o).run P w = .ok (.value r) w'∧Turn none w w'∧LR ν w' X σ (.vs (.var m)) r:=by
 have hop' : ∃ t len parts,o.op = .buildSlice t len parts:=by
  unfold aNB at hl;split at hl
  · rename_i t len parts heq;exact⟨t,len,parts,heq⟩
  · simp at hl
 obtain⟨t,len,parts,ho⟩:=hop';rw[ho] at hl;simp only[aNB] at hl;split at hl
 rotate_left
 · simp at hl
 rename_i ns' v0 d' of vf hop;simp only[Option.some.injEq,Prod.mk.injEq] at hl;obtain⟨rfl,rfl⟩:=hl
 exact aUM hT ho hop hm hn (fun p hp=>hρ p.2 (by
  rw[ho];simp only[Op.operands];simp only[List.mem_toArray,List.mem_map];exact⟨p,hp,rfl⟩)) (fun b hb=>(hR.own b hb).2) (fun b hb=>Nat.lt_of_lt_of_le (hR.ex b hb).1 hR.old.size)
theorem aHY (hT:TOK P T) {ν:Nu} {S Si:St} {σ:List Pl} {a:Act} {w:World} {o:Oper} {e:Ev} (hR:Rel w0 X ν S σ a w) (hst:aF6 T ops o Si=some e) (hE:EvOK P ν e)
 (hsl : ∀ t∈o.looksAt ops,getL S.F t=getL Si.F t) (hob : ∀ id∈e.touch,∀ ob,getO Si.L id=some ob→getO S.L id=some ob) (hfr : ∀ ob,e.up=some (Si.L.length,ob)→getO S.L Si.L.length=some ⟨0,.hole⟩)
 {K:Act→World→Prop} {Q:Exit→Act→World→Prop}
 (hK : ∀ (S':St) (σ':List Pl) (r:Value) (w':World),(S'.F=(S.put o.dst e.v).F∧S'.G=S.G)→S'.L=(match e.up with | none=>S.L | some (j,ob)=>setO S.L j ob)→Rel w0 X ν S' σ' (a.put o.dst r) w'→K (a.put o.dst r) w') :
 if Region.wanted o (yielded ops a.tmps)=true then o.wp P a w K Q else K (a.put o.dst undef) w:=by
 have lu:LR ν w X σ (.tup []) undef:=by
  simp only[LR];exact⟨#[],rfl,by simp[LRs]⟩
 unfold aF6 at hst;rw[←aK0 hsl] at hst;split at hst
 · simp at hst
 · rename_i hg;simp only[Option.some.injEq] at hst;subst hst;rw[aDQ hR hg];simp only[denB,Bool.false_eq_true,if_false];exact hK _ _ _ _ ⟨rfl,aDv _ _ _⟩ (aCu _ _ _) (hR.put o.dst lu)
 rename_i g _ hg;cases hgo:g.ok Si.n
 · rw[hgo] at hst; simp at hst
 rw[hgo] at hst;simp only[cond_true] at hst;rw[aDQ hR hg]
 have hρ : ∀ x∈o.op.operands,denB ν g=true→LR ν w X σ (aBw g (Si.ev x)) (a.eval x):=fun x hx hgt=>by
  rw[←aP1 hsl hx];exact aCz hgt (aCv hR.F x)
 unfold evOp at hst;split at hst
 · rename_i f args hc
   have hnm : ∀ y,o.op≠.move y∧o.op≠.assign y:=fun y=>by
    constructor <;> (intro e; rw[e] at hc; simp[aDz] at hc)
   have hkn:denB ν g=true→aFR (fun x=>aBw g (Si.ev x)) o.op=e.touch→∀ v∈args,∀ id,v.id? = some id→aBh ν w X σ (getO Si.L) id:=fun hgt ht v hv id hid=>by
    obtain⟨y,as0,tys,hop,hy⟩:=aKS hc
    have go : ∀ x∈as0.toList,v=aBw g (Si.ev x)→aBh ν w X σ (getO Si.L) id:=fun x hx hv=>by
     subst hv
     have hxo:x∈o.op.operands:=by
      rw[hop];simp only[Op.operands,Call.operands,Array.mem_append];exact .inr (by simpa using hx)
     have lx:=hρ x hxo hgt;exact fun ob h=>aBx hR id (aB2 lx hid) ob (hob id (by rw[←ht]; exact aFD (ρ:=fun x=>aBw g (Si.ev x)) hid (by rw[hop] at hxo ⊢; simpa using hxo) hnm) ob h)
    rcases hy with ⟨_,rfl⟩ | ⟨caps,hcs,_,rfl⟩
    · obtain⟨x,hx,rfl⟩:=List.mem_map.1 hv;exact go x hx rfl
    · rcases List.mem_append.1 hv with hv | hv
      · obtain⟨x,hx,rfl⟩:=List.mem_map.1 hv;exact go x hx rfl
      · have:=aRP (List.all_eq_true.1 hcs v hv)
        rw[this] at hid;simp at hid
   split at hst
   · rename_i M hM;have h':=aAp hst;cases hgi:aA7 g&&Nat.blt M.id Si.L.length&&aAU Si.n M.ns&&LVs.ok Si.n M.as_
     · rw[hgi] at hst; simp at hst
     subst h';simp only[Bool.and_eq_true] at hgi
     have hgt:denB ν g=true:=by rw[aDC hgi.1.1.1]; rfl
     simp only[hgt,if_true];have hF:=hE.call _ _ _ _ _ _ rfl hgt;obtain⟨rs,hl,hexec⟩:=aJI (fun x hx=>hρ x hx hgt) hc hF.ent;exact aJC hR hl (fun _=>hexec) (hkn hgt rfl) hM (hE.ns hgt) hF fun σ' r w' hR' lr=>hK (({ S with L:=setO S.L M.id (M.ob (.var Si.n)) }:St).put o.dst (M.v (.var Si.n))) _ _ _ ⟨by cases o.dst <;> rfl,by cases o.dst <;> rfl⟩ (by cases o.dst <;> rfl) (hR'.put o.dst lr)
   split at hst
   · have h':=aAp hst;cases hgi:aA7 g
     · rw[hgi] at hst; simp at hst
     subst h';exact (aM5 (hE.ns (by rw[aDC hgi]; rfl))).elim
   split at hst
   · rename_i as_ ns sh m hs hsh;cases hb:aAU Si.n ns&&LVs.ok Si.n as_&&sh.ok m
     · rw[hb] at hst; simp at hst
     rw[hb] at hst;simp only[cond_true] at hst;cases hfz:args.any isRs && !aCx sh
     · rw[hfz] at hst;simp only[cond_false,Option.some.injEq] at hst;subst hst;cases hgt:denB ν g
       · simp only[Bool.false_eq_true,if_false];exact hK _ _ _ _ ⟨rfl,aDv _ _ _⟩ (aCu _ _ _) (hR.put o.dst (aQU hgt))
       · simp only[if_true];have hF:=hE.call _ _ _ _ _ _ rfl hgt;obtain⟨rs,hl,hexec⟩:=aC4 (P:=P) (fun x hx=>hρ x hx hgt) hc;exact aPi hR hexec hl (get:=getO Si.L) (hkn hgt rfl) hs (aEY hsh).1 hfz (hE.ns hgt) hF fun r w' hR' lr=>hK _ _ _ _ ⟨rfl,aDv _ _ _⟩ (aCu _ _ _) (hR'.put o.dst (aKA hgt lr))
     · rw[hfz] at hst;simp only[cond_true] at hst;split at hst
       · rename_i i ob hf;have h':=aAp hst;cases hgi:aA7 g&&Nat.blt i Si.L.length
         · rw[hgi] at hst; simp at hst
         subst h';simp only[Bool.and_eq_true] at hgi
         have hgt:denB ν g=true:=by rw[aDC hgi.1]; rfl
         simp only[hgt,if_true];have hF:=hE.call _ _ _ _ _ _ rfl hgt;obtain⟨rs,hl,hexec⟩:=aC4 (P:=P) (fun x hx=>hρ x hx hgt) hc
         exact aOg hR hexec hl (get:=getO Si.L) (hkn hgt rfl) hs (aEY hsh).1 hf (hE.ns hgt) hF fun σ' r w' hR' lr=>hK { ({ S with L:=setO S.L i ob }:St).put o.dst sh with n:=S.n } _ _ _ ⟨by cases o.dst <;> rfl,by cases o.dst <;> rfl⟩ (by cases o.dst <;> rfl) (by
          have:=hR'.put o.dst lr
          cases hd:o.dst <;> rw[hd] at this <;> exact this)
       · simp at hst
   · simp at hst
 · rename_i hc;split at hst
   · rename_i c x y hp;split at hst
     · rename_i t ht;split at hst
       · rename_i v hv;simp only[Option.some.injEq] at hst;subst hst;obtain⟨dst,op,type,pos,after,guard⟩:=o
         have hop:op = .pick c x y:=by
          simp only[aH2] at hp;split at hp
          · simp only[Option.some.injEq,Prod.mk.injEq] at hp;obtain⟨rfl,rfl,rfl⟩:=hp;rfl
          · simp at hp
         subst hop;cases hgt:denB ν g
         · simp only[Bool.false_eq_true,if_false];exact hK _ _ _ _ ⟨rfl,aDv _ _ _⟩ (aCu _ _ _) (hR.put dst (aQU hgt))
         · simp only[if_true]
           have mem : ∀ z,z=c∨z=x∨z=y→z∈(Op.pick c x y).operands:=fun z hz=>by simpa[Op.operands] using hz
           have lc:=hρ c (mem c (.inl rfl)) hgt;rw[ht] at lc;simp only[LR] at lc
           have el : ∀ z,z=c∨z=x∨z=y→LR ν w X σ (Si.ev z) (a.eval z):=fun z hz=>by
            rw[←aP1 hsl (mem z hz)];exact aCv hR.F z
           have lv:=aOd hv (fun ht=>aCz (by rw[aFp,hgt,ht]; rfl) (el x (.inr (.inl rfl)))) (fun hf=>aCz (by rw[aFp,aBO,hgt,hf]; rfl) (el y (.inr (.inr rfl))))
           refine aCn (n:=.value (if denB ν t=true then a.eval x else a.eval y)) ?_ (.inl rfl) (hK _ _ _ _ ⟨rfl,aDv _ _ _⟩ (aCu _ _ _) (hR.put dst (aKA hgt lv)))
           simp only[execOp,Sem.run_bind,lc,asBool,Sem.run_pure,Result.andThen_ok]
       · simp at hst
     · simp at hst
   · split at hst
     · rename_i ns d hlit;have h':=aAp hst;cases hb:aAU Si.n ns&&d.ok Si.n
       · rw[hb] at hst; simp at hst
       subst h';cases hgt:denB ν g
       · simp only[Bool.false_eq_true,if_false];exact hK _ _ _ _ ⟨rfl,aDv _ _ _⟩ (aCu _ _ _) (hR.put o.dst (aQU hgt))
       · simp only[if_true]
         have hnm : ∀ y,o.op≠.move y∧o.op≠.assign y:=fun y=>by
          constructor <;> (intro e; rw[e] at hlit; cases hcl:T.cl <;> simp[hcl,aNB] at hlit)
         have hlk : ∀ x∈o.op.operands,x∈lookO o.op:=fun x hx=>by
          cases hop:o.op <;> rw[hop] at hlit hx <;> first | (simpa using hx) | (exfalso; cases hcl:T.cl <;> simp[hcl,aNB] at hlit)
         have hk : ∀ x∈o.op.operands,∀ id,(aBw g (Si.ev x)).id? = some id→aBh ν w X σ (getO Si.L) id:=fun x hx id hid ob h =>
          aBx hR id (aB2 (hρ x hx hgt) hid) ob (hob id (aFD (ρ:=fun x=>aBw g (Si.ev x)) hid (hlk x hx) hnm) ob h)
         obtain⟨r,w',hr,ht,lr⟩:=aNL hT hR (aO5 hlit) (hE.ns hgt) (fun x hx=>hρ x hx hgt) hk (hE.dc rfl d rfl);exact aCn hr (.inl rfl) (hK _ _ _ _ ⟨rfl,aDv _ _ _⟩ (aCu _ _ _) ((hR.turn ht).put o.dst (aKA hgt lr)))
     split at hst
     rotate_left
     · simp at hst
     rename_i ns v eff hop;split at hst
     rotate_left
     · simp at hst
     rename_i v' up dc m hEf;have h':=aAp hst;cases hb:aAU Si.n ns
     · rw[hb] at hst; simp at hst
     subst h';cases hgt:denB ν g
     · simp only[Bool.false_eq_true,if_false]
       have hnt:aA7 g=false:=by
        cases hb:aA7 g
        · rfl
        · rw[aDC hb] at hgt; simp[denB] at hgt
       unfold effD at hEf;split at hEf
       · simp only[Option.some.injEq,Prod.mk.injEq] at hEf;obtain⟨rfl,rfl,rfl,rfl⟩:=hEf;exact hK _ _ _ _ ⟨rfl,aDv _ _ _⟩ (aCu _ _ _) (hR.put o.dst (aQU hgt))
       all_goals
        rw[hnt] at hEf;simp at hEf
     simp only[if_true];have hns:=hE.ns hgt;simp only at hns;by_cases hmv : ∃ y,o.op = .move y∨o.op = .assign y
     · obtain⟨y,hy⟩:=hmv
       have ho:aAx T (fun x=>aBw g (Si.ev x)) (getO Si.L) Si.L.length o.op=some ⟨[],aBw g (Si.ev y),.no⟩:=by
        rcases hy with hy | hy <;> rw[hy] <;> rfl
       rw[ho] at hop;simp only[Option.some.injEq,Out.mk.injEq] at hop;obtain⟨rfl,rfl,rfl⟩:=hop;simp only[effD,Option.some.injEq,Prod.mk.injEq] at hEf;obtain⟨rfl,rfl,rfl,rfl⟩:=hEf;have ly:=hρ y (by rcases hy with hy | hy <;> rw[hy] <;> simp[Op.operands]) hgt;refine aCn (n:=.value (a.eval y)) ?_ (.inl rfl) (hK _ _ _ _ ⟨rfl,aDv _ _ _⟩ (aCu _ _ _) (hR.put o.dst (aKA hgt ly)));rcases hy with hy | hy
       · simp only[execOp,hy,Sem.run_pure]
       · simp only[execOp,hy,Sem.run_pure]
     have hnm : ∀ y,o.op≠.move y∧o.op≠.assign y:=fun y=>⟨fun e=>hmv ⟨y,.inl e⟩,fun e=>hmv ⟨y,.inr e⟩⟩
     have hlo : ∀ x∈lookO o.op,x∈o.op.operands:=fun x hx=>by
      cases hop:o.op <;> rw[hop] at hx <;> first | (simpa using hx) | (simp only[lookO,List.mem_singleton] at hx; subst hx; simp[Op.operands])
     have hk : ∀ x∈lookO o.op,∀ id,(aBw g (Si.ev x)).id? = some id→aBh ν w X σ (getO Si.L) id:=fun x hx id hid ob h =>
      aBx hR id (aB2 (hρ x (hlo x hx) hgt) hid) ob (hob id (aFD (ρ:=fun x=>aBw g (Si.ev x)) hid hx hnm) ob h)
     have hown : ∀ b,Own σ b→b<w.heap.size:=fun b hb=>(hR.own b hb).2;have hS:=aTQ hT (val:=a.eval) hop hns (fun x hx=>hρ x hx hgt) hk hown hR.freeP;have hdc:=fun d (hd:dc=some d)=>hE.dc rfl d hd;simp only at hdc
     cases eff with
     | no =>
      simp only[effD,Option.some.injEq,Prod.mk.injEq] at hEf;obtain⟨rfl,rfl,rfl,rfl⟩:=hEf;obtain⟨r,hr,lr⟩:=aQl hT o hop rfl (fun x hx=>hρ x hx hgt) hk hns;exact aCn hr (.inl rfl) (hK _ _ _ _ ⟨rfl,aDv _ _ _⟩ (aCu _ _ _) (hR.put o.dst (aKA hgt lr)))
     | new ob =>
      simp only[effD] at hEf;have h':=aAp hEf;simp only[Prod.mk.injEq] at h';obtain⟨rfl,rfl,rfl,rfl⟩:=h';exact aCK hR (hS (aF5 hR (hfr _ rfl))) fun σ' r w' hR' lr=>hK _ _ _ _ ⟨by cases o.dst <;> rfl,by cases o.dst <;> rfl⟩ (aCu _ _ _) (hR'.put o.dst lr)
     | upd i ob =>
      simp only[effD] at hEf;have h':=aAp hEf;simp only[Prod.mk.injEq] at h';obtain⟨rfl,rfl,rfl,rfl⟩:=h';exact aCK hR hS fun σ' r w' hR' lr=>hK _ _ _ _ ⟨by cases o.dst <;> rfl,by cases o.dst <;> rfl⟩ (aCu _ _ _) (hR'.put o.dst lr)
     | newc d ob vf =>
      simp only[effD] at hEf;have h':=aAp hEf;simp only[Prod.mk.injEq] at h';obtain⟨rfl,rfl,rfl,rfl⟩:=h';exact aCK hR (hS Si.n (hdc d rfl) (aF5 hR (hfr _ rfl))) fun σ' r w' hR' lr=>hK _ _ _ _ ⟨by cases o.dst <;> rfl,by cases o.dst <;> rfl⟩ (aCu _ _ _) (hR'.put o.dst lr)
     | updc d i ob vf =>
      simp only[effD] at hEf;have h':=aAp hEf;simp only[Prod.mk.injEq] at h';obtain⟨rfl,rfl,rfl,rfl⟩:=h';exact aCK hR (hS Si.n (hdc d rfl)) fun σ' r w' hR' lr=>hK _ _ _ _ ⟨by cases o.dst <;> rfl,by cases o.dst <;> rfl⟩ (aCu _ _ _) (hR'.put o.dst lr)
end
end
end Go.Proofs.YtcdeimjlgpfjiaaGreatDoor
