/- A symbolic run of Go code, seventeenth part: calls, guarded operations, regions in the order of the text. No condition. -/
import Derived.Test.YtcdeimjlgpfjiaaGreatDoorG05
set_option linter.unusedSimpArgs false
set_option linter.unusedVariables false
namespace Go.Proofs.YtcdeimjlgpfjiaaGreatDoor
section
open Go.RowKit
section
variable {P:Program} {T:Tab} {w0:Base} {X:Nat→Prop} {Fin:Nu→Ex→St→Prop} {Ag:Nu→Nat→List D→Prop}
mutual
theorem aM0 (ν ds:Nu) : ∀ (v:LV),v.ok ν.length=true→dvOf (ν++ds) v=dvOf ν v
 | .b e,h=>by simp only[dvOf,aCD ν ds e h]
 | .i k e,h=>by simp only[dvOf,aAQ ν ds e h]
 | .s e,h=>by simp only[dvOf,aCf ν ds e h]
 | .k v,h=>rfl
 | .vs c,h=>by simp only[dvOf,aA6 ν ds c h]
 | .o e,h=>by simp only[dvOf,aGG ν ds e h]
 | .vp c i f,h=>by
  simp only[LV.ok,Bool.and_eq_true] at h;simp only[dvOf,aA6 ν ds c h.1,aAQ ν ds i h.2]
 | .fn f cs,h=>by simp only[dvOf,aDw ν ds cs h]
 | .nl _ _,h=>rfl
 | .mp _ _,h=>rfl
 | .ifc _ _,h=>rfl
 | .agg cs,h=>by simp only[dvOf,aD1 ν ds cs h]
 | .tup vs,h=>by simp only[dvOf,aDw ν ds vs h]
 | .ptr _ _ _,h=>rfl
 | .rp _ _ _ _,h=>rfl
 | .rs _ _ _ _,h=>rfl
 | .junk,h=>rfl
 | .g _ _,h=>rfl
theorem aDw (ν ds:Nu) : ∀ (vs:List LV),LVs.ok ν.length vs=true→aAX (ν++ds) vs=aAX ν vs
 | [],_=>rfl
 | v::vs,h=>by
  simp only[LVs.ok,Bool.and_eq_true] at h;simp only[aAX,aM0 ν ds v h.1,aDw ν ds vs h.2]
end
theorem aJd {ν:Nu} {S:St} {σ:List Pl} {a:Act} {w:World} (h:Rel w0 X ν S σ a w) : ∀ {vs:List LV} {rs:List Value},LRs ν w X σ vs rs→∀ v∈vs,∀ id,v.id? = some id→aBh ν w X σ (getO S.L) id
 | [],[],_,v,hv,_,_=>by simp at hv
 | c::cs,r::rs,hl,v,hv,id,hid=>by
  simp only[LRs] at hl;rcases List.mem_cons.1 hv with rfl | hv
  · exact aBx h id (aB2 hl.1 hid)
  · exact aJd h hl.2 v hv id hid
 | [],_::_,hl,_,_,_,_=>by simp only[LRs] at hl
 | _::_,[],hl,_,_,_,_=>by simp only[LRs] at hl
theorem aIJ {ν:Nu} {w:World} {σ:List Pl} {ρ:Operand→LV} {val:Operand→Value} : ∀ (l:List Operand),(∀ x∈l,LR ν w X σ (ρ x) (val x))→LRs ν w X σ (l.map ρ) (l.map val)
 | [],_=>by simp[LRs]
 | x::l,hρ=>by
  simp only[List.map_cons,LRs];exact⟨hρ x (by simp),aIJ l fun y hy=>hρ y (by simp[hy])⟩
theorem aRq {b:Bool} {l:List LV} {v:LV} (h:aHR b l=some v) (hl:l.all LV.shut=true):aCW v=true:=by
 unfold aHR at h;cases b
 · simp only[cond_false] at h;split at h
   · rename_i x;simp only[Option.some.injEq] at h;subst h;simp only[List.all_cons,List.all_nil,Bool.and_true] at hl
     cases x <;> first | exact hl | simp[LV.shut] at hl
   · simp at h
 · simp only[cond_true,Option.some.injEq] at h;subst h;exact hl
theorem aRS {k:Nat} {e:E} {v:LV} (h:lvK k e=some v):v.shut=true:=by
 unfold lvK at h
 split at h <;> first | (simp only[Option.some.injEq] at h; subst h; rfl) | simp at h
theorem aH9 : ∀ (ks:List Nat) (n:Nat) (l:List LV) (m:Nat),aHg ks n=some (l,m)→l.all LV.shut=true∧n≤m
 | [],n,l,m,h=>by
  simp only[aHg,Option.some.injEq,Prod.mk.injEq] at h;obtain⟨rfl,rfl⟩:=h;exact⟨rfl,Nat.le_refl _⟩
 | k::ks,n,l,m,h=>by
  simp only[aHg] at h;split at h
  · rename_i v r m' hv hr;simp only[Option.some.injEq,Prod.mk.injEq] at h;obtain⟨rfl,rfl⟩:=h;obtain⟨h1,h2⟩:=aH9 ks (n+1) r m' hr;simp only[List.all_cons,Bool.and_eq_true];exact⟨⟨aRS hv,h1⟩,by omega⟩
  · simp at h
theorem aJl {t:TypeId} {n m:Nat} {v:LV} (h:aME T t n=some (v,m)):aCW v=true∧n≤m:=by
 unfold aME at h;split at h
 · split at h
   · rename_i l m' hl;split at h
     · rename_i v' hv;simp only[Option.some.injEq,Prod.mk.injEq] at h;obtain⟨rfl,rfl⟩:=h;obtain⟨h1,h2⟩:=aH9 _ _ _ _ hl;exact⟨aRq hv h1,h2⟩
     · simp at h
   · simp at h
 · simp at h
theorem aHZ : ∀ (ts:List TypeId) (n:Nat) (l:List LV) (m:Nat),aGK T ts n=some (l,m)→l.all aCW=true∧n≤m
 | [],n,l,m,h=>by
  simp only[aGK,Option.some.injEq,Prod.mk.injEq] at h;obtain⟨rfl,rfl⟩:=h;exact⟨rfl,Nat.le_refl _⟩
 | t::ts,n,l,m,h=>by
  simp only[aGK] at h;split at h
  · rename_i v n' hv;split at h
    · rename_i r m' hr;simp only[Option.some.injEq,Prod.mk.injEq] at h;obtain⟨rfl,rfl⟩:=h;obtain⟨h1,h2⟩:=aJl hv;obtain⟨h3,h4⟩:=aHZ ts n' r m' hr;simp only[List.all_cons,Bool.and_eq_true];exact⟨⟨h1,h3⟩,by omega⟩
    · simp at h
  · simp at h
theorem aEY {t:TypeId} {n m:Nat} {v:LV} (h:aFZ T t n=some (v,m)):aBF v=true∧n≤m:=by
 unfold aFZ at h;split at h
 · split at h
   · rename_i l m' hl;simp only[Option.some.injEq,Prod.mk.injEq] at h;obtain⟨rfl,rfl⟩:=h;exact aHZ _ _ _ _ hl
   · simp at h
 · obtain⟨h1,h2⟩:=aJl h;refine⟨?_,h2⟩
   cases v <;> first | exact h1 | simp[aCW,LV.shut] at h1
theorem aC4 {ν:Nu} {σ:List Pl} {w:World} {ρ:Operand→LV} {val:Operand→Value} {o:Oper} (hρ : ∀ x∈o.op.operands,LR ν w X σ (ρ x) (val x)) {f:FuncId} {as_:List LV} (ho:aDz ρ o.op=some (f,as_)) :
 ∃ vs:List Value,LRs ν w X σ as_ vs∧(execOp val o).run P w=(callFunc f vs.toArray).run P w:=by
 obtain⟨dst,op,type,pos,after,guard⟩:=o;obtain⟨x,args,tys,hop,hx⟩:=aKS ho;have hop:op = .call ⟨.value x,args,tys⟩:=hop;subst hop
 have hl:=aIJ (ρ:=ρ) (val:=val) args.toList fun y hy=>hρ y (by
  simp only[Op.operands,Call.operands,Array.mem_append];exact .inr (by simpa using hy))
 have lx:=hρ x (by simp[Op.operands,Call.operands])
 have e:(args.map val)=(args.toList.map val).toArray:=by
  apply Array.toList_inj.1
  simp
 rcases hx with ⟨hx,rfl⟩ | ⟨caps,_,hx,rfl⟩
 · rw[hx] at lx;simp only[LR] at lx;refine⟨_,hl,?_⟩;simp only[execOp,Sem.run_bind,resolve,lx,Deferred.ofValue,Sem.run_pure,Result.andThen_ok,invoke,Array.append_empty,Array.empty_append];rw[e]
 · rw[hx] at lx;simp only[LR] at lx;obtain⟨ca,lx,lc⟩:=lx;refine⟨args.toList.map val++ca.toList,aCi hl lc,?_⟩;simp only[execOp,Sem.run_bind,resolve,lx,Deferred.ofValue,Sem.run_pure,Result.andThen_ok,invoke,Array.append_empty,Array.empty_append];rw[e,show (args.toList.map val).toArray++ca=(args.toList.map val++ca.toList).toArray by simp]
theorem aJI {ν:Nu} {σ:List Pl} {w:World} {ρ:Operand→LV} {val:Operand→Value} {o:Oper} (hρ : ∀ x∈o.op.operands,LR ν w X σ (ρ x) (val x)) {f:FuncId} {as_:List LV} (ho:aDz ρ o.op=some (f,as_)) (hent:aBU P f) :
 ∃ vs:List Value,LRs ν w X σ as_ vs∧(execOp val o).run P w = .ok (.enter f vs.toArray) w:=by
 obtain⟨vs,h1,h2⟩:=aC4 (P:=P) hρ ho;exact⟨vs,h1,by rw[h2]; exact hent _ _⟩
theorem aHN {t:TypeId} {k:List Nat} {f:FuncId} (h:aMJ P t k f) (v:Value) (args:Array Value) (w:World):(callMethod (.iface t v) (aDh k) args).run P w=(callFunc f (#[v]++args)).run P w:=by
 obtain⟨⟨e,hu⟩,i,m,hi,hm,hp,hf⟩:=h
 have hme : ∀ n:Nat,(method (n+1) t v (aDh k)).run P w = .ok (f,v) w:=fun n=>by
  simp only[method,Sem.run_bind,typeInfo,hi,hm,hp,hf,follow,receiverAt,Place.get,aAv hu,Result.andThen_ok,Sem.run_pure,run_program]
 have hd : ∃ n,P.types.size+Made.depth=n+1:=⟨P.types.size+(Made.depth - 1),by unfold Made.depth; omega⟩;obtain⟨n,hn⟩:=hd;simp only[callMethod,Sem.run_bind,run_program,Result.andThen_ok,hn,hme]
theorem aOe (hT:TOK P T) {ν:Nu} {σ:List Pl} {w:World} {ρ:Operand→LV} {val:Operand→Value} {o:Oper} (hρ : ∀ x∈o.op.operands,LR ν w X σ (ρ x) (val x)) {f:FuncId} {as_:List LV} (ho:aGR T ρ o.op=some (f,as_)) (hent:aBU P f) :
 ∃ vs:List Value,LRs ν w X σ as_ vs∧(execOp val o).run P w = .ok (.enter f vs.toArray) w:=by
 obtain⟨dst,op,type,pos,after,guard⟩:=o;rcases aNM ho with ⟨x,args,tys,hop,hx⟩ | ⟨x,s,args,tys,t,v,hop,hx,hm,rfl⟩
 · have hop:op = .call ⟨.value x,args,tys⟩:=hop;subst hop
   have hl:=aIJ (ρ:=ρ) (val:=val) args.toList fun y hy=>hρ y (by
    simp only[Op.operands,Call.operands,Array.mem_append];exact .inr (by simpa using hy))
   have lx:=hρ x (by simp[Op.operands,Call.operands])
   have e:(args.map val)=(args.toList.map val).toArray:=by
    apply Array.toList_inj.1
    simp
   rcases hx with ⟨hx,rfl⟩ | ⟨caps,hx,rfl⟩
   · rw[hx] at lx;simp only[LR] at lx;refine⟨_,hl,?_⟩;simp only[execOp,Sem.run_bind,resolve,lx,Deferred.ofValue,Sem.run_pure,Result.andThen_ok,invoke,Array.append_empty,Array.empty_append];rw[e];exact hent _ _
   · rw[hx] at lx;simp only[LR] at lx;obtain⟨ca,lx,lc⟩:=lx;refine⟨args.toList.map val++ca.toList,aCi hl lc,?_⟩;simp only[execOp,Sem.run_bind,resolve,lx,Deferred.ofValue,Sem.run_pure,Result.andThen_ok,invoke,Array.append_empty,Array.empty_append];rw[e,show (args.toList.map val).toArray++ca=(args.toList.map val++ca.toList).toArray by simp];exact hent _ _
 · have hop:op = .call ⟨.invoke x s,args,tys⟩:=hop;subst hop
   have hl:=aIJ (ρ:=ρ) (val:=val) args.toList fun y hy=>hρ y (by
    simp only[Op.operands,Call.operands,Array.mem_append];exact .inr (by simpa using hy))
   have lx:=hρ x (by simp[Op.operands,Call.operands]);rw[hx] at lx;simp only[LR] at lx;obtain⟨u,lx,lu⟩:=lx;obtain⟨k,hk,rfl⟩:=hT.meth hm;refine⟨u::args.toList.map val,by simp only[LRs]; exact⟨lu,hl⟩,?_⟩
   have e1:(#[val x]++args.map val)[0]? = some (.iface t u):=by
    rw[lx,Array.getElem?_append_left (by simp)];rfl
   have e2:(#[val x]++args.map val).extract 1 (#[val x]++args.map val).size=args.map val:=by
    apply Array.toList_inj.1;simp[List.take_of_length_le]
   have e3 : #[u]++args.map val=(u::args.toList.map val).toArray:=by
    apply Array.toList_inj.1
    simp
   simp only[execOp,Sem.run_bind,resolve,Sem.run_pure,Result.andThen_ok,invoke,e1,e2,aHN hk,e3];exact hent _ _
theorem aFJ {ν:Nu} {S:St} {σ:List Pl} {a:Act} {w:World} (hR:Rel w0 X ν S σ a w) {ρ:Operand→LV} (hρ : ∀ x,LR ν w X σ (ρ x) (a.eval x)) {o:Oper} {f:FuncId} {args:List LV} (ho:aDz ρ o.op=some (f,args))
 {as_:List LV} {ns:List Need} (hs:aA0 (getO S.L) args=some (as_,ns)) {sh:LV} {m:Nat} (hsh:aFZ T o.type S.n=some (sh,m)) (hok:S.ok=true) (hfl:(args.any isRs && !aCx sh)=false)
 (hn:aAZ ν ns) {ds:Nu} (hm:S.n+ds.length=m) (hF:FnC P f (aAX ν as_) (dvOf (ν++ds) sh)) {K:Act→World→Prop} {Q:Exit→Act→World→Prop}
 (hK : ∀ (r:Value) (w':World),Rel w0 X (ν++ds) { S with n:=m } σ a w'→LR (ν++ds) w' X σ sh r→K (a.put o.dst r) w'):o.wp P a w K Q:=by
 obtain⟨vs,hl,hexec⟩:=aC4 (P:=P) (fun x _=>hρ x) ho;have hd:=fun (Y:Nat→Prop) hY hY2=>aHt (Y:=Y) hY hs hl (aJd hR hl) hn hY2
 have hlow : ∀ b,Exc X σ b→b<w.heap.size:=fun b hb=>by
  rcases hb with hb | hb
  · exact Nat.lt_of_lt_of_le (hR.ex b hb).1 hR.old.size
  · exact (hR.own b hb).2
 have key : ∀ (Y:Nat→Prop),(∀ b,Y b→b<w.heap.size)→DVRs w Y (aAX ν as_) vs→(aCx sh=true∨Y=Exc X σ)→o.wp P a w K Q:=fun Y hY hD hfr=>by
  refine (hF w Y _ (hR.glo.kept hR.old) hY hD).wp hexec ?_;rintro e w' ⟨v,rfl,hv,hb⟩;have hR1:=(hR.turn (Turn.of_below hb)).more hok ds;rw[hm] at hR1;refine⟨v,rfl,?_⟩;exact hK v w' hR1 (aMG (aEY hsh).1 hfr hv)
 cases hany:args.any isRs
 · exact key _ hlow (hd _ (fun b hb=>hb) (fun v hv=>.inl (Bool.eq_false_iff.2 (List.any_eq_false.1 hany v hv)))) (.inr rfl)
 · rw[hany] at hfl;exact key (fun _=>False) (fun b hb=>hb.elim) (hd _ (fun b hb=>hb.elim) (fun v hv=>.inr fun _ _ b _ _ _ _ hb=>hb)) (.inl (by simpa using hfl))
theorem aGI {ν:Nu} {S:St} {σ:List Pl} {a:Act} {w:World} (hR:Rel w0 X ν S σ a w) {v:LV} {r:Value} (lv:LR ν w X σ v r) {c:E} {ns:List Need} (hc:aA9 (getO S.L) v=some (c,ns)) (hn:aAZ ν ns) {i:Nat} {ob:Ob} (hf:frz (getO S.L) [v]=some (i,ob)) :
 Rel w0 X ν { S with L:=setO S.L i ob } (σ.set i ⟨ob.ver,none,szO ob.o⟩) a w∧LR ν w X (σ.set i ⟨ob.ver,none,szO ob.o⟩) (.vs c) r:=by
 have hsh:aA0 (getO S.L) [v]=some ([.vs c],ns):=by
  have h1:aB3 (getO S.L) v=some (.vs c,ns):=by
   unfold frz at hf
   cases v with
   | rs id ver o n=>simp only[aB3,hc]
   | _=>simp[rsId] at hf
  simp only[aA0,h1,List.append_nil]
 have hl:LRs ν w X σ [v] [r]:=by simp only[LRs]; exact⟨lv,trivial⟩
 obtain⟨hR',hD⟩:=aI6 hR hsh hl (fun v' hv' id hid=>by
  rw[List.mem_singleton.1 hv'] at hid;exact aBx hR id (aB2 lv hid)) hn hf
 refine⟨hR',?_⟩;simp only[aAX,dvOf,DVRs,DVR,and_true] at hD;simpa only[LR] using hD
theorem aVx {get:Nat→Option Ob} {vs:List LV} {i:Nat} {ob:Ob} (hf:frz get vs=some (i,ob)) : ∃ ver c e sz,get i=some ⟨ver,.row c e sz⟩∧ob=⟨ver+1,.row (.str []) e sz⟩:=by
 unfold frz at hf;split at hf
 · split at hf
   · rename_i id _ _ ver c e sz hg;simp only[Option.some.injEq,Prod.mk.injEq] at hf;obtain⟨rfl,rfl⟩:=hf;exact⟨ver,c,e,sz,hg,rfl⟩
   · simp at hf
 · simp at hf
theorem aF0 {ν:Nu} {S:St} {σ:List Pl} {a:Act} {w:World} (hR:Rel w0 X ν S σ a w) {vs:List LV} {i:Nat} {ob:Ob} (hf:frz (getO S.L) vs=some (i,ob)) (hR':Rel w0 X ν { S with L:=setO S.L i ob } (σ.set i ⟨ob.ver,none,szO ob.o⟩) a w) :
 Rel w0 X ν (aDY S i ob) (σ.set i ⟨ob.ver,none,szO ob.o⟩) a w:=by
 obtain⟨ver,c,e,sz,hg,hob⟩:=aVx hf
 have one : ∀ (v:LV) (r:Value),LR ν w X σ v r→LR ν w X (σ.set i ⟨ob.ver,none,szO ob.o⟩) v r→LR ν w X (σ.set i ⟨ob.ver,none,szO ob.o⟩) (fz S.L i v) r:=fun v r h1 h2=>by
  cases v with
  | rs id ver' o n =>
   simp only[fz,hg];cases hb:Nat.beq id i&&Nat.beq ver' ver&&aCF o&&aBH c n
   · exact h2
   · simp only[cond_true];simp only[Bool.and_eq_true] at hb;obtain⟨⟨⟨b1,b2⟩,b3⟩,b4⟩:=hb;obtain rfl:=Nat.eq_of_beq_eq_true b1;obtain rfl:=Nat.eq_of_beq_eq_true b2
     have hc:aA9 (getO S.L) (.rs id ver' o n)=some (c,[]):=by
      simp only[aA9,hg,Nat.beq_refl,cond_true,b3,b4,Bool.and_self]
     have hf':frz (getO S.L) [.rs id ver' o n]=some (id,ob):=by
      simp[frz,rsId,hg,hob]
     exact (aGI hR h1 hc (fun n hn=>by simp at hn) hf').2
  | _=>exact h2
 have all : ∀ (F:List LV) (rs:List Value),LRs ν w X σ F rs→LRs ν w X (σ.set i ⟨ob.ver,none,szO ob.o⟩) F rs→LRs ν w X (σ.set i ⟨ob.ver,none,szO ob.o⟩) (F.map (fz S.L i)) rs:=by
  intro F
  induction F with
  | nil=>intro rs h1 h2; exact h2
  | cons v F ih =>
   intro rs h1 h2
   cases rs with
   | nil=>simp only[LRs] at h1
   | cons r rs =>
    simp only[List.map_cons,LRs] at h1 h2 ⊢;exact⟨one v r h1.1 h2.1,ih rs h1.2 h2.2⟩
 exact { defers:=hR'.defers,F:=all _ _ hR.F hR'.F,len:=hR'.len,L:=hR'.L,inj:=hR'.inj,own:=hR'.own,old:=hR'.old,ex:=hR'.ex,glo:=hR'.glo,n:=hR'.n,G:=hR'.G }
theorem aOy {c n:E} (h:aBH c n=true) : ∃ a,c = .var a∧n = .clen (.var a):=by
 unfold aBH at h;split at h
 · rename_i a b
   have:=Nat.eq_of_beq_eq_true h
   subst this;exact⟨_,rfl,rfl⟩
 · simp at h
theorem aPN {S:St} {vs:List LV} {i:Nat} {ob:Ob} (hf:frz (getO S.L) vs=some (i,ob)) (hok:S.ok=true):(aDY S i ob).ok=true:=by
 simp only[St.ok,Bool.and_eq_true] at hok ⊢;refine⟨?_,aJx _ _ _ _ hok.2.1 (aUF hf _),hok.2.2⟩
 have one : ∀ v:LV,v.ok S.n=true→(fz S.L i v).ok S.n=true:=fun v hv=>by
  unfold fz;split
  · split
    · rename_i id ver o n _ ver' c e sz hg;cases hb:Nat.beq id i&&Nat.beq ver ver'&&aCF o&&aBH c n
      · exact hv
      · simp only[Bool.and_eq_true] at hb;obtain⟨a,rfl,rfl⟩:=aOy hb.2;simp only[LV.ok,E.ok,Bool.and_eq_true] at hv;exact hv.2
    · exact hv
  · exact hv
 have all : ∀ F:List LV,LVs.ok S.n F=true→LVs.ok S.n (F.map (fz S.L i))=true:=by
  intro F
  induction F with
  | nil=>intro h; exact h
  | cons v F ih =>
   intro h;simp only[LVs.ok,Bool.and_eq_true] at h;simp only[List.map_cons,LVs.ok,Bool.and_eq_true];exact⟨one v h.1,ih h.2⟩
 exact all _ hok.1
theorem aQS {ν:Nu} {S:St} {σ:List Pl} {a:Act} {w:World} (hR:Rel w0 X ν S σ a w) {ρ:Operand→LV} (hρ : ∀ x,LR ν w X σ (ρ x) (a.eval x)) {o:Oper} {f:FuncId} {args:List LV} (ho:aDz ρ o.op=some (f,args))
 {as_:List LV} {ns:List Need} (hs:aA0 (getO S.L) args=some (as_,ns)) {sh:LV} {m:Nat} (hsh:aFZ T o.type S.n=some (sh,m)) {i:Nat} {ob:Ob} (hok:S.ok=true) (hf:frz (getO S.L) args=some (i,ob))
 (hn:aAZ ν ns) {ds:Nu} (hm:S.n+ds.length=m) (hF:FnC P f (aAX ν as_) (dvOf (ν++ds) sh)) {K:Act→World→Prop} {Q:Exit→Act→World→Prop}
 (hK : ∀ (σ':List Pl) (r:Value) (w':World),Rel w0 X (ν++ds) { aDY S i ob with n:=m } σ' a w'→LR (ν++ds) w' X σ' sh r→K (a.put o.dst r) w'):o.wp P a w K Q:=by
 obtain⟨vs,hl,hexec⟩:=aC4 (P:=P) (fun x _=>hρ x) ho
 obtain⟨σ',hR',hD⟩ : ∃ σ',Rel w0 X ν (aDY S i ob) σ' a w∧DVRs w (Exc X σ') (aAX ν as_) vs:=by
  obtain⟨h1,h2⟩:=aI6 hR hs hl (aJd hR hl) hn hf;exact⟨_,aF0 hR hf h1,h2⟩
 have hlow : ∀ b,Exc X σ' b→b<w.heap.size:=fun b hb=>by
  rcases hb with hb | hb
  · exact Nat.lt_of_lt_of_le (hR'.ex b hb).1 hR'.old.size
  · exact (hR'.own b hb).2
 refine (hF w _ _ (hR.glo.kept hR.old) hlow hD).wp hexec ?_;rintro e w' ⟨v,rfl,hv,hb⟩;refine⟨v,rfl,?_⟩;have hR1:=(hR'.turn (Turn.of_below hb)).more (aPN hf hok) ds;have hm':(aDY S i ob).n+ds.length=m:=hm;rw[hm'] at hR1;exact hK σ' v w' hR1 (aMG (aEY hsh).1 (.inr rfl) hv)
theorem aJL : ∀ (args:List LV) (j:Nat) {i id ver:Nat} {o n:E},rsAt args j=some (i,id,ver,o,n)→∃ k,i=j+k∧args[k]? = some (.rs id ver o n)∧∀ k' v,args[k']? = some v→k'≠k→isRs v=false
 | [],j,i,id,ver,o,n,h=>by simp[rsAt] at h
 | v::r,j,i,id,ver,o,n,h=>by
  have other:isRs v=false→rsAt r (j+1)=some (i,id,ver,o,n)→∃ k,i=j+k∧(v::r)[k]? = some (.rs id ver o n)∧∀ k' v',(v::r)[k']? = some v'→k'≠k→isRs v'=false:=fun hv hr=>by
   obtain⟨k,rfl,h2,h3⟩:=aJL r (j+1) hr;refine⟨k+1,by omega,by simpa using h2,fun k' v' hk hne=>?_⟩
   cases k' with
   | zero =>
    simp only[List.getElem?_cons_zero,Option.some.injEq] at hk;subst hk;exact hv
   | succ k'=>exact h3 k' v' (by simpa using hk) (by omega)
  cases v with
  | rs id' ver' o' n' =>
   simp only[rsAt] at h;cases hb:r.any isRs
   · rw[hb] at h;simp only[cond_false,Option.some.injEq,Prod.mk.injEq] at h;obtain⟨rfl,rfl,rfl,rfl,rfl⟩:=h;refine⟨0,rfl,rfl,fun k' v' hk hne=>?_⟩
     cases k' with
     | zero=>exact absurd rfl hne
     | succ k'=>exact Bool.eq_false_iff.2 (List.any_eq_false.1 hb v' (List.mem_of_getElem? (by simpa using hk)))
   · rw[hb] at h; simp at h
  | _=>exact other rfl (by simpa[rsAt] using h)
theorem aMi {ν:Nu} {w:World} {σ:List Pl} {get:Nat→Option Ob} {Y:Nat→Prop} (hY : ∀ b,Y b→Exc X σ b) {at_:Option (Nat×Nat)} {c:E} : ∀ (k:Nat) {vs vs':List LV} {ns:List Need} (_:aA0 get vs=some (vs',ns)) {rs:List Value} (_:LRs ν w X σ vs rs) (_ : ∀ v∈vs,∀ id,v.id? = some id→aBh ν w X σ get id) (_:aAZ ν ns)
 (_ : ∀ k' v,vs[k']? = some v→k'≠k→isRs v=false) {v0:LV} (_:vs[k]? = some v0) (_ : ∀ v' ns',aB3 get v0=some (v',ns')→aAZ ν ns'→v' = .vs c∨∃ c',v' = .vs c'∧denC ν c'=denC ν c) (_ : ∀ r,LR ν w X σ v0 r→SlP at_ (denC ν c).length r),
 aOw w Y at_ k (aAX ν vs') rs∧(aAX ν vs')[k]? = some (.c (.vs (denC ν c)))
 | k,[],vs',ns,hs,rs,hl,hk,hn,ho,v0,h0,_,_=>by simp at h0
 | 0,v::vs,vs',ns,hs,rs,hl,hk,hn,ho,v0,h0,hc,hsl=>by
  cases rs with
  | nil=>simp only[LRs] at hl
  | cons r rs =>
   simp only[List.getElem?_cons_zero,Option.some.injEq] at h0;subst h0;simp only[LRs] at hl;simp only[aA0] at hs;split at hs
   rotate_left
   · simp at hs
   rename_i a ns1 b ns2 ha hb;simp only[Option.some.injEq,Prod.mk.injEq] at hs;obtain⟨rfl,rfl⟩:=hs
   have h2:=aHt hY hb hl.2 (fun v' hv'=>hk v' (by simp[hv'])) (fun n hm=>hn n (by simp[hm])) (fun v' hv'=>by
    obtain⟨j,hj⟩:=List.getElem?_of_mem hv';exact .inl (ho (j+1) v' (by simpa using hj) (by omega)))
   have h3:dvOf ν a = .c (.vs (denC ν c)):=by
    rcases hc a ns1 ha (fun n hm=>hn n (by simp[hm])) with rfl | ⟨c',rfl,hc'⟩
    · rfl
    · simp only[dvOf,hc']
   simp only[aAX,aOw,h3];exact⟨⟨⟨_,rfl,hsl r hl.1⟩,h2⟩,rfl⟩
 | k+1,v::vs,vs',ns,hs,rs,hl,hk,hn,ho,v0,h0,hc,hsl=>by
  cases rs with
  | nil=>simp only[LRs] at hl
  | cons r rs =>
   simp only[List.getElem?_cons_succ] at h0;simp only[LRs] at hl;simp only[aA0] at hs;split at hs
   rotate_left
   · simp at hs
   rename_i a ns1 b ns2 ha hb;simp only[Option.some.injEq,Prod.mk.injEq] at hs;obtain⟨rfl,rfl⟩:=hs;obtain⟨h2,h3⟩:=aMi hY k hb hl.2 (fun v' hv'=>hk v' (by simp[hv'])) (fun n hm=>hn n (by simp[hm])) (fun k' v' hv' hne=>ho (k'+1) v' (by simpa using hv') (by omega)) h0 hc hsl;have h1:=aOS ha hl.1 (hk v (by simp)) (fun n hm=>hn n (by simp[hm])) hY (.inl (ho 0 v rfl (by omega)));simp only[aAX,aOw];exact⟨⟨h1,h2⟩,by simpa using h3⟩
theorem aI5 {ν:Nu} {get:Nat→Option Ob} {id ver:Nat} {n ce c2:E} {e:TypeId} {sz:Nat} {ns:List Need} (h:aA9 get (.rs id ver (.int 0) n)=some (c2,ns)) (hob:get id=some ⟨ver,.row ce e sz⟩) (hn:denI ν n=(denC ν ce).length):denC ν c2=denC ν ce:=by
 simp only[aA9,hob,Nat.beq_refl,cond_true] at h;cases hb:aCF (.int 0)&&aBH ce n
 · rw[hb] at h;simp only[cond_false,Option.some.injEq,Prod.mk.injEq] at h;obtain⟨rfl,_⟩:=h
   have hcl:aBH ce n=false:=by simpa[aCF] using hb
   have e1:aHh ce (.int 0)=ce:=by simp[aHh,aCF]
   rw[e1];simp only[aJu,hcl,cond_false,denC,hn,Int.toNat_natCast,List.take_length]
 · rw[hb] at h;simp only[cond_true,Option.some.injEq,Prod.mk.injEq] at h;obtain⟨rfl,_⟩:=h;rfl
theorem aJC {ν:Nu} {S:St} {σ:List Pl} {a:Act} {w:World} (hR:Rel w0 X ν S σ a w) {vs:List LV} {rs:List Value} (hl:LRs ν w X σ vs rs) {o:Oper} {f:FuncId} (hexec:aBU P f→(execOp a.eval o).run P w = .ok (.enter f rs.toArray) w)
 {get:Nat→Option Ob} (hids : ∀ v∈vs,∀ id,v.id? = some id→aBh ν w X σ get id) {t:TypeId} {M:Mc} (hM:aOF T t f get vs=some M)
 (hn:aAZ ν M.ns) {m:Nat} (hF:FnM P M.md f (aAX ν M.as_) (dvOf ν (.vs (.var m)))) {K:Act→World→Prop} {Q:Exit→Act→World→Prop}
 (hK : ∀ (σ':List Pl) (r:Value) (w':World),Rel w0 X ν { S with L:=setO S.L M.id (M.ob (.var m)) } σ' a w'→LR ν w' X σ' (M.v (.var m)) r→K (a.put o.dst r) w'):o.wp P a w K Q:=by
 obtain⟨hent,c,c',hc,hres,hlen,hF⟩:=hF;have hexec:=hexec hent;unfold aOF at hM;cases hg:Nat.beq t 0||T.back f
 · rw[hg] at hM; simp at hM
 rw[hg] at hM;simp only[cond_true] at hM;split at hM
 rotate_left
 · simp at hM
 rename_i i id ver n hat;split at hM
 rotate_left
 · simp at hM
 rename_i ver' ce e sz as_ ns hob hs;cases hvb:Nat.beq ver ver'&&(!T.back f||Nat.beq i 0)
 · rw[hvb] at hM; simp at hM
 rw[hvb] at hM;simp only[cond_true,Option.some.injEq] at hM;subst hM;have hv:=Nat.eq_of_beq_eq_true (Bool.and_eq_true_iff.1 hvb).1;subst hv;obtain⟨k,hik,hk0,hko⟩:=aJL vs 0 hat
 obtain rfl:i=k:=by omega
 simp only at hn hF hc hres hlen hK
 have hnn:denI ν n=(denC ν ce).length:=by
  cases hcl:aBH ce n
  · have h1:=hn (.le n (.clen ce)) (by simp[hcl]);have h2:=hn (.le (.clen ce) n) (by simp[hcl]);simp only[denN,denI] at h1 h2;omega
  · exact aFB hcl
 have hn2:aAZ ν ns:=fun x hx=>hn x (by simp[hx]);obtain⟨pl,hpl,hver,hor⟩:=hids (.rs id ver (.int 0) n) (List.mem_of_getElem? hk0) id rfl _ hob;simp only at hver;have hor':=OR_row.1 hor;obtain⟨hsz,hrow⟩:=hor';obtain⟨Y,hYdef⟩ : ∃ Y:Nat→Prop,Y=fun b=>Exc X σ b∧¬ AtB pl.at_ b:=⟨_,rfl⟩
 have hYor:(fun b=>Y b∨AtB pl.at_ b)=Exc X σ:=by
  funext b
  apply propext;rw[hYdef]
  constructor
  · rintro (h | ⟨cc,h⟩)
    · exact h.1
    · exact .inr ⟨id,pl,cc,hpl,h⟩
  · intro h;by_cases h2:AtB pl.at_ b
    · exact .inr h2
    · exact .inl ⟨h,h2⟩
 have hlow : ∀ b,Exc X σ b→b<w.heap.size:=fun b hb=>by
  rcases hb with hb | hb
  · exact Nat.lt_of_lt_of_le (hR.ex b hb).1 hR.old.size
  · exact (hR.own b hb).2
 have hsl : ∀ r,LR ν w X σ (.rs id ver (.int 0) n) r→SlP pl.at_ (denC ν ce).length r:=fun r lr=>by
  simp only[LR] at lr;obtain⟨ad,len,rc,pl2,rfl,hpl2,_,hrs⟩:=lr;rw[hpl] at hpl2;simp only[Option.some.injEq] at hpl2;subst hpl2
  have:=(SlP.of (hrs hver.symm)).1
  rw[hnn] at this;simpa using this
 obtain⟨hA,hA2⟩:=aMi (ν:=ν) (σ:=σ) (X:=X) (Y:=Exc X σ) (fun b hb=>hb) (at_:=pl.at_) (c:=ce) i hs hl hids hn2 hko hk0 (fun v' ns' hsa hns'=>by
  simp only[aB3] at hsa;split at hsa
  rotate_left
  · simp at hsa
  rename_i c2 ns2 hc2;simp only[Option.some.injEq,Prod.mk.injEq] at hsa;obtain⟨rfl,rfl⟩:=hsa;refine .inr ⟨c2,rfl,?_⟩;exact aI5 hc2 hob hnn) hsl
 rw[hA2] at hc;simp only[Option.some.injEq,DV.c.injEq,CV.vs.injEq] at hc;subst hc
 have hcv:denC ν (.var m)=c':=by
  simp only[dvOf,DV.c.injEq,CV.vs.injEq] at hres;exact hres
 unfold Oper.wp;rw[hexec]
 have hmine : ∀ b,AtB pl.at_ b→b<w.heap.size∧¬ Y b∧∀ g∈aEv,g≠b:=fun b ⟨cc,hb⟩=>by
  refine⟨(hR.own b ⟨id,pl,cc,hpl,hb⟩).2,fun hy=>by rw[hYdef] at hy; exact hy.2 ⟨cc,hb⟩,fun g hgl hgb=>?_⟩;subst hgb;rcases (hR.own g ⟨id,pl,cc,hpl,hb⟩).1 with h1 | h1
  · obtain⟨m',hm'⟩:=hR.glo g hgl
    have:=World.block_lt_of_cell? _ _ hm'
    simp only at this;omega
  · exact hR.old.gy g hgl h1
 have hcall:=hF w Y pl.at_ rs (hR.glo.kept hR.old) (fun b hb=>by rw[hYdef] at hb; exact hlow b hb.1) hmine (by rw[hYor]; exact hrow) (by rw[hYor]; exact hA);refine hcall.mono ?_;rintro ex w' ⟨v,at',rfl,ht,hat',hrow',hback⟩
 have hexc' : ∀ (pl':Pl),pl'.at_=at'→Exc X (σ.set id pl')=fun b=>Y b∨AtB at' b:=fun pl' hpl'=>by
  funext b
  apply propext;rw[hYdef]
  constructor
  · rintro (hb | ⟨j,q,cc,hj,hcc⟩)
    · exact .inl ⟨.inl hb,fun ⟨cc,hcc⟩=>hR.free ⟨id,pl,cc,hpl,hcc⟩ hb⟩
    · rcases aEy hpl j q hj with ⟨rfl,rfl⟩ | ⟨hne,hj'⟩
      · exact .inr ⟨cc,by rw[←hpl']; exact hcc⟩
      · exact .inl ⟨.inr ⟨j,q,cc,hj',hcc⟩,fun ⟨c2,hc2⟩=>hne (hR.inj j id q pl b cc c2 hj' hpl hcc hc2)⟩
  · rintro (⟨hb | ⟨j,q,cc,hj,hcc⟩,hn⟩ | ⟨cc,hb⟩)
    · exact .inl hb
    · by_cases hji:j=id
      · subst hji;rw[hpl] at hj;simp only[Option.some.injEq] at hj;subst hj;exact absurd ⟨cc,hcc⟩ hn
      · exact .inr ⟨j,q,cc,by rw[List.getElem?_set_ne (fun e=>hji e.symm)]; exact hj,hcc⟩
    · exact .inr ⟨id,pl',cc,List.getElem?_set_self (List.getElem?_eq_some_iff.1 hpl).1,by rw[hpl']; exact hb⟩
 have upd : ∀ (ver2:Nat),(at'=pl.at_∧ver2=ver∨ver<ver2)→Rel w0 X ν { S with L:=setO S.L id ⟨ver2,.row (.var m) e sz⟩ } (σ.set id ⟨ver2,at',sz⟩) a w':=fun ver2 hv2=>by
  have:=hR.updM (w':=w') (i:=id) (pl:=pl) (pl':=⟨ver2,at',sz⟩) (ob:=⟨ver2,.row (.var m) e sz⟩) hpl rfl (by
   rcases hv2 with ⟨h1,h2⟩ | h2
   · refine .inl ?_;subst h1 h2 hsz hver;rfl
   · exact .inr (by rw[hver]; exact h2)) ht (fun b cc hcc=>by
     obtain⟨h1,h2⟩:=hat' b ⟨cc,hcc⟩
     exact⟨h1,h2⟩) (OR_row.2 ⟨rfl,by
      rw[hexc' ⟨ver2,at',sz⟩ rfl,hcv];exact hrow'⟩)
  exact this
 cases hbk:T.back f
 · rw[hbk] at hback hK;simp only[Bool.false_eq_true,if_false,cond_false] at hback hK;obtain⟨rfl,hat2⟩:=hback;refine hK _ _ w' (upd ver (.inl ⟨hat2,rfl⟩)) ?_;simp only[LR];exact⟨#[],rfl,by simp[LRs]⟩
 · rw[hbk] at hback hK;simp only[if_true,cond_true] at hback hK;refine hK _ _ w' (upd (ver+1) (.inr (Nat.lt_succ_self _))) ?_;obtain⟨ad,len,rc,rfl,hrs⟩:=SlP.to (pl:=⟨ver+1,at',sz⟩) hback;simp only[LR];refine⟨ad,len,rc,_,rfl,List.getElem?_set_self (List.getElem?_eq_some_iff.1 hpl).1,Nat.le_refl _,fun _=>?_⟩;simp only[denI,hcv];exact hrs
theorem aNU (hT:TOK P T) {ν:Nu} {S:St} {σ:List Pl} {a:Act} {w:World} (hR:Rel w0 X ν S σ a w) {o:Oper} {it:Operand} (ho:aOC o.op=some it) {id ver ver':Nat} {s p:E} (hit:S.ev it = .ptr id ver 0) (hob:getO S.L id=some ⟨ver',.iter s p⟩)
 (hb:Nat.beq ver ver'=true) {t f:Tr} {K:Act→World→Prop} {Q:Exit→Act→World→Prop} (hd:den P Fin Ag ν (.br (.lt p (aG6 s)) t f))
 (hKt:den P Fin Ag ν t→∀ w',Rel w0 X ν { S with L:=setO S.L id ⟨ver',.iter s (.add p (.runeW s p))⟩ } σ a w'→∀ r,LR ν w' X σ (.tup [.b (.bool true),.i .i64 p,.i .i32 (.rune s p)]) r→K (a.put o.dst r) w')
 (hKf:den P Fin Ag ν f→∀ r,LR ν w X σ (.tup [.b (.bool false)]) r→K (a.put o.dst r) w):o.wp P a w K Q:=by
 obtain⟨dst,op,type,pos,after,guard⟩:=o
 have hop:op = .next it true:=by
  simp only[aOC] at ho;split at ho
  · simp only[Option.some.injEq] at ho;subst ho;rfl
  · simp at ho
 subst hop;have lit:=aCv hR.F it;rw[hit] at lit;obtain⟨b,c,pl,hpl,hver,hat,hv,ho'⟩:=aCC (ρ:=.junk) lit (aBx hR id (aB2 lit rfl)) hob hb;obtain⟨b',c',hat',hp0,hh⟩:=ho';rw[hat] at hat';simp only[Option.some.injEq,Prod.mk.injEq] at hat';obtain⟨rfl,rfl⟩:=hat';simp only[den,denB,decide_eq_true_eq,decide_eq_false_iff_not,aFL] at hd;have hsz:b<w.heap.size:=(hR.own b ⟨id,pl,c,hpl,hat⟩).2;by_cases hlt:denI ν p<((denS ν s).size:Int)
 · have hlt':(denI ν p).toNat<(denS ν s).size:=by omega
   let w':World:={ w with heap:=w.heap.setIfInBounds b (.stringIter (denS ν s) ((denI ν p).toNat+(Utf8.decode (denS ν s) (denI ν p).toNat).2)) }
   have hw':w'.heap[b]? = some (.stringIter (denS ν s) ((denI ν p).toNat+(Utf8.decode (denS ν s) (denI ν p).toNat).2)):=by
    simp[w',Array.getElem?_setIfInBounds,hsz]
   have ht:Turn (some b) w w':=⟨rfl,rfl,rfl,by simp[w'],fun b1 hb1 hne=>by
    have:b≠b1:=fun e=>hne (by rw[e])
    simp[w',Array.getElem?_setIfInBounds,this],fun b1 a1 e1 fr1 h1=>by
     by_cases hb1:b1=b
     · subst hb1;rw[hh] at h1;simp at h1
     · have:b≠b1:=fun e=>hb1 e.symm
       exact⟨a1,e1,fr1,by simpa[w',Array.getElem?_setIfInBounds,this] using h1,rfl⟩⟩
   have hset:σ.set id pl=σ:=by
    apply List.ext_getElem?;intro j;by_cases e:id=j
    · subst e;rw[List.getElem?_set_self (List.getElem?_eq_some_iff.1 hpl).1,hpl]
    · rw[List.getElem?_set_ne e]
   have hR':=hR.upd (pl':=pl) (ob:=⟨ver',.iter s (.add p (.runeW s p))⟩) hpl hver (.inl rfl) (.inl ⟨b,c,c,hat,hat,ht⟩) (by
    rw[hset];refine⟨b,c,hat,?_,?_⟩
    · simp only[denI]; omega
    · rw[hw'];simp only[denI]
      congr 2
      omega)
   rw[hset] at hR';refine aCn (n:=.value (.tuple #[.bool true,goInt (denI ν p).toNat,.int .i32 (Utf8.decode (denS ν s) (denI ν p).toNat).1])) (w':=w') ?_ (.inl rfl) (hKt (hd.1 hlt) w' hR' _ ?_)
   · simp only[execOp,Sem.run_bind,hv,Instr.next,getObj,Sem.run,hh,hlt',if_true,setObj,Result.andThen_ok];rfl
   · simp only[LR];refine⟨_,rfl,?_⟩;simp only[LRs,LR,denB,denI,goInt,Int.toNat_of_nonneg hp0,and_true,true_and]
 · have hlt' : ¬ (denI ν p).toNat<(denS ν s).size:=by omega
   refine aCn (n:=.value (.tuple #[.bool false])) (w':=w) ?_ (.inl rfl) (hKf (hd.2 hlt) _ ?_)
   · simp only[execOp,Sem.run_bind,hv,Instr.next,getObj,Sem.run,hh,hlt',if_false,Result.andThen_ok];rfl
   · simp only[LR];refine⟨_,rfl,?_⟩;simp only[LRs,LR,denB,and_true,true_and]
theorem aJV : ∀ (cs:List LV) (j k:Nat) (v:LV),aGN cs j=some (k,v)→∃ i,k=j+i∧getL cs i=v
 | [],j,k,v,h=>by simp[aGN] at h
 | c::cs,j,k,v,h=>by
  have other:aGN cs (j+1)=some (k,v)→∃ i,k=j+i∧getL (c::cs) i=v:=fun h=>by
   obtain⟨i,h1,h2⟩:=aJV cs (j+1) k v h;exact⟨i+1,by omega,h2⟩
  cases c with
  | rs id ver o n =>
   simp only[aGN,Option.some.injEq,Prod.mk.injEq] at h;exact⟨0,h.1.symm,h.2⟩
  | _=>exact other (by simpa[aGN] using h)
theorem aK8 {ν:Nu} {S:St} {σ:List Pl} {a:Act} {w:World} (hR:Rel w0 X ν S σ a w) {t:Nat} {v:LV} (h:getL S.F t=v) (hv:v≠.junk) : ∃ r,a.tmps[t]? = some r∧LR ν w X σ v r:=by
 by_cases hd:t<a.tmps.size
 · refine⟨a.tmps[t],by simp[hd],?_⟩;rw[←h];exact aFs hR.F t _ (by simp[hd])
 · have hl:=aBe hR.F;simp only[Array.length_toList] at hl
   have:=aDe S.F t (by omega)
   rw[this] at h;exact absurd h.symm hv
theorem aFg {ν:Nu} {a:Act} {w:World} {t:Nat} : ∀ (fuel:Nat) (S S':St) (ns:List Need) (σ:List Pl),aGD t fuel S=some (S',ns)→aAZ ν ns→Rel w0 X ν S σ a w→∃ σ',Rel w0 X ν S' σ' a w
 | 0,S,S',ns,σ,h,hn,hR=>by
  simp only[aGD,Option.some.injEq,Prod.mk.injEq] at h;obtain⟨rfl,rfl⟩:=h;exact⟨σ,hR⟩
 | fuel+1,S,S',ns,σ,h,hn,hR=>by
  simp only[aGD] at h;split at h
  rotate_left
  · simp at h
  rename_i cs hF;split at h
  · simp only[Option.some.injEq,Prod.mk.injEq] at h;obtain⟨rfl,rfl⟩:=h;exact⟨σ,hR⟩
  rename_i k v hk;split at h
  rotate_left
  · simp at h
  rename_i c ns1 i ob hc hf;split at h
  rotate_left
  · simp at h
  rename_i S2 ms hrec;simp only[Option.some.injEq,Prod.mk.injEq] at h;obtain⟨rfl,rfl⟩:=h;obtain⟨j,hj,hv⟩:=aJV cs 0 k v hk
  obtain rfl:k=j:=by omega
  obtain⟨r,hr,lr⟩:=aK8 hR hF (by simp);simp only[LR] at lr;obtain⟨ar,rfl,la⟩:=lr
  have hvr : ∃ rv,ar.toList[k]? = some rv∧LR ν w X σ v rv:=by
   by_cases hd:k<ar.size
   · refine⟨ar[k],by simp[hd],?_⟩;rw[←hv];exact aFs la k _ (by simp[hd])
   · have hl:=aBe la;simp only[Array.length_toList] at hl;have h0:=aDe cs k (by omega);rw[hv] at h0;subst h0;simp[frz,rsId] at hf
  obtain⟨rv,hrv,lv⟩:=hvr;obtain⟨σ1,hR1,lc⟩ : ∃ σ1,Rel w0 X ν { S with L:=setO S.L i ob } σ1 a w∧LR ν w X σ1 (.vs c) rv:=⟨_,aGI hR lv hc (fun n hm=>hn n (by simp[hm])) hf⟩
  have hR2:=hR1.reset t (v:=.agg (setL cs k (.vs c))) (fun r' hr'=>by
   rw[hr] at hr';simp only[Option.some.injEq] at hr';subst hr';obtain⟨r2,hr2,lr2⟩:=aK8 hR1 (t:=t) (v:=.agg cs) hF (by simp);rw[hr] at hr2;simp only[Option.some.injEq] at hr2;subst hr2;simp only[LR] at lr2 ⊢;obtain⟨ar2,h2,la2⟩:=lr2;simp only[Value.agg.injEq] at h2;subst h2
   exact⟨ar,rfl,aGP la2 k _ (fun r3 hr3=>by
    rw[hrv] at hr3;simp only[Option.some.injEq] at hr3;subst hr3;exact lc)⟩)
  exact aFg fuel _ _ _ _ hrec (fun n hm=>hn n (by simp[hm])) hR2
theorem aKb {ν:Nu} {a:Act} {w:World} {t:Nat} {S S':St} {ns:List Need} {σ:List Pl} (h:aPF t S=some (S',ns)) (hn:aAZ ν ns) (hR:Rel w0 X ν S σ a w) : ∃ σ',Rel w0 X ν S' σ' a w:=by
 unfold aPF at h;split at h
 · rename_i id ver o n hF;split at h
   rotate_left
   · simp at h
   rename_i c ns1 i ob hc hf;simp only[Option.some.injEq,Prod.mk.injEq] at h;obtain⟨rfl,rfl⟩:=h;obtain⟨r,hr,lr⟩:=aK8 hR hF (by simp);obtain⟨h1,lc⟩:=aGI hR lr hc hn hf;have hR1:=aF0 hR hf h1
   exact⟨_,hR1.reset t fun r' hr'=>by
    rw[hr] at hr';simp only[Option.some.injEq] at hr';subst hr';exact lc⟩
 · exact aFg 8 S S' ns σ h hn hR
 · simp only[Option.some.injEq,Prod.mk.injEq] at h;obtain⟨rfl,rfl⟩:=h;exact⟨σ,hR⟩
theorem aCg {ν:Nu} {a:Act} {w:World} : ∀ (ts:List Tmp) (S S':St) (ns:List Need) (σ:List Pl),aEL ts S=some (S',ns)→aAZ ν ns→Rel w0 X ν S σ a w→∃ σ',Rel w0 X ν S' σ' a w
 | [],S,S',ns,σ,h,hn,hR=>by
  simp only[aEL,Option.some.injEq,Prod.mk.injEq] at h;obtain⟨rfl,rfl⟩:=h;exact⟨σ,hR⟩
 | t::ts,S,S',ns,σ,h,hn,hR=>by
  simp only[aEL] at h;split at h
  rotate_left
  · simp at h
  rename_i S1 ns1 h1;split at h
  rotate_left
  · simp at h
  rename_i S2 ms h2;simp only[Option.some.injEq,Prod.mk.injEq] at h;obtain⟨rfl,rfl⟩:=h;obtain⟨σ1,hR1⟩:=aKb h1 (fun n hm=>hn n (by simp[hm])) hR;exact aCg ts S1 _ _ σ1 h2 (fun n hm=>hn n (by simp[hm])) hR1
theorem aM5 {ν:Nu} (h:aAZ ν aTu):False:=by
 have:=h _ (List.mem_singleton.2 rfl)
 simp[denN,denI] at this
theorem aDL {o:Oper} {ν:Nu} {S:St} {σ:List Pl} {a:Act} {w:World} {k:St→Tr} (hd:den P Fin Ag ν (aE5 T o S k)) (hR:Rel w0 X ν S σ a w) {K:Act→World→Prop} {Q:Exit→Act→World→Prop}
 (hK : ∀ (ν':Nu) (S':St) (σ':List Pl) (a':Act) (w':World),den P Fin Ag ν' (k S')→Rel w0 X ν' S' σ' a' w'→K a' w'):o.wp P a w K Q:=by
 unfold aE5 at hd;split at hd
 rotate_left
 · simp[den] at hd
 rename_i S2 ns0 hcl;split at hd
 rotate_left
 · simp[den] at hd
 rename_i f2 args2 ho2;split at hd
 rotate_left
 · simp[den] at hd
 rename_i as2 ns2 sh2 m2 hs2 hsh2;cases hok2:S2.ok && !args2.any isRs
 · rw[hok2] at hd; simp[den] at hd
 rw[hok2] at hd;simp only[cond_true] at hd;simp only[Bool.and_eq_true,Bool.not_eq_true'] at hok2;obtain⟨hn0,hd⟩:=aA5 _ hd;obtain⟨σ2,hR2⟩:=aCg _ _ _ _ _ hcl (hn0 rfl) hR;obtain⟨hn,hd⟩:=aA5 _ hd;simp only[den,CallOK] at hd;obtain⟨ds,hm,hF,hd⟩:=hd;exact aFJ hR2 (aCv hR2.F) ho2 hs2 hsh2 hok2.1 (by rw[hok2.2]; rfl) (hn rfl) hm (hF rfl) fun r w' hR' lr=>hK _ _ _ _ _ hd (hR'.put o.dst lr)
theorem aHb (hT:TOK P T) {o:Oper} {ν:Nu} {S:St} {σ:List Pl} {a:Act} {w:World} {k:St→Tr} (hd:den P Fin Ag ν (aRT T o S k)) (hR:Rel w0 X ν S σ a w) {K:Act→World→Prop} {Q:Exit→Act→World→Prop}
 (hK : ∀ (ν':Nu) (S':St) (σ':List Pl) (a':Act) (w':World),den P Fin Ag ν' (k S')→Rel w0 X ν' S' σ' a' w'→K a' w'):o.wp P a w K Q:=by
 have hρ : ∀ x,LR ν w X σ (S.ev x) (a.eval x):=aCv hR.F;unfold aRT at hd;split at hd
 · rename_i f args ho;split at hd
   · rename_i M hM;cases hok:S.ok&&aAU S.n M.ns&&LVs.ok S.n M.as_
     · rw[hok] at hd; simp[den] at hd
     rw[hok] at hd;simp only[Bool.and_eq_true] at hok;simp only[cond_true] at hd;obtain⟨hn,hd⟩:=aA5 _ hd;simp only[den,CallOK] at hd;obtain⟨ds,hm,hF,hd⟩:=hd;have hR1:=hR.more hok.1.1 ds;rw[hm] at hR1;have hF1:=hF rfl;rw[←aDw ν ds M.as_ (by rw[hR.n]; exact hok.2)] at hF1;by_cases hent:aBU P f
     · obtain⟨rs,hl,hexec⟩:=aJI (fun x _=>aCv hR1.F x) ho hent;exact aJC hR1 hl (fun _=>hexec) (aJd hR1 hl) hM ((aD3 ν ds _ (by rw[hR.n]; exact hok.1.2)).2 (hn rfl)) hF1 fun σ' r w' hR' lr=>hK _ _ _ _ _ hd (hR'.put o.dst lr)
     · exact absurd hF1.1 hent
   split at hd
   · obtain⟨hn,_⟩:=aA5 _ hd;exact (aM5 (hn rfl)).elim
   · split at hd
     · rename_i as_ ns sh m hs hsh;cases hok:S.ok
       · rw[hok] at hd; simp[den] at hd
       rw[hok] at hd;simp only[Bool.not_true,cond_false] at hd;cases hb:(args.any isRs && !aCx sh)
       · rw[hb] at hd;simp only[cond_false] at hd;obtain⟨hn,hd⟩:=aA5 _ hd;simp only[den,CallOK] at hd;obtain⟨ds,hm,hF,hd⟩:=hd;exact aFJ hR hρ ho hs hsh hok hb (hn rfl) hm (hF rfl) fun r w' hR' lr=>hK _ _ _ _ _ hd (hR'.put o.dst lr)
       · rw[hb] at hd;simp only[cond_true] at hd;split at hd
         · rename_i i ob hf;obtain⟨hn,hd⟩:=aA5 _ hd;simp only[den,CallOK] at hd;obtain⟨ds,hm,hF,hd⟩:=hd;exact aQS hR hρ ho hs hsh hok hf (hn rfl) hm (hF rfl) fun σ' r w' hR' lr=>hK _ _ _ _ _ hd (hR'.put o.dst lr)
         · exact aDL hd hR hK
     · exact aDL hd hR hK
 · rename_i ho;split at hd
   · rename_i it hit;split at hd
     · rename_i id ver hv;split at hd
       · rename_i ver' s p hob;cases hb:Nat.beq ver ver'
         · rw[hb] at hd; simp[den] at hd
         rw[hb] at hd;simp only[cond_true] at hd;exact aNU hT hR hit hv hob hb hd (fun hd' w' hR' r lr=>hK _ _ _ _ _ hd' (hR'.put o.dst lr)) (fun hd' r lr=>hK _ _ _ _ _ hd' (hR.put o.dst lr))
       · simp[den] at hd
     · simp[den] at hd
   · split at hd
     · rename_i c x y hp;split at hd
       · rename_i t hc;split at hd
         · rename_i v hv;obtain⟨dst,op,type,pos,after,guard⟩:=o
           have hop:op = .pick c x y:=by
            simp only[aH2] at hp;split at hp
            · simp only[Option.some.injEq,Prod.mk.injEq] at hp;obtain⟨rfl,rfl,rfl⟩:=hp;rfl
            · simp at hp
           subst hop;have lc:=hρ c;rw[hc] at lc;simp only[LR] at lc;have lv:=aOd hv (fun ht=>aCz ht (hρ x)) (fun hf=>aCz (by rw[aBO,hf]; rfl) (hρ y))
           refine aCn (n:=.value (if denB ν t=true then a.eval x else a.eval y)) ?_ (.inl rfl) (hK _ _ _ _ _ hd (hR.put dst lv))
           simp only[execOp,Sem.run_bind,lc,asBool,Sem.run_pure,Result.andThen_ok]
         · simp[den] at hd
       · simp[den] at hd
     · split at hd
       · rename_i ns v e hop;cases hok:isNo e||aAU S.n ns
         · rw[hok] at hd; simp[den] at hd
         rw[hok] at hd;simp only[cond_true] at hd;obtain⟨hn,hd⟩:=aA5 _ hd;exact aMm hT hR hop (by simpa using hok) (hn rfl) hd fun ν' S' v' σ' r w' hd' hR' lr hF=>hK _ _ _ _ _ hd' (hR'.put o.dst lr)
       · split at hd
         rotate_left
         · simp[den] at hd
         rename_i S2 ns0 hcl;split at hd
         rotate_left
         · simp[den] at hd
         rename_i ns v e hop;cases hok:isNo e||aAU S2.n ns
         · rw[hok] at hd; simp[den] at hd
         rw[hok] at hd;simp only[cond_true] at hd;obtain⟨hn0,hd⟩:=aA5 _ hd;obtain⟨σ2,hR2⟩:=aCg _ _ _ _ _ hcl (hn0 rfl) hR;obtain⟨hn,hd⟩:=aA5 _ hd;exact aMm hT hR2 hop (by simpa using hok) (hn rfl) hd fun ν' S' v' σ' r w' hd' hR' lr hF=>hK _ _ _ _ _ hd' (hR'.put o.dst lr)
theorem aNQ (hT:TOK P T) {o:Oper} {g:E} {ν:Nu} {S:St} {σ:List Pl} {a:Act} {w:World} {k:St→Tr} {other:Unit→Tr} (hd:den P Fin Ag ν (runG T o g S k other)) (hR:Rel w0 X ν S σ a w) {K:Act→World→Prop} {Q:Exit→Act→World→Prop}
 (hK : ∀ (ν':Nu) (S':St) (σ':List Pl) (a':Act) (w':World),den P Fin Ag ν' (k S')→Rel w0 X ν' S' σ' a' w'→K a' w')
 (hother:den P Fin Ag ν (other ())→(denB ν g=true→o.wp P a w K Q)∧(denB ν g=false→K (a.put o.dst undef) w)) :
 (denB ν g=true→o.wp P a w K Q)∧(denB ν g=false→K (a.put o.dst undef) w):=by
 have hρ:denB ν g=true→∀ x,LR ν w X σ (aBw g (S.ev x)) (a.eval x):=fun hg x=>aCz hg (aCv hR.F x)
 have no : ∀ (ν':Nu) (w':World) (v:LV),denB ν' g=false→LR ν' w' X σ (.g g v) undef:=fun ν' w' v hg=>by
  simp only[LR];exact⟨fun h=>by rw[hg] at h; simp at h,fun _=>trivial⟩
 have yes : ∀ (ν':Nu) (w':World) (v:LV) (r:Value),denB ν' g=true→LR ν' w' X σ v r→LR ν' w' X σ (.g g v) r:=fun ν' w' v r hg hr=>by
  simp only[LR];exact⟨fun _=>hr,fun h=>by rw[hg] at h; simp at h⟩
 unfold runG at hd;split at hd
 · rename_i f args ho;split at hd
   · exact hother hd
   · split at hd
     · rename_i as_ ns sh m hs hsh;cases hb : !S.ok || !g.ok S.n||(args.any isRs && !aCx sh)
       · rw[hb] at hd;simp only[cond_false] at hd;simp only[Bool.or_eq_false_iff,Bool.not_eq_false'] at hb;obtain⟨hn,hd⟩:=aA5 _ hd;simp only[den,CallOK] at hd;obtain⟨ds,hm,hF,hd⟩:=hd;have hgd:denB (ν++ds) g=denB ν g:=aCD ν ds g (by rw[hR.n]; exact hb.1.2);refine⟨fun hg=>aFJ hR (hρ hg) ho hs hsh hb.1.1 hb.2 (hn hg) hm (hF hg) fun r w' hR' lr=>hK _ _ _ _ _ hd (hR'.put o.dst (yes _ _ _ _ (by rw[hgd]; exact hg) lr)),fun hg=>?_⟩;have hR':=hR.more hb.1.1 ds;rw[hm] at hR';exact hK _ _ _ _ _ hd (hR'.put o.dst (no _ _ _ (by rw[hgd]; exact hg)))
       · rw[hb] at hd; simp[den] at hd
     · exact hother hd
 · rename_i ho;split at hd
   · rename_i c x y hp;split at hd
     · rename_i t hc;split at hd
       · rename_i v hv;obtain⟨dst,op,type,pos,after,guard⟩:=o
         have hop:op = .pick c x y:=by
          simp only[aH2] at hp;split at hp
          · simp only[Option.some.injEq,Prod.mk.injEq] at hp;obtain⟨rfl,rfl,rfl⟩:=hp;rfl
          · simp at hp
         subst hop;refine⟨fun hg=>?_,fun hg=>hK _ _ _ _ _ hd (hR.put dst (no _ _ _ hg))⟩;have lc:=hρ hg c;rw[hc] at lc;simp only[LR] at lc;have lv:=aOd hv (fun ht=>aCz (by rw[aFp,hg,ht]; rfl) (aCv hR.F x)) (fun hf=>aCz (by rw[aFp,aBO,hg,hf]; rfl) (aCv hR.F y))
         refine aCn (n:=.value (if denB ν t=true then a.eval x else a.eval y)) ?_ (.inl rfl) (hK _ _ _ _ _ hd (hR.put dst (yes _ _ _ _ hg lv)))
         simp only[execOp,Sem.run_bind,lc,asBool,Sem.run_pure,Result.andThen_ok]
       · simp[den] at hd
     · simp[den] at hd
   · split at hd
     · rename_i ns v e hop;cases he:isNo e
       · rw[he] at hd;exact hother hd
       rw[he] at hd;simp only[cond_true] at hd
       have he:e = .no:=by
        cases e <;> first | rfl | simp[isNo] at he
       subst he;obtain⟨hn,hd⟩:=aA5 _ hd;refine⟨fun hg=>?_,fun hg=>hK _ _ _ _ _ hd (hR.put o.dst (no _ _ _ hg))⟩;obtain⟨r,hr,lr⟩:=aQl hT o hop rfl (fun x _=>hρ hg x) (fun x _ id hid=>aBx hR id (aB2 (hρ hg x) hid)) (hn hg);exact aCn hr (.inl rfl) (hK _ _ _ _ _ hd (hR.put o.dst (yes _ _ _ _ hg lr)))
     · exact hother hd
theorem aNu {ν:Nu} {S:St} {σ:List Pl} {a:Act} {w:World} (hR:Rel w0 X ν S σ a w) {d:Nat} {v:LV} (h:getL S.F d=v) (hv:v≠.junk) : ∃ r,a.tmps[d]? = some r∧LR ν w X σ v r:=by
 by_cases hd:d<a.tmps.size
 · refine⟨a.tmps[d],by simp[hd],?_⟩;rw[←h];exact aFs hR.F d _ (by simp[hd])
 · have hl:=aBe hR.F;simp only[Array.length_toList] at hl
   have:=aDe S.F d (by omega)
   rw[this] at h;exact absurd h.symm hv
theorem aDQ {ops:Array Oper} {o:Oper} {ν:Nu} {S:St} {σ:List Pl} {a:Act} {w:World} (hR:Rel w0 X ν S σ a w) {g:E} (h:aGb ops S.F o.guard=some g):Region.wanted o (yielded ops a.tmps)=denB ν g:=by
 unfold aGb at h;unfold Region.wanted;split at h
 · rename_i hg;simp only[Option.some.injEq] at h;subst h;rw[hg];rfl
 · rename_i j want hg;rw[hg];split at h
   · simp at h
   rename_i d hd;split at h
   · rename_i e hF;simp only[Option.some.injEq] at h;subst h;obtain⟨r,hr,lr⟩:=aNu hR hF (by simp);simp only[LR] at lr;subst lr
     have:yielded ops a.tmps j=some (denB ν e):=by simp[yielded,hd,hr]
     simp only[this,aPu];cases want <;> cases hh:denB ν e <;> simp[aBO,hh]
   · rename_i g' e hF;simp only[Option.some.injEq] at h;subst h;obtain⟨r,hr,lr⟩:=aNu hR hF (by simp);simp only[LR] at lr;rw[aFp];cases hg':denB ν g'
     · have:=lr.2 hg'
       subst this
       have:yielded ops a.tmps j=none:=by simp[yielded,hd,hr,undef]
       simp[this]
     · have:=lr.1 hg'
       subst this
       have:yielded ops a.tmps j=some (denB ν e):=by simp[yielded,hd,hr]
       simp only[this,aPu];cases want <;> cases hh:denB ν e <;> simp[aBO,hh]
   · rename_i hF;simp only[Option.some.injEq] at h;subst h;obtain⟨r,hr,lr⟩:=aNu hR hF (by simp);simp only[LR] at lr;obtain⟨ar,rfl,la⟩:=lr
     have:yielded ops a.tmps j=none:=by simp[yielded,hd,hr]
     simp[this,denB]
   · simp at h
def Agr (m:Nat) (A B:Nu→Nat→List D→Prop):Prop:=∀ m',m'<m→∀ ν ds,A ν m' ds→B ν m' ds
theorem Agr.refl (m:Nat) (A:Nu→Nat→List D→Prop):Agr m A A:=fun _ _ _ _ h=>h
theorem Agr.trans {m:Nat} {A B C:Nu→Nat→List D→Prop} (h:Agr m A B) (k:Agr m B C):Agr m A C:=fun m' hm ν ds ha=>k m' hm ν ds (h m' hm ν ds ha)
theorem Agr.less {m n:Nat} {A B:Nu→Nat→List D→Prop} (h:Agr m A B) (hn:n≤m):Agr n A B:=fun m' hm=>h m' (Nat.lt_of_lt_of_le hm hn)
def aUw (P:Program) (Fin:Nu→Ex→St→Prop) (w0:Base) (X:Nat→Prop) (m1:Nat) (inl:Oper→St→(St→Tr)→Option Tr) (Q:Exit→Act→World→Prop) (Ag1:Nu→Nat→List D→Prop):Prop :=
 ∀ (Ag:Nu→Nat→List D→Prop),Agr m1 Ag Ag1→∀ (o:Oper) (S:St) (k:St→Tr) (t:Tr),inl o S k=some t→∀ (ν:Nu) (σ:List Pl) (a:Act) (w:World) (K:Act→World→Prop),den P Fin Ag ν t→Rel w0 X ν S σ a w →
  (∀ (Ag':Nu→Nat→List D→Prop),Agr m1 Ag' Ag→∀ (ν':Nu) (S':St) (σ':List Pl) (a':Act) (w':World),den P Fin Ag' ν' (k S')→Rel w0 X ν' S' σ' a' w'→K a' w')→o.wp P a w K Q
theorem aDN (hT:TOK P T) (ops:Array Oper) {inl:Oper→St→(St→Tr)→Option Tr} {k:St→Tr} {Q:Exit→Act→World→Prop} (m1:Nat) (Ag1:Nu→Nat→List D→Prop) (hI:aUw P Fin w0 X m1 inl Q Ag1)
 (hK : ∀ (Ag':Nu→Nat→List D→Prop),Agr m1 Ag' Ag1→∀ (ν':Nu) (S':St) (σ':List Pl) (a':Act) (w':World),den P Fin Ag' ν' (k S')→Rel w0 X ν' S' σ' a' w'→Q .normal a' w') :
 ∀ (rest:List Oper) (Ag:Nu→Nat→List D→Prop),Agr m1 Ag Ag1→∀ (ν:Nu) (S:St) (σ:List Pl) (a:Act) (w:World),den P Fin Ag ν (aDX T inl ops rest S k)→Rel w0 X ν S σ a w→wpList P ops Q rest a w
 | [],Ag,hA,ν,S,σ,a,w,hd,hR=>hK Ag hA ν S σ a w hd hR
 | o::rest,Ag,hA,ν,S,σ,a,w,hd,hR=>by
  have ih0:=fun Ag' (h:Agr m1 Ag' Ag)=>aDN hT ops m1 Ag1 hI hK rest Ag' (h.trans hA);have ih:=ih0 Ag (Agr.refl _ _)
  have lu:LR ν w X σ (.tup []) undef:=by
   simp only[LR];exact⟨#[],rfl,by simp[LRs]⟩
  simp only[aDX] at hd;simp only[wpList];split at hd
  · simp[den] at hd
  · rename_i hg;rw[aDQ hR hg];simp only[denB,if_true];unfold runI at hd;split at hd
    · rename_i t ht;exact .inl (hI Ag hA _ _ _ _ ht ν σ a w _ hd hR fun Ag' hA' ν' S' σ' a' w' hd' hR'=>ih0 Ag' hA' ν' S' σ' a' w' hd' hR')
    · exact .inl (aHb hT hd hR fun ν' S' σ' a' w' hd' hR'=>ih ν' S' σ' a' w' hd' hR')
  · rename_i hg;rw[aDQ hR hg];simp only[denB,Bool.false_eq_true,if_false];exact ih ν _ σ _ w hd (hR.put o.dst lu)
  · rename_i g h1 h2 hg;have hw:=aDQ hR hg
    have hN:denB ν g=false→Rel w0 X ν (aMB ops S o.guard) σ a w:=fun hgf=>by
     unfold aMB;split
     · rename_i j want hog;split
       · rename_i d hd0;split
         · rename_i e he;unfold aGb at hg;rw[hog] at hg;simp only[hd0,he,Option.some.injEq] at hg;subst hg;refine hR.reset d (fun r hr=>?_);obtain⟨r',hr',lr⟩:=aNu hR he (by simp);rw[hr] at hr';simp only[Option.some.injEq] at hr';subst hr';simp only[LR] at lr ⊢;rw[lr];simp only[aPu] at hgf;cases want <;> simp_all [aBO,denB]
         · exact hR
       · exact hR
     · exact hR
    have hG:denB ν g=true→Rel w0 X ν (aNj ops (ungS g S) o.guard) σ a w:=fun hgt=>by
     have hR1:Rel w0 X ν (ungS g S) σ a w :=
      { defers:=hR.defers,F:=aOP hgt hR.F,len:=hR.len,L:=hR.L,inj:=hR.inj,own:=hR.own,old:=hR.old,ex:=hR.ex,glo:=hR.glo,n:=hR.n,G:=hR.G }
     unfold aNj;split
     · rename_i j want hog;split
       · rename_i d hd0;refine hR1.reset d (fun r hr=>?_);rw[hgt] at hw;simp only[Region.wanted,hog,yielded,hd0,Option.bind_some,hr,beq_iff_eq] at hw;split at hw
         · rename_i b' hb';simp only[Option.some.injEq] at hw hb';subst hw hb';simp only[LR,denB]
         · simp at hw
       · exact hR1
     · exact hR1
    have hu : ∀ {ν:Nu} {S:St} {σ:List Pl} {a:Act} {w:World} (r:Option Tmp),Rel w0 X ν S σ a w→Rel w0 X ν (S.put r (.tup [])) σ (a.put r undef) w:=fun r h=>h.put r (by
     simp only[LR];exact⟨#[],rfl,by simp[LRs]⟩)
    rw[hw];split at hd
    · rename_i t ht;simp only[den] at hd;cases hgb:denB ν g
      · simp only[Bool.false_eq_true,if_false];exact ih ν _ σ _ w (hd.2 hgb) (hu _ (hN hgb))
      · simp only[if_true];exact .inl (hI Ag hA _ _ _ _ ht ν σ a w _ (hd.1 hgb) (hG hgb) fun Ag' hA' ν' S' σ' a' w' hd' hR'=>ih0 Ag' hA' ν' S' σ' a' w' hd' hR')
    · have:=aNQ hT (Q:=Q) hd hR (fun ν' S' σ' a' w' hd' hR'=>ih ν' S' σ' a' w' hd' hR') (fun hd'=>by
       simp only[den] at hd';exact⟨fun hgt=>aHb hT (hd'.1 hgt) (hG hgt) fun ν' S' σ' a' w' hd' hR'=>ih ν' S' σ' a' w' hd' hR',fun hgf=>ih ν _ σ _ w (hd'.2 hgf) (hu _ (hN hgf))⟩)
      cases hgb:denB ν g
      · simp only[Bool.false_eq_true,if_false];exact this.2 hgb
      · simp only[if_true];exact .inl (this.1 hgb)
end
end
end Go.Proofs.YtcdeimjlgpfjiaaGreatDoor
