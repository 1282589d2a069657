/- A symbolic run of Go code, eighteenth part: code; from a tree to a contract. No condition. -/
import Derived.Test.YtcdeimjlgpfjiaaGreatDoorG08
import Derived.LoopN
import Derived.Scope
set_option linter.unusedSimpArgs false
set_option linter.unusedVariables false
namespace Go.Proofs.YtcdeimjlgpfjiaaGreatDoor
section
open Go.RowKit
def aDu (P:Program) (Q:Exit→Act→World→Prop) (M:Nat→Act→World→Prop):List Kont→Exit→Act→World→Prop
 | []=>Q
 | .code c::K=>fun e a w=>match e with
  | .normal=>c.wp P (aDu P Q M K) a w
  | e=>aDu P Q M K e a w
 | .blk id::K=>fun e a w=>match e with
  | .exit id'=>if id'=id then aDu P Q M K .normal a w else aDu P Q M K (.exit id') a w
  | e=>aDu P Q M K e a w
 | .mark m _ _::K=>fun e a w=>match e with
  | .normal=>M m a w
  | e=>aDu P Q M K e a w
def aQq:Ex→Exit
 | .normal=>.normal
 | .ret=>.ret
theorem aGJ {P:Program} {c:Code} {Q:Exit→Act→World→Prop} (J:Nat→Act→World→Prop) (hJ : ∀ k a w,J k a w→c.wp P (Exit.then (fun a' w'=>∃ k',k'<k∧J k' a' w') Q) a w) :
 ∀ (n k:Nat) (a:Act) (w:World),k<n→J k a w→Code.rounds P c Q n a w
 | 0,k,a,w,h,_=>absurd h (Nat.not_lt_zero k)
 | n+1,k,a,w,h,hj=>by
  rw[rounds_succ];refine Code.wp_mono (fun e a' w' he=>?_) (hJ k a w hj)
  cases e with
  | normal =>
   obtain⟨k',hk,hj'⟩:=he;exact aGJ J hJ n k' a' w' (by omega) hj'
  | _=>exact he
theorem aUd {P:Program} {c:Code} {Q:Exit→Act→World→Prop} (J:Nat→Act→World→Prop) (hJ : ∀ k a w,J k a w→c.wp P (Exit.then (fun a' w'=>∃ k',k'<k∧J k' a' w') Q) a w) (k:Nat) (a:Act) (w:World) (h:J k a w) :
 (Code.loop c).wp P Q a w:=wp_loop_rounds (k+1) (aGJ J hJ (k+1) k a w (Nat.lt_succ_self k) h)
def KOK (m0:Nat):List Kont→Prop
 | []=>True
 | .mark m _ _::K=>m=m0+aB1 K∧KOK m0 K
 | .code _::K=>KOK m0 K
 | .blk _::K=>KOK m0 K
theorem KOK.lt {m0:Nat} : ∀ {K:List Kont},KOK m0 K→∀ {m n0:Nat} {H:St},Kont.mark m n0 H∈K→m<m0+aB1 K
 | [],_,m,n0,H,h=>by simp at h
 | .mark m' n' H'::K,hk,m,n0,H,h=>by
  simp only[KOK] at hk;simp only[aB1];rcases List.mem_cons.1 h with e | e
  · simp only[Kont.mark.injEq] at e;omega
  · have:=KOK.lt hk.2 e
    omega
 | .code _::K,hk,m,n0,H,h=>by
  simp only[aB1];exact KOK.lt (K:=K) hk (by simpa using h)
 | .blk _::K,hk,m,n0,H,h=>by
  simp only[aB1];exact KOK.lt (K:=K) hk (by simpa using h)
theorem aD5 {m0:Nat} (id:Nat) : ∀ (K K':List Kont),aCB id K=some K'→KOK m0 K→KOK m0 K'∧∀ x∈K',x∈K
 | [],K',h,_=>by simp[aCB] at h
 | .code c::K,K',h,hk=>by
  obtain⟨h1,h2⟩:=aD5 id K K' (by simpa[aCB] using h) hk;exact⟨h1,fun x hx=>List.mem_cons_of_mem _ (h2 x hx)⟩
 | .mark m n0 H::K,K',h,hk=>by
  obtain⟨h1,h2⟩:=aD5 id K K' (by simpa[aCB] using h) hk.2;exact⟨h1,fun x hx=>List.mem_cons_of_mem _ (h2 x hx)⟩
 | .blk id'::K,K',h,hk=>by
  simp only[aCB] at h;cases hb:Nat.beq id' id
  · rw[hb] at h;obtain⟨h1,h2⟩:=aD5 id K K' h hk;exact⟨h1,fun x hx=>List.mem_cons_of_mem _ (h2 x hx)⟩
  · rw[hb] at h;simp only[cond_true,Option.some.injEq] at h;subst h;exact⟨hk,fun x hx=>List.mem_cons_of_mem _ hx⟩
theorem aDf {P:Program} {Q:Exit→Act→World→Prop} {M M':Nat→Act→World→Prop} : ∀ (K:List Kont),(∀ m n0 H,Kont.mark m n0 H∈K→M m=M' m)→∀ e a w,aDu P Q M K e a w→aDu P Q M' K e a w
 | [],_,e,a,w,h=>h
 | .code c::K,hm,e,a,w,h=>by
  have ih:=aDf (P:=P) (Q:=Q) K fun m n0 H hx=>hm m n0 H (List.mem_cons_of_mem _ hx)
  cases e with
  | normal=>exact Code.wp_mono (fun e a' w'=>ih e a' w') h
  | _=>exact ih _ a w h
 | .blk id::K,hm,e,a,w,h=>by
  have ih:=aDf (P:=P) (Q:=Q) K fun m n0 H hx=>hm m n0 H (List.mem_cons_of_mem _ hx)
  cases e with
  | exit id' =>
   simp only[aDu] at h ⊢;split
   · rename_i he;rw[if_pos he] at h;exact ih _ a w h
   · rename_i he;rw[if_neg he] at h;exact ih _ a w h
  | _=>exact ih _ a w h
 | .mark m n0 H::K,hm,e,a,w,h=>by
  have ih:=aDf (P:=P) (Q:=Q) K fun m n0 H hx=>hm m n0 H (List.mem_cons_of_mem _ hx)
  cases e with
  | normal =>
   simp only[aDu] at h ⊢;rw[←hm m n0 H (by simp)];exact h
  | _=>exact ih _ a w h
theorem aEg {P:Program} {Q:Exit→Act→World→Prop} {M:Nat→Act→World→Prop} (hG : ∀ l a w,¬ Q (.goto l) a w) (l:Nat) : ∀ (K:List Kont) (a:Act) (w:World),¬ aDu P Q M K (.goto l) a w
 | [],a,w,h=>hG l a w h
 | .code c::K,a,w,h=>aEg hG l K a w h
 | .blk id::K,a,w,h=>aEg hG l K a w h
 | .mark m _ _::K,a,w,h=>aEg hG l K a w h
def aIh (tmps:Array Value):ResultVar→Sem Value
 | .tmp t=>pure (tmps.getD t undef)
 | .cell x t=>do loadVar t (←asAddr (tmps.getD x undef))
theorem aIo (fn:Func) (tmps:Array Value):results fn tmps=(do
 let vs ←fn.results.mapM (aIh tmps)
 pure (if h:vs.size=1 then vs[0] else .tuple vs)):=by
 unfold results
 congr 1
section
variable {P:Program} {T:Tab} {w0:Base} {X:Nat→Prop} {Fin:Nu→Ex→St→Prop}
theorem aMf (hT:TOK P T) {ν:Nu} {S:St} {σ:List Pl} {a:Act} {w:World} (hR:Rel w0 X ν S σ a w) {x:ResultVar} {v:LV} {ns:List Need} (hx:aJs T S x=some (v,ns)) (hn:aAZ ν ns) :
 ∃ q,(aIh a.tmps x).run P w = .ok q w∧LR ν w X σ v q:=by
 cases x with
 | tmp t =>
  simp only[aJs,Option.some.injEq,Prod.mk.injEq] at hx;obtain⟨rfl,rfl⟩:=hx;exact⟨_,rfl,aCv hR.F (.tmp t)⟩
 | cell y t =>
  simp only[aJs] at hx;split at hx
  · rename_i ns0 v0 e0 hop;simp only[Option.some.injEq,Prod.mk.injEq] at hx;obtain⟨rfl,rfl⟩:=hx;have ly:=aCv hR.F (.tmp y);obtain⟨_,hc⟩:=aQz hT hop ly (fun id hid=>aBx hR id (aB2 ly hid));obtain⟨q,hq,lq⟩:=hc hn;refine⟨q,?_,lq⟩;have he:a.eval (.tmp y)=a.tmps.getD y undef:=rfl;rw[he] at hq;simp only[aIh,Instr.loadAt,Sem.run_bind] at hq ⊢;generalize a.tmps.getD y undef=r at hq ⊢
    cases r with
    | pointer p =>
     cases p with
     | none=>simp[Instr.sureAddr] at hq
     | some p=>simpa[Instr.sureAddr,asAddr] using hq
    | _=>simp[Instr.sureAddr] at hq
  · simp at hx
theorem aMz (hT:TOK P T) {ν:Nu} {S:St} {σ:List Pl} {a:Act} {w:World} (hR:Rel w0 X ν S σ a w) : ∀ (rs:List ResultVar) (vs:List LV) (ns:List Need),aHi T S rs=some (vs,ns)→aAZ ν ns →
 ∃ qs:List Value,(rs.mapM (aIh a.tmps)).run P w = .ok qs w∧LRs ν w X σ vs qs
 | [],vs,ns,h,hn=>by
  simp only[aHi,Option.some.injEq,Prod.mk.injEq] at h;obtain⟨rfl,rfl⟩:=h;exact⟨[],by simp,by simp[LRs]⟩
 | x::rs,vs,ns,h,hn=>by
  simp only[aHi] at h;split at h
  rotate_left
  · simp at h
  rename_i v ns1 vs' ns3 hx hrs;simp only[Option.some.injEq,Prod.mk.injEq] at h;obtain⟨rfl,rfl⟩:=h;obtain⟨qs,hqs,hd⟩:=aMz hT hR rs vs' ns3 hrs (fun n hm=>hn n (by simp[hm]));obtain⟨q,hq,lq⟩:=aMf hT hR hx (fun n hm=>hn n (by simp[hm]));refine⟨q::qs,?_,?_⟩
  · rw[List.mapM_cons];simp only[Sem.run_bind,hq,Result.andThen_ok,hqs,Sem.run_pure]
  · simp only[LRs];exact⟨lq,hd⟩
theorem aKw {ν:Nu} {w:World} {σ:List Pl} : ∀ {cs:List LV} (rs qs:List Value),LRs ν w X σ cs (rs++qs)→LRs ν w X σ (cs.take rs.length) rs∧LRs ν w X σ (cs.drop rs.length) qs
 | cs,[],qs,h=>by simpa[LRs] using h
 | [],r::rs,qs,h=>by simp only[List.cons_append,LRs] at h
 | c::cs,r::rs,qs,h=>by
  simp only[List.cons_append,LRs] at h;obtain⟨h1,h2⟩:=aKw rs qs h.2;simp only[List.length_cons,List.take_succ_cons,List.drop_succ_cons,LRs];exact⟨⟨h.1,h1⟩,h2⟩
theorem aKo {ν:Nu} {w:World} {σ:List Pl} : ∀ n:Nat,LRs ν w X σ (List.replicate n (.tup [])) (List.replicate n undef)
 | 0=>by simp[LRs]
 | n+1=>by
  simp only[List.replicate_succ,LRs];refine⟨?_,aKo n⟩;simp only[LR];exact⟨#[],rfl,by simp[LRs]⟩
theorem Rel.push {ν:Nu} {S:St} {σ:List Pl} {a:Act} {w:World} (h:Rel w0 X ν S σ a w) (fn:Func) {as_:List LV} {vs:List Value} (hv:LRs ν w X σ as_ vs) :
 Rel { w0 with gs:=a.tmps.toList++w0.gs } X ν (aS7 fn as_ S) σ { tmps:=vs.toArray++Array.replicate (fn.ntmps - vs.toArray.size) undef,defers:=[] } w :=
 { defers:=rfl,F:=by
    have:=aCi hv (aKo (X:=X) (ν:=ν) (w:=w) (σ:=σ) (fn.ntmps - as_.length))
    simpa[aS7,aBe hv] using this
   len:=h.len,L:=h.L,inj:=h.inj,own:=h.own,old:=⟨h.old.os,h.old.tape,h.old.output,h.old.size,h.old.block,h.old.gy,h.old.ysz⟩,ex:=h.ex,glo:=h.glo,n:=h.n,G:=aCi h.F h.G }
theorem Rel.pop {ν0:Nu} {S0:St} {σ0:List Pl} {w':World} {ν:Nu} {S:St} {σ:List Pl} {a a1:Act} {w:World} (h0:Rel w0 X ν0 S0 σ0 a w') (h:Rel { w0 with gs:=a.tmps.toList++w0.gs } X ν S σ a1 w) (dst:Option Tmp) {v:LV} {r:Value} (lv:LR ν w X σ v r) :
 Rel w0 X ν (popS S0.F.length dst v S) σ (a.put dst r) w:=by
 obtain⟨l1,l2⟩:=aKw _ _ h.G;have hl:=aBe h0.F;rw[←hl] at l1 l2
 exact Rel.put (w0:=w0) (S:={ S with F:=S.G.take S0.F.length,G:=S.G.drop S0.F.length }) (a:=a)
  { defers:=h0.defers,F:=l1,len:=h.len,L:=h.L,inj:=h.inj,own:=h.own,old:=⟨h.old.os,h.old.tape,h.old.output,h.old.size,h.old.block,h.old.gy,h.old.ysz⟩,ex:=h.ex,glo:=h.glo,n:=h.n,G:=l2 } dst lv
theorem aKP (hT:TOK P T) {B:FuncId→Option Func} (hB : ∀ f fn,B f=some fn→P.funcs[f]? = some fn) {rn:Nat→(Ex→St→Tr)→Code→St→Tr} {m1:Nat} {Q:Exit→Act→World→Prop} {Ag1:Nu→Nat→List D→Prop}
 (hrn : ∀ (ret:Nat) (fin:Ex→St→Tr) (c:Code) (gs:List Value) (Q':Exit→Act→World→Prop) (Ag:Nu→Nat→List D→Prop),Agr m1 Ag Ag1→(∀ l a w,¬ Q' (.goto l) a w) →
  (∀ (Ag':Nu→Nat→List D→Prop),Agr m1 Ag' Ag→∀ (ν:Nu) (e:Ex) (S:St) (σ:List Pl) (a:Act) (w:World),den P Fin Ag' ν (fin e S)→Rel { w0 with gs:=gs } X ν S σ a w→Q' (aQq e) a w) →
  ∀ (ν:Nu) (S:St) (σ:List Pl) (a:Act) (w:World),den P Fin Ag ν (rn ret fin c S)→Rel { w0 with gs:=gs } X ν S σ a w→c.wp P Q' a w) :
 aUw P Fin w0 X m1 (aRk T B rn) Q Ag1:=by
 intro Ag hA o S k t ht ν σ a w K hd hR hK;unfold aRk at ht;split at ht
 · simp at ht
 rename_i f fn args hc;split at ht
 · simp at ht
 rename_i c hb;cases hbl:Nat.ble args.length fn.ntmps && !(fn.name == "runtime.NumGoroutine")
 · rw[hbl] at ht; simp at ht
 rw[hbl] at ht;simp only[cond_true,Option.some.injEq] at ht;subst ht;simp only[Bool.and_eq_true,Bool.not_eq_true'] at hbl
 have hop:aGR T S.ev o.op=some (f,args)∧B f=some fn:=by
  unfold aM7 at hc;split at hc
  · rename_i f' args' hz;split at hc
    · rename_i fn' hfn;simp only[Option.some.injEq,Prod.mk.injEq] at hc;obtain⟨rfl,rfl,rfl⟩:=hc;exact⟨hz,hfn⟩
    · simp at hc
  · simp at hc
 obtain⟨hcall,hBf⟩:=hop;have hf:=hB f fn hBf;have hent:=canEnter_of hf hbl.2 (by rw[hb]; rfl);obtain⟨rs,hl,hexec⟩:=aOe hT (fun x _=>aCv hR.F x) hcall hent;unfold Oper.wp;rw[hexec];refine (calls_of_wp (R:=fun e w'=>∃ v,e = .returned v∧K (a.put o.dst v) w') hf hb ?_).mono ?_
 · refine hrn _ _ c (a.tmps.toList++w0.gs) _ Ag hA (fun l a w h=>h) (fun Ag' hA' ν' e S1 σ' a1 w1 hd' hR'=>?_) ν _ σ _ w hd (hR.push fn hl);split at hd'
   · rename_i vs ns hres;obtain⟨hn,hd'⟩:=aA5 _ hd';obtain⟨qs,hqs,lq⟩:=aMz hT hR' _ _ _ hres (hn rfl)
     have hrun:(results fn a1.tmps).run P w1 = .ok (if h:qs.toArray.size=1 then qs.toArray[0] else .tuple qs.toArray) w1:=by
      rw[aIo,Array.mapM_eq_mapM_toList];simp only[Sem.run_bind,Sem.run_map,hqs,Result.andThen_ok,Sem.run_pure]
     have lv:LR ν' w1 X σ' (resV vs) (if h:qs.toArray.size=1 then qs.toArray[0] else .tuple qs.toArray):=by
      match vs,qs,lq with
      | [],[],lq =>
       simp only[resV,LR];exact⟨#[],rfl,lq⟩
      | [v],[q],lq =>
       simp only[LRs] at lq;simpa[resV] using lq.1
      | v::v'::vs,q::q'::qs,lq =>
       simp only[resV,LR];exact⟨(q::q'::qs).toArray,by simp,lq⟩
      | [],_::_,lq=>simp only[LRs] at lq
      | _::_,[],lq=>simp only[LRs] at lq
      | [_],_::_::_,lq=>simp only[LRs] at lq; exact lq.2.elim
      | _::_::_,[_],lq=>simp only[LRs] at lq; exact lq.2.elim
     have hfin:=hK Ag' hA' _ _ _ _ _ hd' (Rel.pop hR hR' o.dst lv)
     cases e with
     | normal=>exact⟨hR'.defers,_,hrun,_,rfl,hfin⟩
     | ret=>exact⟨hR'.defers,_,hrun,_,rfl,hfin⟩
   · simp[den] at hd'
 · rintro e w' ⟨v,rfl,h⟩;exact h
end
section
variable {P:Program} {T:Tab} {w0:Base} {X:Nat→Prop} {Fin:Nu→Ex→St→Prop} {Q:Exit→Act→World→Prop}
theorem aGj {M:Nat→Act→World→Prop} : ∀ (K:List Kont) (a:Act) (w:World),Q .ret a w→aDu P Q M K .ret a w
 | [],a,w,h=>h
 | .code c::K,a,w,h=>aGj K a w h
 | .blk id::K,a,w,h=>aGj K a w h
 | .mark m _ _::K,a,w,h=>aGj K a w h
theorem aFe {M:Nat→Act→World→Prop} (id:Nat) : ∀ (K K':List Kont) (a:Act) (w:World),aCB id K=some K'→aDu P Q M K' .normal a w→aDu P Q M K (.exit id) a w
 | [],K',a,w,h,_=>by simp[aCB] at h
 | .code c::K,K',a,w,h,hp=>aFe id K K' a w (by simpa[aCB] using h) hp
 | .mark m _ _::K,K',a,w,h,hp=>aFe id K K' a w (by simpa[aCB] using h) hp
 | .blk id'::K,K',a,w,h,hp=>by
  simp only[aCB] at h;simp only[aDu];cases hb:Nat.beq id' id
  · rw[hb] at h;simp only[cond_false] at h
    have hne : ¬ id=id':=fun e=>by
     subst e;simp at hb
    rw[if_neg hne];exact aFe id K K' a w h hp
  · rw[hb] at h;simp only[cond_true,Option.some.injEq] at h;subst h;rw[if_pos (Nat.eq_of_beq_eq_true hb).symm];exact hp
theorem aC0 (hT:TOK P T) (hm:P.follows .mixedOrders=true) {B:FuncId→Option Func} (hB : ∀ f fn,B f=some fn→P.funcs[f]? = some fn) :
 ∀ (n:Nat) (ret:Nat) (fin:Ex→St→Tr) (m0:Nat) (w0:Base) (Q:Exit→Act→World→Prop) (_ : ∀ l a w,¬ Q (.goto l) a w) (Ag0:Nu→Nat→List D→Prop)
  (_ : ∀ (Ag':Nu→Nat→List D→Prop),Agr m0 Ag' Ag0→∀ (ν:Nu) (e:Ex) (S:St) (σ:List Pl) (a:Act) (w:World),den P Fin Ag' ν (fin e S)→Rel w0 X ν S σ a w→Q (aQq e) a w)
  (K:List Kont) (Ag:Nu→Nat→List D→Prop) (_:Agr m0 Ag Ag0) (M:Nat→Act→World→Prop)
  (_ : ∀ m n0 H,Kont.mark m n0 H∈K→∀ (ν:Nu) (S:St) (θ:List (Srt×E)) (σ:List Pl) (a:Act) (w:World),aGc n0 H S=some θ→Ag ν m (θ.map (mkD ν))→Rel w0 X ν S σ a w→M m a w) (_:KOK m0 K)
  (ν:Nu) (S:St) (σ:List Pl) (a:Act) (w:World),den P Fin Ag ν (runB T B n ret fin m0 K S)→Rel w0 X ν S σ a w→aDu P Q M K .normal a w
 | 0,ret,fin,m0,w0,Q,hG,Ag0,hQ,K,Ag,hA,M,hM,hk,ν,S,σ,a,w,hd,hR=>by simp[runB,den] at hd
 | n+1,ret,fin,m0,w0,Q,hG,Ag0,hQ,[],Ag,hA,M,hM,hk,ν,S,σ,a,w,hd,hR=>hQ Ag hA ν .normal S σ a w hd hR
 | n+1,ret,fin,m0,w0,Q,hG,Ag0,hQ,.blk id::K,Ag,hA,M,hM,hk,ν,S,σ,a,w,hd,hR=>aC0 hT hm hB n ret fin m0 w0 Q hG Ag0 hQ K Ag hA M (fun m n0 H hx=>hM m n0 H (List.mem_cons_of_mem _ hx)) hk ν S σ a w hd hR
 | n+1,ret,fin,m0,w0,Q,hG,Ag0,hQ,.mark m n0 H::K,Ag,hA,M,hM,hk,ν,S,σ,a,w,hd,hR=>by
  simp only[runB,aSG] at hd;simp only[aDu];split at hd
  · rename_i θ hθ;exact hM m n0 H (by simp) ν S θ σ a w hθ hd hR
  · split at hd
    · rename_i S' ns hcl;split at hd
      · rename_i θ hθ;obtain⟨hn,hd⟩:=aA5 _ hd;obtain⟨σ',hR'⟩:=aCg _ _ _ _ _ hcl (hn rfl) hR;exact hM m n0 H (by simp) ν S' θ σ' a w hθ hd hR'
      · simp[den] at hd
    · simp[den] at hd
 | n+1,ret,fin,m0,w0,Q,hG,Ag0,hQ,.code c::K,Ag,hA,M,hM,hk,ν,S,σ,a,w,hd,hR=>by
  have ih0:=fun K Ag hA=>aC0 hT hm hB n ret fin m0 w0 Q hG Ag0 hQ K Ag hA;have hM' : ∀ m n0 H,Kont.mark m n0 H∈K→∀ (ν:Nu) (S:St) (θ:List (Srt×E)) (σ:List Pl) (a:Act) (w:World),aGc n0 H S=some θ→Ag ν m (θ.map (mkD ν))→Rel w0 X ν S σ a w→M m a w:=fun m n0 H hx=>hM m n0 H (List.mem_cons_of_mem _ hx);have ih:=ih0 K Ag hA M hM' hk;have ihc:=fun x=>ih0 (.code x::K) Ag hA M (fun m n0 H hx=>hM' m n0 H (by simpa using hx)) hk;simp only[runB] at hd;show c.wp P (aDu P Q M K) a w
  cases c with
  | skip=>exact wp_skip (ih ν S σ a w hd hR)
  | label l=>exact wp_label (ih ν S σ a w hd hR)
  | seq x y =>
   refine wp_seq ?_
   have:=ih0 (.code x :: .code y::K) Ag hA M (fun m n0 H hx=>hM' m n0 H (by simpa using hx)) hk ν S σ a w hd hR
   refine Code.wp_mono (fun e a' w' h=>?_) this;cases e <;> exact h
  | region id ops d =>
   cases d
   · simp only[cond_false] at hd
     have hle:m0≤m0+aB1 K:=by omega
     refine wp_region_list (aDN hT ops (m0+aB1 K) Ag (aKP hT hB fun ret' fin' c' gs Q' Ag' hA' hG' hQ' ν' S' σ' a' w' hd' hR'=>?_) (fun Ag' hA' ν' S' σ' a' w' hd' hR'=>?_) ops.toList Ag (Agr.refl _ _) ν S σ a w hd hR)
     · exact aC0 hT hm hB n ret' fin' (m0+aB1 K) { w0 with gs:=gs } Q' hG' Ag' hQ' [.code c'] Ag' (Agr.refl _ _) (fun _ _ _=>True) (fun m n0 H hx=>by simp at hx) trivial ν' S' σ' a' w' hd' hR'
     · exact ih0 K Ag' ((hA'.less hle).trans hA) M (fun m n0 H hx ν S θ σ a w hmt hag hrel=>hM' m n0 H hx ν S θ σ a w hmt (hA' m (KOK.lt (K:=K) hk hx) _ _ hag) hrel) hk ν' S' σ' a' w' hd' hR'
   · simp only[cond_true] at hd
     have hle:m0≤m0+aB1 K:=by omega
     split at hd
     · rename_i o hp;refine aOn hm hp (aHo hT (fun ν' S' σ' a' w' hd' hR'=>aDN hT ops (m0+aB1 K) Ag (aKP hT hB fun ret' fin' c' gs Q' Ag' hA' hG' hQ' ν' S' σ' a' w' hd' hR'=>?_) (fun Ag' hA' ν' S' σ' a' w' hd' hR'=>?_) [o] Ag (Agr.refl _ _) ν' S' σ' a' w' hd' hR') hd hR)
       · exact aC0 hT hm hB n ret' fin' (m0+aB1 K) { w0 with gs:=gs } Q' hG' Ag' hQ' [.code c'] Ag' (Agr.refl _ _) (fun _ _ _=>True) (fun m n0 H hx=>by simp at hx) trivial ν' S' σ' a' w' hd' hR'
       · exact ih0 K Ag' ((hA'.less hle).trans hA) M (fun m n0 H hx ν S θ σ a w hmt hag hrel=>hM' m n0 H hx ν S θ σ a w hmt (hA' m (KOK.lt (K:=K) hk hx) _ _ hag) hrel) hk ν' S' σ' a' w' hd' hR'
     · exact aNF hT hm (fun ν' S' σ' a' w' hd' hR'=>ih ν' S' σ' a' w' hd' hR') hd hR
  | cond c x y =>
   dsimp only at hd
   split at hd
   · rename_i hc;have lc:=aCv hR.F c;rw[hc] at lc;simp only[LR,denB] at lc;exact wp_cond_true lc (ihc x ν S σ a w hd hR)
   · rename_i hc;have lc:=aCv hR.F c;rw[hc] at lc;simp only[LR,denB] at lc;exact wp_cond_false lc (ihc y ν S σ a w hd hR)
   · rename_i e h1 h2 hc;have lc:=aCv hR.F c;rw[hc] at lc;simp only[LR] at lc;simp only[den] at hd
     have kn : ∀ b,denB ν e=b→Rel w0 X ν (aFI S c b) σ a w:=fun b hb=>by
      unfold aFI;split
      · rename_i t;refine hR.reset t (fun r hr=>?_)
        have:a.eval (.tmp t)=r:=by simp[Act.eval,Array.getD_eq_getD_getElem?,hr]
        rw[this] at lc;subst lc;simp only[LR,denB,hb]
      · exact hR
     exact wp_cond_split lc (fun ht=>ihc x ν _ σ a w (hd.1 ht) (kn true ht)) (fun hf=>ihc y ν _ σ a w (hd.2 hf) (kn false hf))
   · rename_i e hc;have lc:=aCv hR.F c;rw[hc] at lc;simp only[LR] at lc;obtain⟨b,lc,hb⟩:=lc;simp only[den] at hd;cases b
     · exact wp_cond_false lc (ihc y ν S σ a w hd.2 hR)
     · exact wp_cond_true lc (ihc x ν S σ a w (hd.1 (hb rfl)) hR)
   · rename_i e hc;have lc:=aCv hR.F c;rw[hc] at lc;simp only[LR] at lc;obtain⟨b,lc,hb⟩:=lc;simp only[den] at hd;cases b
     · exact wp_cond_false lc (ihc y ν S σ a w (hd.1 (hb rfl)) hR)
     · exact wp_cond_true lc (ihc x ν S σ a w hd.2 hR)
   · simp[den] at hd
  | block id c =>
   refine wp_block ?_
   have:=ih0 (.code c :: .blk id::K) Ag hA M (fun m n0 H hx=>hM' m n0 H (by simpa using hx)) hk ν S σ a w hd hR
   refine Code.wp_mono (fun e a' w' h=>?_) this;cases e <;> exact h
  | loop c =>
   dsimp only at hd
   split at hd
   rotate_left
   · simp[den] at hd
   rename_i θ hθ;generalize aUB _ _ _ _ _ _ _=H at hθ hd;simp only[den] at hd;obtain⟨I,⟨k0,hI0⟩,hI⟩:=hd;obtain⟨⟨σ0,hR0⟩,hn0,hHn⟩:=aF2 hR hθ
   have hl:ν.take S.n=ν:=by rw[List.take_of_length_le]; rw[hR.n]; exact Nat.le_refl _
   rw[hl] at hR0
   let J:Nat→Act→World→Prop:=fun k a w=>∃ (ds:List D) (σ:List Pl),ds.length=θ.length∧I ds k∧Rel w0 X (ν++ds) H σ a w
   refine aUd J (fun k a w hj=>?_) k0 a w ⟨_,σ0,by simp,hI0,hR0⟩;obtain⟨ds,σ1,hdl,hik,hR1⟩:=hj
   let M1:Nat→Act→World→Prop:=fun m' a w=>if m'=(m0+aB1 K) then ∃ k',k'<k∧J k' a w else M m' a w
   have hd1:=aCd _ _ (fun ν' m' ds'=>if m'=(m0+aB1 K) then (ν++ds) <+: ν'∧∃ k',k'<k∧I ds' k' else Ag ν' m' ds') _ (fun ν' m' ds' hp=>by
    by_cases hm':m'=(m0+aB1 K)
    · simp only[hm',if_true]; exact fun h=>⟨hp,h⟩
    · simp only[hm',if_false]; exact id) (hI k ds hdl hik)
   have hmem : ∀ {m' n0:Nat} {H':St},Kont.mark m' n0 H'∈K→m'≠(m0+aB1 K):=fun hx=>Nat.ne_of_lt (KOK.lt (K:=K) hk hx)
   have:=ih0 (.code c :: .mark (m0+aB1 K) S.n H::K) (fun ν' m' ds'=>if m'=(m0+aB1 K) then (ν++ds) <+: ν'∧∃ k',k'<k∧I ds' k' else Ag ν' m' ds') (fun m' hm' ν' ds' ha=>by
    simp only[if_neg (show m'≠m0+aB1 K by omega)] at ha
    exact hA m' hm' ν' ds' ha) M1 (fun m' n0 H' hx=>by
    intro ν' S' θ' σ' a' w' hmt hag hrel;simp only[List.mem_cons,reduceCtorEq,false_or] at hx;rcases hx with hx | hx
    · simp only[Kont.mark.injEq] at hx;obtain⟨rfl,rfl,rfl⟩:=hx;simp only[M1,if_true] at hag ⊢;obtain⟨hp,k',hk',hi'⟩:=hag;obtain⟨⟨σ2,hR2⟩,hn2,hHn2⟩:=aF2 hrel hmt;refine⟨k',hk',_,σ2,?_,hi',?_⟩
      · simp only[List.length_map];omega
      · have:ν'.take S.n=ν:=by
         obtain⟨r,hr⟩:=hp;rw[←hr,List.append_assoc,List.take_append_of_le_length (by rw[hR.n]; exact Nat.le_refl _),hl]
        rw[this] at hR2;exact hR2
    · have hne:=hmem hx;simp only[M1,if_neg hne] at hag ⊢;exact hM' m' n0 H' hx ν' S' θ' σ' a' w' hmt hag hrel) ⟨rfl,hk⟩ (ν++ds) H σ1 a w hd1 hR1
   refine Code.wp_mono (fun e a' w' h=>?_) this
   cases e with
   | normal =>
    have h:M1 (m0+aB1 K) a' w':=h;simp only[M1,if_true] at h;exact h
   | _=>exact aDf K (fun m' n0 H' hx=>by simp only[M1,if_neg (hmem hx)]) _ _ _ h
  | scope c =>
   refine wp_scope_straight ?_
   have:=ihc c ν S σ a w hd hR
   refine Code.wp_mono (fun e a' w' h=>?_) this
   cases e with
   | goto l=>exact absurd h (aEg hG l K a' w')
   | _=>exact h
  | exit id =>
   dsimp only at hd
   split at hd
   · rename_i K' hK';obtain⟨hk',hsub⟩:=aD5 id K K' hK' hk;exact wp_exit (aFe id K K' a w hK' (ih0 K' Ag hA M (fun m n0 H hx=>hM' m n0 H (hsub _ hx)) hk' ν S σ a w hd hR))
   · simp[den] at hd
  | ret=>exact wp_ret (aGj K a w (hQ Ag hA ν .ret S σ a w hd hR))
  | _=>simp[den] at hd
theorem aQE (hT:TOK P T) (hm:P.follows .mixedOrders=true) {B:FuncId→Option Func} (hB : ∀ f fn,B f=some fn→P.funcs[f]? = some fn) (ret:Nat) (hQ : ∀ (ν:Nu) (e:Ex) (S:St) (σ:List Pl) (a:Act) (w:World),Fin ν e S→Rel w0 X ν S σ a w→Q (aQq e) a w)
 (hG : ∀ l a w,¬ Q (.goto l) a w) (n:Nat) (c:Code) (ν:Nu) (S:St) (σ:List Pl) (a:Act) (w:World) (hd:den P Fin (fun _ _ _=>False) ν (runB T B n ret .done 0 [.code c] S)) (hR:Rel w0 X ν S σ a w):c.wp P Q a w :=
 aC0 hT hm hB n ret .done 0 w0 Q hG (fun _ _ _=>False) (fun Ag' _ ν e S σ a w hd hR=>hQ ν e S σ a w hd hR) [.code c] (fun _ _ _=>False) (Agr.refl _ _) (fun _ _ _=>True) (fun m n0 H hx=>by simp at hx) trivial ν S σ a w hd hR
def aD4 (get:Nat→Option Ob):List LV→Option (List LV×List Need)
 | []=>some ([],[])
 | v::r=>match aggV v,aB3 get v,aD4 get r with
  | false,some (a,ns),some (b,ms)=>some (a::b,ns++ms)
  | _,_,_=>none
def aK1 (get:Nat→Option Ob) (v:LV):Option (LV×List Need) :=
 match v with
 | .agg cs=>match aD4 get cs with
  | some (cs',ns)=>some (.agg cs',ns)
  | none=>none
 | v=>aB3 get v
def aIe (T:Tab) (S:St):List ResultVar→Option (List LV×List Need)
 | []=>some ([],[])
 | x::r=>match aJs T S x,aIe T S r with
  | some (v,ns),some (vs,ms)=>match aK1 (getO S.L) v with
   | some (v',ns')=>some (v'::vs,ns++ns'++ms)
   | none=>none
  | _,_=>none
def aNW (ν:Nu):List LV→DV
 | [v]=>dvOf ν v
 | vs=>.tup (aAX ν vs)
def FinR (T:Tab) (rs:List ResultVar) (res:DV) (ν:Nu) (_:Ex) (S:St):Prop :=
 match aIe T S rs with
 | some (vs,ns)=>aAZ ν ns∧aNW ν vs=res
 | none=>False
theorem aMI {ν:Nu} {S:St} {σ:List Pl} {a:Act} {w:World} (hR:Rel w0 X ν S σ a w) {v v':LV} {ns:List Need} (h:aB3 (getO S.L) v=some (v',ns)) {r:Value} (l:LR ν w X σ v r) (hn:aAZ ν ns):DVR w X (dvOf ν v') r :=
 aOS h l (fun id hid=>aBx hR id (aB2 l hid)) hn (fun b hb=>.inl hb) (.inr fun id p b c _ hp hc hx=>by
  exact hR.free ⟨id,p,c,hp,hc⟩ hx)
theorem aKZ {get:Nat→Option Ob} {v v':LV} {ns:List Need} (hv:aggV v=false) (h:aB3 get v=some (v',ns)) (ν:Nu):dvOf ν v' = .c (cvOf ν v'):=by
 unfold aB3 at h;split at h
 · simp only[Option.some.injEq,Prod.mk.injEq] at h;obtain⟨rfl,_⟩:=h;rfl
 · simp[aggV] at hv
 · simp[aggV] at hv
 · simp[aggV] at hv
 · split at h
   · simp only[Option.some.injEq,Prod.mk.injEq] at h;obtain⟨rfl,_⟩:=h;rfl
   · simp at h
 · cases hb:v.shut
   · rw[hb] at h; simp at h
   rw[hb] at h;simp only[cond_true,Option.some.injEq,Prod.mk.injEq] at h;obtain⟨rfl,_⟩:=h
   cases v <;> first | rfl | simp[LV.shut] at hb
theorem aH3 {ν:Nu} {S:St} {σ:List Pl} {a:Act} {w:World} (hR:Rel w0 X ν S σ a w) : ∀ {cs cs':List LV} {ns:List Need} (_:aD4 (getO S.L) cs=some (cs',ns)) {rs:List Value} (_:LRs ν w X σ cs rs) (_:aAZ ν ns),CVRs w X (cs'.map (cvOf ν)) rs
 | [],cs',ns,h,rs,l,hn=>by
  simp only[aD4,Option.some.injEq,Prod.mk.injEq] at h;obtain⟨rfl,rfl⟩:=h
  cases rs with
  | nil=>simp[CVRs]
  | cons r rs=>simp only[LRs] at l
 | v::cs,cs',ns,h,rs,l,hn=>by
  cases rs with
  | nil=>simp only[LRs] at l
  | cons r rs =>
   simp only[LRs] at l;simp only[aD4] at h;split at h
   · rename_i a1 n1 b1 n2 hv ha hb;simp only[Option.some.injEq,Prod.mk.injEq] at h;obtain⟨rfl,rfl⟩:=h;have h1:=aMI hR ha l.1 (fun n hm=>hn n (by simp[hm]));rw[aKZ hv ha ν] at h1;simp only[DVR] at h1;simp only[List.map_cons,CVRs];exact⟨h1,aH3 hR hb l.2 (fun n hm=>hn n (by simp[hm]))⟩
   · simp at h
theorem aRN {ν:Nu} {S:St} {σ:List Pl} {a:Act} {w:World} (hR:Rel w0 X ν S σ a w) {v v':LV} {ns:List Need} (h:aK1 (getO S.L) v=some (v',ns)) {r:Value} (l:LR ν w X σ v r) (hn:aAZ ν ns):DVR w X (dvOf ν v') r:=by
 unfold aK1 at h;split at h
 · split at h
   · rename_i cs' ns' hc;simp only[Option.some.injEq,Prod.mk.injEq] at h;obtain⟨rfl,rfl⟩:=h;simp only[LR] at l;obtain⟨a,rfl,la⟩:=l;simp only[dvOf,DVR];exact⟨a,rfl,aH3 hR hc la hn⟩
   · simp at h
 · exact aMI hR h l hn
theorem aKE (hT:TOK P T) {ν:Nu} {S:St} {σ:List Pl} {a:Act} {w:World} (hR:Rel w0 X ν S σ a w) : ∀ (rs:List ResultVar) (vs:List LV) (ns:List Need),aIe T S rs=some (vs,ns)→aAZ ν ns →
 ∃ qs:List Value,(rs.mapM (aIh a.tmps)).run P w = .ok qs w∧DVRs w X (aAX ν vs) qs
 | [],vs,ns,h,hn=>by
  simp only[aIe,Option.some.injEq,Prod.mk.injEq] at h;obtain⟨rfl,rfl⟩:=h;exact⟨[],by simp,by simp[aAX,DVRs]⟩
 | x::rs,vs,ns,h,hn=>by
  simp only[aIe] at h;split at h
  rotate_left
  · simp at h
  rename_i v ns1 vs' ns3 hx hrs;split at h
  rotate_left
  · simp at h
  rename_i v' ns2 hs;simp only[Option.some.injEq,Prod.mk.injEq] at h;obtain⟨rfl,rfl⟩:=h;obtain⟨qs,hqs,hd⟩:=aKE hT hR rs vs' ns3 hrs (fun n hm=>hn n (by simp[hm]));have key : ∃ q,(aIh a.tmps x).run P w = .ok q w∧LR ν w X σ v q:=aMf hT hR hx (fun n hm=>hn n (by simp[hm]));obtain⟨q,hq,lq⟩:=key;refine⟨q::qs,?_,?_⟩
  · rw[List.mapM_cons];simp only[Sem.run_bind,hq,Result.andThen_ok,hqs,Sem.run_pure]
  · simp only[aAX,DVRs];exact⟨aRN hR hs lq (fun n hm=>hn n (by simp[hm])),hd⟩
theorem aU5 (hT:TOK P T) (hm:P.follows .mixedOrders=true) {B:FuncId→Option Func} (hB : ∀ f fn,B f=some fn→P.funcs[f]? = some fn) {f:FuncId} {fn:Func} (hf:P.funcs[f]? = some fn) (hn:(fn.name == "runtime.NumGoroutine")=false) {c:Code} (hb:fn.body=some c) (n:Nat) (ν:Nu) (ps:List LV) (hps:ps.all aCW=true) (hlen:ps.length≤fn.ntmps) {res:DV}
 (hd:den P (FinR T fn.results.toList res) (fun _ _ _=>False) ν (runB T B n (aHe fn.results.toList) .done 0 [.code c] ⟨ps++List.replicate (fn.ntmps - ps.length) (.tup []),[],ν.length,[]⟩)):FnC P f (aAX ν ps) res:=by
 refine FnC.of (canEnter_of hf hn (by rw[hb]; rfl)) fun w X vs hglo hX hvs=>?_;refine calls_of_wp hf hb ?_
 have hlp : ∀ (ps:List LV) (vs:List Value),ps.all aCW=true→DVRs w X (aAX ν ps) vs→LRs ν w X [] ps vs:=fun ps vs h1 h2=>by
  have e:Exc X []=X:=by
   funext b
   apply propext
   exact⟨fun h=>by
    rcases h with h | ⟨i,p,c,hi,_⟩
    · exact h
    · simp at hi,fun h=>.inl h⟩
  refine aJf h1 (.inr rfl) ?_;rw[e];exact h2
 have l1:=hlp ps vs hps hvs;have hl1:=aBe l1
 have hund : ∀ n:Nat,LRs ν w X [] (List.replicate n (.tup [])) (List.replicate n undef):=fun n=>by
  induction n with
  | zero=>simp[LRs]
  | succ n ih =>
   simp only[List.replicate_succ,LRs];refine⟨?_,ih⟩;simp only[LR];exact⟨#[],rfl,by simp[LRs]⟩
 have happ : ∀ (cs:List LV) (rs:List Value) (cs':List LV) (rs':List Value),LRs ν w X [] cs rs→LRs ν w X [] cs' rs'→LRs ν w X [] (cs++cs') (rs++rs'):=by
  intro cs
  induction cs with
  | nil =>
   intro rs cs' rs' h h'
   cases rs with
   | nil=>simpa using h'
   | cons r rs=>simp only[LRs] at h
  | cons c cs ih =>
   intro rs cs' rs' h h'
   cases rs with
   | nil=>simp only[LRs] at h
   | cons r rs =>
    simp only[LRs] at h;simp only[List.cons_append,LRs];exact⟨h.1,ih rs cs' rs' h.2 h'⟩
 have hR:Rel ⟨w,fun _=>False,[]⟩ X ν ⟨ps++List.replicate (fn.ntmps - ps.length) (.tup []),[],ν.length,[]⟩ [] { tmps:=vs.toArray++Array.replicate (fn.ntmps - vs.toArray.size) undef,defers:=[] } w :=
  { defers:=rfl,F:=by
     have:=happ ps vs _ _ l1 (hund (fn.ntmps - ps.length))
     simpa[hl1] using this
    len:=rfl,L:=fun i ob pl hob hi=>by simp at hi,inj:=fun i j p q b c d hi=>by simp at hi
    own:=fun b hb=>by
     obtain⟨i,p,c,hi,_⟩:=hb;simp at hi
    old:=⟨rfl,rfl,rfl,Nat.le_refl _,fun _ _ _=>rfl,fun _ _ h=>h,fun b a e fr h=>⟨a,e,fr,h,rfl⟩⟩,ex:=fun b hb=>⟨hX b hb,fun h=>h⟩,glo:=hglo,n:=rfl,G:=by simp[LRs] }
 have:=aQE (Q:=bodyPost P fn fun e w'=>∃ v,e = .returned v∧DVR w' X res v∧Below w.heap.size w w') hT hm hB _ (fun ν' e S σ a w' hfin hR'=>by
  unfold FinR at hfin;split at hfin
  · rename_i rvs ns hres;obtain⟨hns,hres'⟩:=hfin;obtain⟨qs,hqs,hdv⟩:=aKE hT hR' _ _ _ hres hns
    have hrun:(results fn a.tmps).run P w' = .ok (if h:qs.toArray.size=1 then qs.toArray[0] else .tuple qs.toArray) w':=by
     rw[aIo,Array.mapM_eq_mapM_toList];simp only[Sem.run_bind,Sem.run_map,hqs,Result.andThen_ok,Sem.run_pure]
    have hd1:DVR w' X res (if h:qs.toArray.size=1 then qs.toArray[0] else .tuple qs.toArray):=by
     rw[←hres']
     cases rvs with
     | nil =>
      cases qs with
      | nil =>
       simp only[aNW,DVR];exact⟨#[],rfl,hdv⟩
      | cons q qs=>simp[aAX,DVRs] at hdv
     | cons v rvs =>
      cases qs with
      | nil=>simp[aAX,DVRs] at hdv
      | cons q qs =>
       cases rvs with
       | nil =>
        cases qs with
        | nil =>
         simp only[aAX,DVRs] at hdv;simpa[aNW] using hdv.1
        | cons q' qs=>simp[aAX,DVRs] at hdv
       | cons v' rvs =>
        cases qs with
        | nil=>simp[aAX,DVRs] at hdv
        | cons q' qs =>
         simp only[aNW,DVR];refine⟨(q::q'::qs).toArray,by simp,hdv⟩
    cases e with
    | normal=>exact⟨hR'.defers,_,hrun,_,rfl,hd1,hR'.old.os,hR'.old.tape,hR'.old.output,hR'.old.size,fun k hk=>hR'.old.block k hk (fun h=>h)⟩
    | ret=>exact⟨hR'.defers,_,hrun,_,rfl,hd1,hR'.old.os,hR'.old.tape,hR'.old.output,hR'.old.size,fun k hk=>hR'.old.block k hk (fun h=>h)⟩
  · exact hfin.elim) (fun l a w h=>h) n c ν _ [] _ w hd hR
 exact this
end
end
end Go.Proofs.YtcdeimjlgpfjiaaGreatDoor
