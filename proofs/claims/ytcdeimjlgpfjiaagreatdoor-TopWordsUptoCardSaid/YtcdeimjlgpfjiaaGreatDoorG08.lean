/- A symbolic run of Go code: regions that draw their order, any order. No condition. -/
import Derived.Test.YtcdeimjlgpfjiaaGreatDoorG07
set_option linter.unusedSimpArgs false
set_option linter.unusedVariables false
namespace Go.Proofs.YtcdeimjlgpfjiaaGreatDoor
section
open Go.RowKit
theorem aHF : ∀ (l:List LV) (i:Nat) (x:LV) (j:Nat),getL (setL l i x) j=if j=i∧i<l.length then x else getL l j
 | [],i,x,j=>by simp[setL,getL]
 | y::l,0,x,0=>by simp[setL,getL]
 | y::l,0,x,j+1=>by simp[setL,getL]
 | y::l,i+1,x,0=>by simp[setL,getL]
 | y::l,i+1,x,j+1=>by
  simp only[setL,getL,aHF l i x j,Nat.add_right_cancel_iff,List.length_cons,Nat.add_lt_add_iff_right]
theorem aEt : ∀ (l:List LV) (i:Nat) (x:LV),(setL l i x).length=l.length
 | [],_,_=>rfl
 | _::_,0,_=>rfl
 | _::l,i+1,x=>by simp[setL,aEt l i x]
theorem aIb (S:St) (d:Option Tmp) (v:LV):(S.put d v).F.length=S.F.length:=by
 cases d with
 | none=>rfl
 | some d=>simp[St.put,aEt]
theorem aGp (S:St) (d:Option Tmp) (v:LV) (t:Nat):getL (S.put d v).F t=if d=some t∧t<S.F.length then v else getL S.F t:=by
 cases d with
 | none=>simp[St.put]
 | some d =>
  simp only[St.put,aHF,Option.some.injEq];by_cases e:t=d
  · subst e; simp
  · simp[e,Ne.symm e]
theorem aMv : ∀ (l l':List LV),l.length=l'.length→(∀ t,t<l.length→getL l t=getL l' t)→l=l'
 | [],[],_,_=>rfl
 | [],_::_,h,_=>by simp at h
 | _::_,[],h,_=>by simp at h
 | x::l,y::l',h,hg=>by
  have h0:=hg 0 (by simp);simp only[getL] at h0;rw[h0,aMv l l' (by simpa using h) fun t ht=>by simpa[getL] using hg (t+1) (by simpa using ht)]
theorem aJ0 : ∀ (l:List Ob) (i:Nat),l.length≤i→getO l i=none
 | [],i,h=>rfl
 | x::_,0,h=>by simp at h
 | _::l,i+1,h=>by simpa[getO] using aJ0 l i (by simpa using h)
theorem aMp : ∀ (l l':List Ob),l.length=l'.length→(∀ t,t<l.length→getO l t=getO l' t)→l=l'
 | [],[],_,_=>rfl
 | [],_::_,h,_=>by simp at h
 | _::_,[],h,_=>by simp at h
 | x::l,y::l',h,hg=>by
  have h0:=hg 0 (by simp);simp only[getO,Option.some.injEq] at h0;rw[h0,aMp l l' (by simpa using h) fun t ht=>by simpa[getO] using hg (t+1) (by simpa using ht)]
theorem aDd : ∀ (l r:List Ob) (i:Nat),getO (l++r) i=if i<l.length then getO l i else getO r (i - l.length)
 | [],r,i=>by simp[getO]
 | x::l,r,0=>by simp[getO]
 | x::l,r,i+1=>by
  simp only[List.cons_append,getO,aDd l r i,List.length_cons,Nat.add_lt_add_iff_right,Nat.add_sub_add_right]
theorem aEs : ∀ (n:Nat) (x:Ob) (i:Nat),i<n→getO (List.replicate n x) i=some x
 | 0,x,i,h=>by omega
 | n+1,x,0,h=>by simp[List.replicate_succ,getO]
 | n+1,x,i+1,h=>by simpa[List.replicate_succ,getO] using aEs n x i (by omega)
theorem aIx (p:Nat→Prop) (i:Nat) (h : ∃ j,j<i∧p j) : ∃ j,j<i∧p j∧∀ k,j<k→k<i→¬ p k:=by
 induction i with
 | zero=>obtain⟨j,hj,_⟩:=h; omega
 | succ i ih =>
  by_cases hp:p i
  · exact⟨i,by omega,hp,fun k h1 h2=>by omega⟩
  · obtain⟨j,hj,hpj⟩:=h
    have:j≠i:=fun e=>hp (e▸hpj)
    obtain⟨j',h1,h2,h3⟩:=ih ⟨j,by omega,hpj⟩;refine⟨j',by omega,h2,fun k hk1 hk2=>?_⟩;by_cases e:k=i
    · subst e; exact hp
    · exact h3 k hk1 (by omega)
theorem aQY (S:St) (id:Nat) (ob:Ob) (h:id≤S.L.length):id<(upS S (some (id,ob))).L.length∧S.L.length≤(upS S (some (id,ob))).L.length∧(upS S (some (id,ob))).L.length≤S.L.length+(if id=S.L.length then 1 else 0) ∧
 ∀ j,getO (upS S (some (id,ob))).L j=if j=id then some ob else getO S.L j:=by
 simp only[upS];cases hb:Nat.beq id S.L.length
 · have hne:id≠S.L.length:=fun e=>by subst e; simp at hb
   simp only[cond_false,aES,if_neg hne];refine⟨by omega,Nat.le_refl _,Nat.le_refl _,fun j=>?_⟩;rw[aDi];by_cases e:j=id
   · subst e; rw[if_pos ⟨rfl,by omega⟩,if_pos rfl]
   · rw[if_neg (fun h=>e h.1),if_neg e]
 · have he:=Nat.eq_of_beq_eq_true hb;subst he;simp only[cond_true,List.length_append,List.length_cons,List.length_nil,if_true];refine⟨by omega,by omega,by omega,fun j=>?_⟩;rw[aGv];by_cases e:j=S.L.length
   · subst e; simp
   · rw[if_neg e,if_neg e];split
     · rfl
     · rw[aJ0]; omega
section
variable {P:Program} {T:Tab} {w0:Base} {X:Nat→Prop} {Fin:Nu→Ex→St→Prop} {Ag:Nu→Nat→List D→Prop} {ops:Array Oper}
theorem aJK {o:Oper} {S:St} {e:Ev} (h:aF6 T ops o S=some e) {id:Nat} {ob:Ob} (hu:e.up=some (id,ob)):id≤S.L.length:=by
 unfold aF6 at h;split at h
 · simp at h
 · simp only[Option.some.injEq] at h;subst h;simp at hu
 rename_i g _ hg;have h:=aBR h;unfold evOp at h;split at h
 · rename_i f args hc;split at h
   · rename_i M hM;have h':=aAp h;cases hb:aA7 g&&Nat.blt M.id S.L.length&&aAU S.n M.ns&&LVs.ok S.n M.as_
     · rw[hb] at h; simp at h
     subst h';simp only[Bool.and_eq_true,Nat.blt_eq] at hb;simp only[Option.some.injEq,Prod.mk.injEq] at hu;omega
   split at h
   · have h':=aAp h;subst h';simp only[Option.some.injEq,Prod.mk.injEq] at hu;omega
   · split at h
     · rename_i as_ ns sh m hs hsh;have h:=aBR h;cases hfr:args.any isRs && !aCx sh
       · rw[hfr] at h;simp only[cond_false,Option.some.injEq] at h;subst h;simp at hu
       · rw[hfr] at h;simp only[cond_true] at h;split at h
         · rename_i i ob' hf;cases hgi:aA7 g&&Nat.blt i S.L.length
           · rw[hgi] at h; simp at h
           have h':=aAp h;subst h';simp only[Bool.and_eq_true,Nat.blt_eq] at hgi;simp only[Option.some.injEq,Prod.mk.injEq] at hu;omega
         · simp at h
     · simp at h
 · split at h
   · split at h
     · split at h
       · simp only[Option.some.injEq] at h;subst h;simp at hu
       · simp at h
     · simp at h
   · split at h
     · have h':=aAp h;subst h';simp at hu
     split at h
     · split at h
       · rename_i v' up dc m hE;have h':=aAp h;subst h';simp only at hu;subst hu;unfold effD at hE;split at hE
         · simp at hE
         · have h':=aAp hE;simp only[Prod.mk.injEq,Option.some.injEq] at h';omega
         · rename_i i ob' _;cases hb:aA7 g&&Nat.blt i S.L.length
           · rw[hb] at hE; simp at hE
           simp only[Bool.and_eq_true,Nat.blt_eq] at hb;have h':=aAp hE;simp only[Prod.mk.injEq,Option.some.injEq] at h';omega
         · have h':=aAp hE;simp only[Prod.mk.injEq,Option.some.injEq] at h';omega
         · rename_i d i _ _ _;cases hb:aA7 g&&Nat.blt i S.L.length&&d.ok S.n
           · rw[hb] at hE; simp at hE
           simp only[Bool.and_eq_true,Nat.blt_eq] at hb;have h':=aAp hE;simp only[Prod.mk.injEq,Option.some.injEq] at h';omega
       · simp at h
     · simp at h
theorem aGx {K:List (Nat×Bool)} {o:Oper} {S:St} {e:Ev} (h:aGh T K ops o S=some e) {id:Nat} {ob:Ob} (hu:e.up=some (id,ob)):id≤S.L.length:=by
 unfold aGh at h;split at h
 · simp at h
 rename_i e0 he0;simp only[Option.some.injEq] at h;rcases aKF K o.dst S.n e0 with hk | ⟨d,b,x,hd,hv,hg,hx,hk⟩
 · rw[hk] at h; subst h; exact aJK he0 hu
 · rw[hk] at h; subst h; exact aJK he0 hu
inductive Reach (ops:Array Oper):Nat→Nat→Prop where
 | one {i j:Nat} {o:Oper} {e:Edge}:ops[i]? = some o→e∈o.after→aAS e=true→e.on=j→Reach ops i j
 | more {i j:Nat} {o:Oper} {e:Edge}:ops[i]? = some o→e∈o.after→aAS e=true→Reach ops e.on j→Reach ops i j
theorem Reach.lt (hlow : ∀ (i:Nat) (o:Oper),ops[i]? = some o→∀ e∈o.after,aAS e=true→e.on<i) {i j:Nat} (h:Reach ops i j):j<i:=by
 induction h with
 | one h1 h2 h3 h4=>rw[←h4]; exact hlow _ _ h1 _ h2 h3
 | more h1 h2 h3 h4 ih=>exact Nat.lt_trans ih (hlow _ _ h1 _ h2 h3)
theorem Reach.closed {D:Nat→Prop} (hcl : ∀ i,D i→∀ o,ops[i]? = some o→∀ e∈o.after,aAS e=true→D e.on) {i j:Nat} (h:Reach ops i j) (hi : ∀ o,ops[i]? = some o→∀ e∈o.after,aAS e=true→D e.on):D j:=by
 induction h with
 | one h1 h2 h3 h4=>rw[←h4]; exact hi _ h1 _ h2 h3
 | more h1 h2 h3 h4 ih=>exact ih (hcl _ (hi _ h1 _ h2 h3))
theorem aL5 : ∀ (l:List Nat) (x i:Nat),getN (l++[x]) i=if i<l.length then getN l i else if i=l.length then x else 0
 | [],x,0=>by simp[getN]
 | [],x,i+1=>by simp[getN]
 | y::l,x,0=>by simp[getN]
 | y::l,x,i+1=>by
  simp only[List.cons_append,getN,aL5 l x i,List.length_cons,Nat.add_lt_add_iff_right,Nat.add_right_cancel_iff]
theorem aOM {acc:List Nat} {o:Oper} {i:Nat} (ho:ops[i]? = some o) (hacc : ∀ i j,Nat.testBit (getN acc i) j=true→Reach ops i j) : ∀ (l:List Edge),(∀ e∈l,e∈o.after)→∀ j,Nat.testBit (ancF acc l) j=true→Reach ops i j
 | [],_,j,h=>by simp[ancF] at h
 | e::l,hl,j,h=>by
  simp only[ancF] at h;have ih:=aOM ho hacc l (fun e he=>hl e (by simp[he])) j;cases hb:aAS e
  · rw[hb] at h; exact ih h
  rw[hb] at h;simp only[cond_true] at h;have e1 : ∀ a b:Nat,Nat.lor a b=a ||| b:=fun _ _=>rfl;have e2 : ∀ a b:Nat,Nat.shiftLeft a b=a <<< b:=fun _ _=>rfl;rw[e1,e1,e2,Nat.testBit_or,Nat.testBit_or,Bool.or_eq_true,Bool.or_eq_true] at h;rcases h with (h | h) | h
  · exact .more ho (hl e (by simp)) hb (hacc _ _ h)
  · rw[Nat.testBit_shiftLeft] at h;simp only[Bool.and_eq_true,decide_eq_true_eq] at h
    have h0:j - e.on=0:=by
     by_cases h0:j - e.on=0
     · exact h0
     · have:=h.2
       rw[Nat.testBit_one_eq_true_iff_self_eq_zero] at this;exact this
    exact .one ho (hl e (by simp)) hb (by omega)
  · exact ih h
theorem aLW : ∀ (l:List Oper) (acc:List Nat),(∀ j,l[j]? = ops[acc.length+j]?)→(∀ i j,Nat.testBit (getN acc i) j=true→Reach ops i j)→∀ i j,Nat.testBit (getN (ancs l acc) i) j=true→Reach ops i j
 | [],acc,_,hacc,i,j,h=>hacc i j h
 | o::l,acc,hl,hacc,i,j,h=>by
  have h0:ops[acc.length]? = some o:=by simpa using (hl 0).symm
  refine aLW l (acc++[ancF acc o.after.toList]) (fun j=>by have:=hl (j+1); simpa[Nat.add_assoc,Nat.add_comm 1 j] using this) (fun i j h=>?_) i j h;rw[aL5] at h;split at h
  · exact hacc i j h
  · split at h
    · rename_i he;subst he;exact aOM h0 hacc _ (fun e he=>by simpa using he) j h
    · simp at h
structure EdgesOK (ops:Array Oper):Prop where
 low : ∀ (i:Nat) (o:Oper),ops[i]? = some o→∀ e∈o.after,aAS e=true→e.on<i
 apart : ∀ (i j:Nat) (oi oj:Oper) (d:Tmp),ops[i]? = some oi→ops[j]? = some oj→oi.dst=some d→oj.dst=some d→i=j
 deps : ∀ (i:Nat) (o:Oper) (s:Tmp) (j:Nat) (oj:Oper),ops[i]? = some o→s∈o.looksAt ops→ops[j]? = some oj→oj.dst=some s→(∃ e∈o.after,aAS e=true∧e.on=j)∨i=j∨(i<j∧∃ e∈oj.after,aAS e=true∧e.on=i)
theorem aMd (h:okE ops=true):EdgesOK ops:=by
 unfold okE at h;simp only[Bool.and_eq_true] at h
 have hrow : ∀ (i:Nat) (o:Oper),ops[i]? = some o→rowD ops i o=true:=fun i o hi=>by
  have hlt:=(Array.getElem?_eq_some_iff.1 hi).1
  have:=List.all_eq_true.1 h.2 i (List.mem_range.2 hlt)
  rw[hi] at this;exact this
 have hrow2 : ∀ (i:Nat) (o:Oper) (j:Nat) (oj:Oper) (s:Tmp),ops[i]? = some o→ops[j]? = some oj→oj.dst=some s →
  ((((o.looksAt ops).contains s=false∨i=j)∨(o.after.any fun e=>aAS e&&Nat.beq e.on j)=true)∨(i<j∧(oj.after.any fun e=>aAS e&&Nat.beq e.on i)=true))∧(o.dst≠some s∨i=j):=fun i o j oj s hi hj hd=>by
  have hlt:=(Array.getElem?_eq_some_iff.1 hj).1
  have:=hrow i o hi
  unfold rowD at this;simp only[Bool.and_eq_true] at this
  have:=List.all_eq_true.1 this.2 j (List.mem_range.2 hlt)
  rw[hj] at this;simp only[hd,Bool.and_eq_true,Bool.or_eq_true,Bool.not_eq_true',bne_iff_ne] at this;exact⟨this.1.imp (Or.imp (Or.imp id Nat.eq_of_beq_eq_true) id) (fun h=>⟨by simpa using h.1,h.2⟩),this.2.imp id Nat.eq_of_beq_eq_true⟩
 refine⟨fun i o hi e he hb=>?_,fun i j oi oj s hi hj hdi hdj=>?_,fun i o s j oj hi hs hj hd=>?_⟩
 · have:=hrow i o hi
   unfold rowD at this;simp only[Bool.and_eq_true] at this
   have:=Array.all_eq_true_iff_forall_mem.1 this.1 e he
   rw[hb] at this;simpa using this
 · have:=(hrow2 i oi j oj s hi hj hdj).2
   rcases this with h | h
   · exact absurd hdi h
   · exact h
 · have:=(hrow2 i o j oj s hi hj hd).1
   rcases this with ((h | h) | h) | ⟨hlt,h⟩
   · rw[List.contains_iff_mem.2 hs] at h; cases h
   · exact .inr (.inl h)
   · obtain⟨n,hn,hh⟩:=Array.any_eq_true.1 h;simp only[Bool.and_eq_true] at hh;exact .inl ⟨_,Array.getElem_mem hn,hh.1,Nat.eq_of_beq_eq_true hh.2⟩
   · obtain⟨n,hn,hh⟩:=Array.any_eq_true.1 h;simp only[Bool.and_eq_true] at hh;exact .inr (.inr ⟨hlt,_,Array.getElem_mem hn,hh.1,Nat.eq_of_beq_eq_true hh.2⟩)
theorem aJ4 {A:List Nat} {k id:Nat} : ∀ (l:List Ev) (n:Nat),okM1 A k id n l=true→∀ i e,l[i]? = some e→n+i≠k→(id∈e.touch∨∃ ob,e.up=some (id,ob))→Nat.testBit (getN A (n+i)) k=true∨Nat.testBit (getN A k) (n+i)=true
 | [],n,h,i,e,hi,_,_=>by simp at hi
 | x::l,n,h,i,e,hi,hne,ht=>by
  simp only[okM1,Bool.and_eq_true] at h
  cases i with
  | succ i =>
   have:=aJ4 l (n+1) h.2 i e (by simpa using hi) (by omega) ht
   rw[show n+(i+1)=n+1+i from by omega];exact this
  | zero =>
   simp only[List.getElem?_cons_zero,Option.some.injEq] at hi;subst hi;have h1:=h.1;simp only[Bool.or_eq_true,Bool.not_eq_true',Bool.or_eq_false_iff] at h1;rcases h1 with ((h1 | h1) | h1) | h1
   · exact absurd (Nat.eq_of_beq_eq_true h1) hne
   · exfalso;rcases ht with ht | ⟨ob,ht⟩
     · have:=List.any_eq_false.1 h1.1 id ht
       simp at this
     · rw[ht] at h1;simp at h1
   · exact .inl h1
   · exact .inr h1
theorem aNq {A:List Nat} {all:List Ev} : ∀ (l:List Ev) (n:Nat),okM A all n l=true→∀ k e id ob,l[k]? = some e→e.up=some (id,ob)→okM1 A (n+k) id 0 all=true
 | [],n,h,k,e,id,ob,hk,_=>by simp at hk
 | x::l,n,h,k,e,id,ob,hk,hu=>by
  simp only[okM,Bool.and_eq_true] at h
  cases k with
  | succ k =>
   have:=aNq l (n+1) h.2 k e id ob (by simpa using hk) hu
   rw[show n+(k+1)=n+1+k from by omega];exact this
  | zero =>
   simp only[List.getElem?_cons_zero,Option.some.injEq] at hk;subst hk;have h1:=h.1;rw[hu] at h1;exact h1
theorem aQx (hT:TOK P T) {Kn:List (Nat×Bool)} {ν:Nu} {S Si:St} {σ:List Pl} {a:Act} {w:World} {o:Oper} {e:Ev} (hR:Rel w0 X ν S σ a w) (hst:aGh T Kn ops o Si=some e) (hE:EvOK P ν e)
 (hsl : ∀ t∈o.looksAt ops,getL S.F t=getL Si.F t) (hob : ∀ id∈e.touch,∀ ob,getO Si.L id=some ob→getO S.L id=some ob) (hfr : ∀ ob,e.up=some (Si.L.length,ob)→getO S.L Si.L.length=some ⟨0,.hole⟩)
 {K:Act→World→Prop} {Q:Exit→Act→World→Prop}
 (hK : ∀ (S':St) (σ':List Pl) (r:Value) (w':World),(S'.F=(S.put o.dst e.v).F∧S'.G=S.G)→S'.L=(match e.up with | none=>S.L | some (j,ob)=>setO S.L j ob)→Rel w0 X ν S' σ' (a.put o.dst r) w'→K (a.put o.dst r) w') :
 if Region.wanted o (yielded ops a.tmps)=true then o.wp P a w K Q else K (a.put o.dst undef) w:=by
 unfold aGh at hst;split at hst
 · simp at hst
 rename_i e0 he0;simp only[Option.some.injEq] at hst;rcases aKF Kn o.dst Si.n e0 with hk | ⟨d,b,x,hd,hv,hg,hx,hk⟩
 · rw[hk] at hst;subst hst;exact aHY hT hR he0 hE hsl hob hfr hK
 · rw[hk] at hst;subst hst;have hn:denB ν x=b:=aPX (hE.ns (by simp[hg,denB]) _ (List.mem_cons_self ..));have hE0:EvOK P ν e0:=⟨fun hg' n hn'=>hE.ns hg' n (List.mem_cons_of_mem _ hn'),hE.call,hE.dc⟩;refine aHY hT hR he0 hE0 hsl hob hfr fun S' σ' r w' hFG' hL' hR'=>?_;obtain⟨hF',hG'⟩:=hFG';have h1:=hR'.reset d (v:=.b (.bool b)) fun r' hr'=>?_
   · refine hK { S' with F:=setL S'.F d (.b (.bool b)) } σ' r w' ⟨?_,hG'⟩ ?_ h1
     · simp only[hF',hd,St.put,aHr]
     · exact hL'
   · have h2:=aCv hR'.F (.tmp d);rw[hd] at h2 hr';by_cases hlt:d<S'.F.length
     · have h3:S'.ev (.tmp d) = .b x:=by
        simp only[St.ev,hF',hd,St.put];rw[hv];have hlt':=hlt;rw[hF',hd] at hlt';simp only[St.put,aEt] at hlt';rw[aHF];simp[hlt']
       rw[h3] at h2
       have h4:(a.put (some d) r).eval (.tmp d)=r':=by
        simp only[Act.eval];simp[Array.getD_eq_getD_getElem?,hr']
       rw[h4] at h2;simp only[LR,denB] at h2 ⊢;rw[h2,hn]
     · have:=aBe hR'.F
       rw[hd] at this
       have h5:(a.put (some d) r).tmps.size=S'.F.length:=by
        rw[←Array.length_toList]; exact this.symm
       have hno:(a.put (some d) r).tmps[d]? = none:=Array.getElem?_eq_none (by rw[h5]; exact Nat.le_of_not_lt hlt);rw[hno] at hr';simp at hr'
structure Lex (T:Tab) (ops:Array Oper) (s:Nat→St) (ev:Nat→Ev):Prop where
 step : ∀ i o,ops[i]? = some o→(∃ K,aGh T K ops o (s i)=some (ev i))∧s (i+1)=(ev i).S'
 edges:EdgesOK ops
 order : ∀ k id ob i,k<ops.size→i<ops.size→i≠k→(ev k).up=some (id,ob)→(id∈(ev i).touch∨∃ ob,(ev i).up=some (id,ob))→Reach ops i k∨Reach ops k i
section
variable {s:Nat→St} {ev:Nat→Ev}
theorem Lex.at {i:Nat} (hi:i<ops.size) : ∃ o,ops[i]? = some o:=⟨ops[i],Array.getElem?_eq_getElem hi⟩
theorem Lex.F_len (L:Lex T ops s ev) : ∀ i,i≤ops.size→(s i).F.length=(s 0).F.length
 | 0,_=>rfl
 | i+1,h=>by
  obtain⟨o,ho⟩:=Lex.at (ops:=ops) (i:=i) (by omega);obtain⟨⟨_,h1⟩,h2⟩:=L.step i o ho;rw[h2,(aCe h1).2.1,aIb,L.F_len i (by omega)]
theorem Lex.G_same (L:Lex T ops s ev) : ∀ i,i≤ops.size→(s i).G=(s 0).G
 | 0,_=>rfl
 | i+1,h=>by
  obtain⟨o,ho⟩:=Lex.at (ops:=ops) (i:=i) (by omega);obtain⟨⟨_,h1⟩,h2⟩:=L.step i o ho;rw[h2,(aCe h1).1.G,L.G_same i (by omega)]
theorem Lex.F_rest (L:Lex T ops s ev) : ∀ i,i≤ops.size→∀ t,(∀ j o,j<i→ops[j]? = some o→o.dst≠some t)→getL (s i).F t=getL (s 0).F t
 | 0,_,t,_=>rfl
 | i+1,h,t,hn=>by
  obtain⟨o,ho⟩:=Lex.at (ops:=ops) (i:=i) (by omega);obtain⟨⟨_,h1⟩,h2⟩:=L.step i o ho;rw[h2,(aCe h1).2.1,aGp,if_neg (fun hh=>hn i o (by omega) ho hh.1)];exact L.F_rest i (by omega) t fun j o' hj ho'=>hn j o' (by omega) ho'
theorem Lex.F_own (L:Lex T ops s ev) : ∀ i,i≤ops.size→∀ j o t,j<i→ops[j]? = some o→o.dst=some t→t<(s 0).F.length→getL (s i).F t=(ev j).v
 | 0,_,j,_,_,hj,_,_,_=>by omega
 | i+1,h,j,o,t,hj,ho,hd,ht=>by
  obtain⟨oi,hoi⟩:=Lex.at (ops:=ops) (i:=i) (by omega);obtain⟨⟨_,h1⟩,h2⟩:=L.step i oi hoi;rw[h2,(aCe h1).2.1,aGp];by_cases e:j=i
  · subst e;obtain rfl:o=oi:=Option.some.inj (ho.symm.trans hoi);rw[if_pos ⟨hd,by rw[L.F_len j (by omega)]; exact ht⟩]
  · rw[if_neg (fun hh=>e (L.edges.apart j i o oi t ho hoi hd hh.1))];exact L.F_own i (by omega) j o t (by omega) ho hd ht
theorem Lex.up_le (L:Lex T ops s ev) {i id:Nat} {ob:Ob} (hi:i<ops.size) (hu:(ev i).up=some (id,ob)):id≤(s i).L.length∧id<(s (i+1)).L.length:=by
 obtain⟨o,ho⟩:=Lex.at hi;obtain⟨⟨_,h1⟩,h2⟩:=L.step i o ho;have h3:=aGx h1 hu;refine⟨h3,?_⟩;rw[h2,(aCe h1).2.2,hu];exact (aQY _ _ _ h3).1
theorem Lex.L_mono1 (L:Lex T ops s ev) {i:Nat} (hi:i<ops.size):(s i).L.length≤(s (i+1)).L.length:=by
 obtain⟨o,ho⟩:=Lex.at hi;obtain⟨⟨_,h1⟩,h2⟩:=L.step i o ho;rw[h2,(aCe h1).2.2]
 cases hu:(ev i).up with
 | none=>exact Nat.le_refl _
 | some x =>
  obtain⟨id,ob⟩:=x;exact (aQY _ _ _ (aGx h1 hu)).2.1
theorem Lex.L_mono (L:Lex T ops s ev) {i:Nat} : ∀ k,i≤k→k≤ops.size→(s i).L.length≤(s k).L.length
 | 0,h,_=>by
  obtain rfl:i=0:=by omega
  exact Nat.le_refl _
 | k+1,h,hk=>by
  by_cases e:i=k+1
  · subst e; exact Nat.le_refl _
  · exact Nat.le_trans (L.L_mono k (by omega) (by omega)) (L.L_mono1 (by omega))
theorem Lex.L_step (L:Lex T ops s ev) {i:Nat} (hi:i<ops.size) (id:Nat):getO (s (i+1)).L id=match (ev i).up with
 | none=>getO (s i).L id
 | some (j,ob)=>if id=j then some ob else getO (s i).L id:=by
 obtain⟨o,ho⟩:=Lex.at hi;obtain⟨⟨_,h1⟩,h2⟩:=L.step i o ho;rw[h2,(aCe h1).2.2]
 cases hu:(ev i).up with
 | none=>rfl
 | some x =>
  obtain⟨j,ob⟩:=x;exact (aQY _ _ _ (aGx h1 hu)).2.2.2 id
theorem Lex.L_rest (L:Lex T ops s ev) (id:Nat) : ∀ i,i≤ops.size→(∀ j ob,j<i→(ev j).up≠some (id,ob))→getO (s i).L id=getO (s 0).L id
 | 0,_,_=>rfl
 | i+1,h,hn=>by
  rw[L.L_step (by omega)];have ih:=L.L_rest id i (by omega) fun j ob hj=>hn j ob (by omega)
  cases hu:(ev i).up with
  | none=>exact ih
  | some x =>
   obtain⟨j,ob⟩:=x
   have:id≠j:=fun e=>hn i ob (by omega) (by rw[hu,e])
   simp only[if_neg this];exact ih
theorem Lex.L_own (L:Lex T ops s ev) (id:Nat) : ∀ i,i≤ops.size→∀ j ob,j<i→(ev j).up=some (id,ob)→(∀ k ob',j<k→k<i→(ev k).up≠some (id,ob'))→getO (s i).L id=some ob
 | 0,_,j,_,hj,_,_=>by omega
 | i+1,h,j,ob,hj,hu,hn=>by
  rw[L.L_step (by omega)];by_cases e:j=i
  · subst e;rw[hu]
    simp
  · have ih:=L.L_own id i (by omega) j ob (by omega) hu fun k ob' h1 h2=>hn k ob' h1 (by omega)
    cases hu':(ev i).up with
    | none=>exact ih
    | some x =>
     obtain⟨j',ob'⟩:=x
     have:id≠j':=fun e'=>hn i ob' (by omega) (by omega) (by rw[hu',e'])
     simp only[if_neg this];exact ih
theorem Lex.L_new (L:Lex T ops s ev) (id:Nat) : ∀ i,i≤ops.size→(s 0).L.length≤id→id<(s i).L.length→∃ j ob,j<i∧(ev j).up=some (id,ob)
 | 0,_,h1,h2=>by omega
 | i+1,h,h1,h2=>by
  by_cases hlt:id<(s i).L.length
  · obtain⟨j,ob,hj,hu⟩:=L.L_new id i (by omega) h1 hlt;exact⟨j,ob,by omega,hu⟩
  · obtain⟨o,ho⟩:=Lex.at (ops:=ops) (i:=i) (by omega);obtain⟨⟨_,g1⟩,g2⟩:=L.step i o ho;rw[g2,(aCe g1).2.2] at h2
    cases hu:(ev i).up with
    | none=>rw[hu] at h2; exact absurd h2 hlt
    | some x =>
     obtain⟨j,ob⟩:=x;rw[hu] at h2
     have:=aQY (s i) j ob (aGx g1 hu)
     refine⟨i,ob,by omega,?_⟩;have h3:=this.2.2.1
     have:id=j:=by
      split at h3 <;> omega
     rw[hu,this]
end
end
end
section
open Go.RowKit
theorem aCc (l:Array Bool) (i j:Nat) (h:i<l.size):(l.setIfInBounds i true).getD j false=true↔l.getD j false=true∨j=i:=by
 by_cases e:j=i
 · subst e; simp[Array.getD_eq_getD_getElem?,h]
 · simp[Array.getD_eq_getD_getElem?,Array.getElem?_setIfInBounds_ne (Ne.symm e),e]
theorem aFq (l:Array Bool) (i:Nat) (h:i<l.size) (hf:l.getD i true=false):(l.setIfInBounds i true).count false+1=l.count false:=by
 have hv:l[i]=false:=by simpa[Array.getD_eq_getD_getElem?,h] using hf
 rw[Array.setIfInBounds_def,dif_pos h,Array.count_set];have hpos:0<l.count false:=Array.count_pos_iff.2 (by rw[←hv]; exact Array.getElem_mem h);simp[hv];omega
theorem aEE (l:Array Bool) (h:l.count false=0) (i:Nat) (hi:i<l.size):l.getD i false=true:=by
 have hn:false ∉ l:=by
  intro hm
  have:=Array.count_pos_iff.2 hm
  omega
 have:l[i]≠false:=fun e=>hn (by rw[←e]; exact Array.getElem_mem hi)
 simpa[Array.getD_eq_getD_getElem?,hi] using this
theorem aDc (l:Array Bool) (h : ∃ i,i<l.size∧l.getD i true=false) : ∃ i,i<l.size∧l.getD i true=false∧∀ j,j<i→l.getD j false=true:=by
 obtain⟨i,hi,hf⟩:=h
 induction i using Nat.strongRecOn with
 | _ i ih =>
  by_cases hm : ∀ j,j<i→l.getD j false=true
  · exact⟨i,hi,hf,hm⟩
  · simp only[Classical.not_forall] at hm;obtain⟨j,hj,hjf⟩:=hm
    have hjs:j<l.size:=by omega
    exact ih j hj hjs (by simpa[Array.getD_eq_getD_getElem?,hjs] using hjf)
theorem aCJ (n i:Nat) : ¬ (Array.replicate n false).getD i false=true:=by
 rw[Array.getD_eq_getD_getElem?,Array.getElem?_replicate];split <;> simp
section
variable {P:Program} {T:Tab} {w0:Base} {X:Nat→Prop} {Fin:Nu→Ex→St→Prop} {Ag:Nu→Nat→List D→Prop} {ops:Array Oper} {s:Nat→St} {ev:Nat→Ev}
def holes (s:Nat→St) (N:Nat):List Ob:=(s 0).L++List.replicate ((s N).L.length - (s 0).L.length) ⟨0,.hole⟩
structure DSt (ops:Array Oper) (s:Nat→St) (ev:Nat→Ev) (D:Nat→Prop) (S:St):Prop where
 G:S.G=(s 0).G
 Flen:S.F.length=(s 0).F.length
 Llen:S.L.length=(s ops.size).L.length
 Frest : ∀ t,t<(s 0).F.length→(∀ j o,D j→ops[j]? = some o→o.dst≠some t)→getL S.F t=getL (s 0).F t
 Fown : ∀ j o t,D j→ops[j]? = some o→o.dst=some t→t<(s 0).F.length→getL S.F t=(ev j).v
 Lrest : ∀ id,(∀ j ob,D j→(ev j).up≠some (id,ob))→getO S.L id=getO (holes s ops.size) id
 Lown : ∀ j id ob,D j→(ev j).up=some (id,ob)→(∀ k ob',D k→j<k→(ev k).up≠some (id,ob'))→getO S.L id=some ob
theorem aQX (hT:TOK P T) (L:Lex T ops s ev) {ν:Nu} (hE : ∀ i,i<ops.size→EvOK P ν (ev i)) {D:Nat→Prop} (hDN : ∀ j,D j→j<ops.size) (hcl : ∀ i,D i→∀ o,ops[i]? = some o→∀ e∈o.after,aAS e=true→D e.on)
 {S:St} {σ:List Pl} {a:Act} {w:World} (hR:Rel w0 X ν S σ a w) (hS:DSt ops s ev D S) {i:Nat} {o:Oper} (ho:ops[i]? = some o) (hni : ¬ D i) (hrd : ∀ e∈o.after,aAS e=true→D e.on) {D':Nat→Prop} (hD' : ∀ j,D' j↔D j∨j=i)
 {K:Act→World→Prop} {Q:Exit→Act→World→Prop} (hK : ∀ (S':St) (σ':List Pl) (r:Value) (w':World),DSt ops s ev D' S'→Rel w0 X ν S' σ' (a.put o.dst r) w'→K (a.put o.dst r) w') :
 if Region.wanted o (yielded ops a.tmps)=true then o.wp P a w K Q else K (a.put o.dst undef) w:=by
 have hi:i<ops.size:=(Array.getElem?_eq_some_iff.1 ho).1;obtain⟨⟨_,hst⟩,hnext⟩:=L.step i o ho;have hlow:=L.edges.low;have hlowi : ∀ {j:Nat},Reach ops i j→j<i:=fun h=>h.lt hlow
 have hrdi : ∀ {j:Nat},Reach ops i j→D j:=fun h=>h.closed hcl (fun o' ho' e he hb=>by
  obtain rfl:o'=o:=Option.some.inj (ho'.symm.trans ho);exact hrd e he hb)
 have hnoti : ∀ {k:Nat},D k→¬ Reach ops k i:=fun hk h=>hni (h.closed hcl (fun o' ho' e he hb=>hcl _ hk o' ho' e he hb))
 have later : ∀ {k id:Nat} {ob:Ob},D k→i<k→(ev k).up=some (id,ob)→(id∈(ev i).touch∨∃ ob,(ev i).up=some (id,ob))→False:=fun {k id ob} hk hlt hu ht=>by
  rcases L.order k id ob i (hDN k hk) hi (by omega) hu ht with h | h
  · have:=hlowi h; omega
  · exact hnoti hk h
 have earlier : ∀ {j id:Nat} {ob:Ob},j<i→(ev j).up=some (id,ob)→id∈(ev i).touch→D j:=fun {j id ob} hlt hu ht=>by
  rcases L.order j id ob i (by omega) hi (by omega) hu (.inl ht) with h | h
  · exact hrdi h
  · have:=h.lt hlow; omega
 have hsl : ∀ t∈o.looksAt ops,getL S.F t=getL (s i).F t:=fun t ht=>by
  by_cases htl:t<(s 0).F.length
  · by_cases hw : ∃ (j:Nat) (oj:Oper),ops[j]? = some oj∧oj.dst=some t
    · obtain⟨j,oj,hj,hd⟩:=hw
      have uniq:i≤j→¬ D j→getL S.F t=getL (s i).F t:=fun hij hnD=>by
       rw[hS.Frest t htl fun j' o' hj' h hd'=>hnD (by rw[←L.edges.apart j' j o' oj t h hj hd' hd]; exact hj'),
        L.F_rest i (by omega) t fun j' o' hj' h hd'=>by
         have:=L.edges.apart j' j o' oj t h hj hd' hd
         omega]
      rcases L.edges.deps i o t j oj ho ht hj hd with ⟨e,he,hb,hon⟩ | hij | ⟨hlt,e,he,hb,hon⟩
      · have hDj:=hrd e he hb;have hji:=hlow i o ho e he hb;rw[hon] at hDj hji;rw[hS.Fown j oj t hDj hj hd htl,L.F_own i (by omega) j oj t hji hj hd htl]
      · exact uniq (by omega) (by rw[←hij]; exact hni)
      · refine uniq (by omega) fun hDj=>hni ?_
        have:=hcl j hDj oj hj e he hb
        rwa [hon] at this
    · have hno : ∀ (j:Nat) (o':Oper),ops[j]? = some o'→o'.dst≠some t:=fun j o' h1 h2=>hw ⟨j,o',h1,h2⟩;rw[hS.Frest t htl fun j o' _ h=>hno j o' h,L.F_rest i (by omega) t fun j o' _ h=>hno j o' h]
  · rw[aDe S.F t (by rw[hS.Flen]; exact Nat.le_of_not_lt htl),aDe (s i).F t (by rw[L.F_len i (by omega)]; exact Nat.le_of_not_lt htl)]
 have hob : ∀ id∈(ev i).touch,∀ ob,getO (s i).L id=some ob→getO S.L id=some ob:=fun id hid ob hob=>by
  by_cases hw : ∃ j,j<i∧∃ ob',(ev j).up=some (id,ob')
  · obtain⟨j,hj,⟨ob',hu⟩,hlast⟩:=aIx (fun j=>∃ ob',(ev j).up=some (id,ob')) i hw;have h1:=L.L_own id i (by omega) j ob' hj hu fun k ob'' h1 h2 h3=>hlast k h1 h2 ⟨ob'',h3⟩;rw[h1] at hob;rw[←hob];refine hS.Lown j id ob' (earlier hj hu hid) hu fun k ob'' hk hjk hu'=>?_;rcases Nat.lt_trichotomy k i with h | h | h
    · exact hlast k hjk h ⟨ob'',hu'⟩
    · subst h; exact hni hk
    · exact later hk h hu' (.inl hid)
  · have h1:=L.L_rest id i (by omega) fun j ob' hj hu=>hw ⟨j,hj,ob',hu⟩;rw[h1] at hob;rw[hS.Lrest id fun k ob' hk hu=>?_]
    · unfold holes;rw[aDd,if_pos (aG4 _ _ _ hob)];exact hob
    · rcases Nat.lt_trichotomy k i with h | h | h
      · exact hw ⟨k,h,ob',hu⟩
      · subst h; exact hni hk
      · exact later hk h hu (.inl hid)
 have hfr : ∀ ob,(ev i).up=some ((s i).L.length,ob)→getO S.L (s i).L.length=some ⟨0,.hole⟩:=fun ob hu=>by
  rw[hS.Lrest _ fun k ob' hk hu'=>?_]
  · unfold holes;have h1:=L.L_mono (i:=0) i (by omega) (by omega);have h2:=(L.up_le hi hu).2;have h3:=L.L_mono (i:=i+1) ops.size (by omega) (by omega);rw[aDd,if_neg (by omega)];exact aEs _ _ _ (by omega)
  · rcases Nat.lt_trichotomy k i with h | h | h
    · have h1:=(L.up_le (hDN k hk) hu').2;have h2:=L.L_mono (i:=k+1) i (by omega) (by omega);omega
    · subst h; exact hni hk
    · exact later hk h hu' (.inr ⟨ob,hu⟩)
 refine aQx hT hR hst (hE i hi) hsl hob hfr fun S' σ' r w' ⟨hF',hG'⟩ hL' hR'=>hK S' σ' r w' ?_ hR';have hDD : ∀ {j},D j→D' j:=fun h=>(hD' _).2 (.inl h);have hDi:D' i:=(hD' _).2 (.inr rfl);refine { G:=hG'.trans hS.G,Flen:=by rw[hF',aIb]; exact hS.Flen,Llen:=?_,Frest:=?_,Fown:=?_,Lrest:=?_,Lown:=?_ }
 · rw[hL'];split
   · exact hS.Llen
   · rw[aES]; exact hS.Llen
 · intro t ht hn;rw[hF',aGp,if_neg (fun h=>hn i o hDi ho h.1)];exact hS.Frest t ht fun j o' hj=>hn j o' (hDD hj)
 · intro j oj t hj hoj hd ht;rw[hF',aGp];by_cases e:j=i
   · subst e;obtain rfl:oj=o:=Option.some.inj (hoj.symm.trans ho);rw[if_pos ⟨hd,by rw[hS.Flen]; exact ht⟩]
   · rw[if_neg (fun h=>e (L.edges.apart j i oj o t hoj ho hd h.1))];exact hS.Fown j oj t (((hD' j).1 hj).resolve_right e) hoj hd ht
 · intro id hn;have h1:=hS.Lrest id fun j ob hj=>hn j ob (hDD hj);rw[hL']
   cases hu:(ev i).up with
   | none=>exact h1
   | some x =>
    obtain⟨j,ob⟩:=x
    have:id≠j:=fun e=>hn i ob hDi (by rw[hu,e])
    simp only[aDi,if_neg (fun h:id=j∧j<S.L.length=>this h.1)];exact h1
 · intro j id ob hj hu hlast;rw[hL'];by_cases e:j=i
   · subst e;rw[hu];have h2:=(L.up_le hi hu).2;have h3:=L.L_mono (i:=j+1) ops.size (by omega) (by omega);have h4:=hS.Llen;simp only[aDi,true_and];rw[if_pos (by omega)]
   · have hDj:=((hD' j).1 hj).resolve_right e;have h1:=hS.Lown j id ob hDj hu fun k ob' hk=>hlast k ob' (hDD hk)
     cases hui:(ev i).up with
     | none=>exact h1
     | some x =>
      obtain⟨j',ob'⟩:=x
      have hne:id≠j':=fun e'=>by
       subst e';rcases Nat.lt_trichotomy j i with h | h | h
       · exact hlast i ob' hDi h hui
       · exact e h
       · exact later hDj h hu (.inr ⟨ob',hui⟩)
      simp only[aDi,if_neg (fun h:id=j'∧j'<S.L.length=>hne h.1)];exact h1
theorem aS9 (L:Lex T ops s ev) {D:Nat→Prop} (hall : ∀ i,i<ops.size→D i) (hDN : ∀ j,D j→j<ops.size) {S:St} (hS:DSt ops s ev D S) (hn:S.n=(s ops.size).n):S=s ops.size:=by
 have hF:S.F=(s ops.size).F:=by
  refine aMv _ _ (by rw[hS.Flen,L.F_len _ (Nat.le_refl _)]) fun t ht=>?_;rw[hS.Flen] at ht;by_cases hw : ∃ (j:Nat) (oj:Oper),ops[j]? = some oj∧oj.dst=some t
  · obtain⟨j,oj,hj,hd⟩:=hw;have hlt:=(Array.getElem?_eq_some_iff.1 hj).1;rw[hS.Fown j oj t (hall j hlt) hj hd ht,L.F_own _ (Nat.le_refl _) j oj t hlt hj hd ht]
  · have hno : ∀ (j:Nat) (o':Oper),ops[j]? = some o'→o'.dst≠some t:=fun j o' h1 h2=>hw ⟨j,o',h1,h2⟩;rw[hS.Frest t ht fun j o' _ h=>hno j o' h,L.F_rest _ (Nat.le_refl _) t fun j o' _ h=>hno j o' h]
 have hL:S.L=(s ops.size).L:=by
  refine aMp _ _ hS.Llen fun id hid=>?_;rw[hS.Llen] at hid;by_cases hw : ∃ j,j<ops.size∧∃ ob',(ev j).up=some (id,ob')
  · obtain⟨j,hj,⟨ob',hu⟩,hlast⟩:=aIx (fun j=>∃ ob',(ev j).up=some (id,ob')) _ hw;rw[L.L_own id _ (Nat.le_refl _) j ob' hj hu fun k ob'' h1 h2 h3=>hlast k h1 h2 ⟨ob'',h3⟩];exact hS.Lown j id ob' (hall j hj) hu fun k ob'' hk h1 h3=>hlast k h1 (hDN k hk) ⟨ob'',h3⟩
  · rw[L.L_rest id _ (Nat.le_refl _) fun j ob hj hu=>hw ⟨j,hj,ob,hu⟩,hS.Lrest id fun j ob hj hu=>hw ⟨j,hDN j hj,ob,hu⟩];unfold holes
    have:id<(s 0).L.length:=by
     by_cases h:id<(s 0).L.length
     · exact h
     · obtain⟨j,ob,hj,hu⟩:=L.L_new id _ (Nat.le_refl _) (by omega) hid;exact absurd ⟨j,hj,ob,hu⟩ hw
    rw[aDd,if_pos this]
 have hG:S.G=(s ops.size).G:=by rw[hS.G,L.G_same _ (Nat.le_refl _)]
 cases S;cases hs:s ops.size;rw[hs] at hF hL hn hG;simp only at hF hL hn hG;subst hF hL hn hG;rfl
theorem aPf (hT:TOK P T) (L:Lex T ops s ev) {ν:Nu} (hE : ∀ i,i<ops.size→EvOK P ν (ev i)) (hν:ν.length=(s ops.size).n) {Q:Exit→Act→World→Prop}
 (hQ : ∀ (σ:List Pl) (a:Act) (w:World),Rel w0 X ν (s ops.size) σ a w→Q .normal a w) :
 ∀ (fuel:Nat) (listed:Array Bool) (S:St) (σ:List Pl) (a:Act) (w:World),listed.size=ops.size→listed.count false≤fuel→(∀ i,listed.getD i false=true→∀ o,ops[i]? = some o→∀ e∈o.after,aAS e=true→listed.getD e.on false=true) →
  Rel w0 X ν S σ a w→DSt ops s ev (fun i=>listed.getD i false=true) S→wpAny P .any ops Q fuel listed a w:=by
 have hlt : ∀ {i:Nat} {o:Oper},ops[i]? = some o→i<ops.size:=fun hi=>(Array.getElem?_eq_some_iff.1 hi).1
 have hDN : ∀ (listed:Array Bool),listed.size=ops.size→∀ j,listed.getD j false=true→j<ops.size:=fun listed hsz j hj=>by
  by_cases h:j<listed.size
  · omega
  · simp[Array.getD_eq_getD_getElem?,Array.getElem?_eq_none (Nat.le_of_not_lt h)] at hj
 have hend : ∀ (listed:Array Bool) (S:St) (σ:List Pl) (a:Act) (w:World),listed.size=ops.size→(∀ i,i<ops.size→listed.getD i false=true)→Rel w0 X ν S σ a w→DSt ops s ev (fun i=>listed.getD i false=true) S→Q .normal a w:=fun listed S σ a w hsz hall hR hS=>by
  have:=aS9 L hall (hDN listed hsz) hS (by rw[←hR.n]; exact hν)
  rw[this] at hR;exact hQ σ a w hR
 intro fuel
 induction fuel with
 | zero =>
  intro listed S σ a w hsz hc hcl hR hS;have hall:=aEE listed (by omega);refine⟨?_,hend listed S σ a w hsz (fun i hi=>hall i (by omega)) hR hS⟩;rw[List.eq_nil_iff_forall_not_mem];intro j hj;obtain⟨hjf,o,ho,_⟩:=mem_ready.1 hj;have h1:=hall j (by have:=hlt ho; omega)
  have hjs:j<listed.size:=by have:=hlt ho; omega
  simp[Array.getD_eq_getD_getElem?,hjs] at h1 hjf;rw[h1] at hjf; cases hjf
 | succ fuel ih =>
  intro listed S σ a w hsz hc hcl hR hS;refine⟨fun hr=>?_,fun i hi=>?_⟩
  · refine hend listed S σ a w hsz (fun j hj=>?_) hR hS;by_cases hj':listed.getD j false=true
    · exact hj'
    · exfalso
      have hjs:j<listed.size:=by omega
      have hjf:listed.getD j true=false:=by simpa[Array.getD_eq_getD_getElem?,hjs] using hj'
      obtain⟨m,hm,hmf,hml⟩:=aDc listed ⟨j,hjs,hjf⟩;obtain⟨o,ho⟩ : ∃ o,ops[m]? = some o:=⟨ops[m]'(by omega),Array.getElem?_eq_getElem _⟩
      have:m∈Region.ready .any ops listed:=mem_ready.2 ⟨hmf,o,ho,fun e he hb=>hml _ (L.edges.low m o ho e he hb)⟩
      rw[hr] at this; cases this
  · obtain⟨hif,o,ho,hall⟩:=mem_ready.1 hi
    have his:i<listed.size:=by have:=hlt ho; omega
    have hcs:=aFq listed i his hif
    have hif' : ¬ listed.getD i false=true:=by
     intro hh;simp[Array.getD_eq_getD_getElem?,his] at hh hif;rw[hh] at hif; cases hif
    have hsz':(listed.setIfInBounds i true).size=ops.size:=by simpa using hsz
    have hset:=fun j=>aCc listed i j his
    have hcl' : ∀ j,(listed.setIfInBounds i true).getD j false=true→∀ o,ops[j]? = some o→∀ e∈o.after,aAS e=true→(listed.setIfInBounds i true).getD e.on false=true:=fun j hj o' ho' e he hb=>by
     refine (hset _).2 (.inl ?_);rcases (hset j).1 hj with hj | rfl
     · exact hcl j hj o' ho' e he hb
     · obtain rfl:o'=o:=Option.some.inj (ho'.symm.trans ho);exact hall e he hb
    have:=aQX hT L hE (D:=fun i=>listed.getD i false=true) (hDN listed hsz) hcl hR hS ho hif' (fun e he hb=>hall e he hb) (D':=fun j=>(listed.setIfInBounds i true).getD j false=true) hset
     (K:=wpAny P .any ops Q fuel (listed.setIfInBounds i true)) (Q:=Q) fun S' σ' r w' hS' hR'=>ih _ S' σ' _ w' hsz' (by omega) hcl' hR' hS'
    unfold wpOp;rw[ho];simp only;split
    · rename_i hw;rw[if_pos hw] at this;exact .inl this
    · rename_i hw;rw[if_neg hw] at this;exact this
theorem Rel.holes {ν:Nu} {S:St} {a:Act} {w:World} : ∀ (n:Nat) {σ:List Pl} {L:List Ob},Rel w0 X ν { S with L:=L } σ a w→∃ σ',Rel w0 X ν { S with L:=L++List.replicate n ⟨0,.hole⟩ } σ' a w
 | 0,σ,L,h=>⟨σ,by simpa using h⟩
 | n+1,σ,L,h=>by
  obtain⟨σ',h'⟩:=Rel.holes (S:=S) n (L:=L++[⟨0,.hole⟩]) h.hole;exact⟨σ',by simpa[List.replicate_succ] using h'⟩
theorem Rel.drewn {ν:Nu} {S:St} {σ:List Pl} {a:Act} {w:World} (h:Rel w0 X ν S σ a w):Rel w0 X ν S σ a w.drew:=h.turn (Turn.drew w)
def aF3 (P:Program) (ops:Array Oper) (Q:Exit→Act→World→Prop) (a:Act) (w:World):Prop:=wpAny P .any ops Q ops.size (Array.replicate ops.size false) a { w with drawn:=w.drawn+1 }
theorem aKj (hT:TOK P T) {k:St→Tr} {Q:Exit→Act→World→Prop}
 (hK : ∀ (ν':Nu) (S':St) (σ':List Pl) (a':Act) (w':World),den P Fin Ag ν' (k S')→Rel w0 X ν' S' σ' a' w'→Q .normal a' w') {ν:Nu} {S S':St} {σ:List Pl} {a:Act} {w:World} {evs:List Ev}
 (hch:aEo T ops ops.toList S evs S') (hok:S.ok=true) (hbD:okD ops evs=true) {ds:Nu} (hd:den P Fin Ag (ν++ds) (k S')) (hlen:(ν++ds).length=S'.n) (hE : ∀ e∈evs,EvOK P (ν++ds) e) (hR:Rel w0 X ν S σ a w):aF3 P ops Q a w:=by
 unfold okD at hbD;simp only[Bool.and_eq_true] at hbD;obtain⟨s,ev,h0,hN,hel,hev,hstep⟩:=aKz _ _ _ _ hch
 have hN:s ops.size=S':=by simpa using hN
 have hel:evs.length=ops.size:=by simpa using hel
 have hevs : ∀ i,i<ops.size→evs[i]? = some (ev i):=fun i hi=>by
  have h1:evs[i]? = some (evs[i]'(by omega)):=List.getElem?_eq_getElem _;rw[h1,hev i _ h1]
 have hedge:=aMd hbD.1
 have L:Lex T ops s ev:=by
  refine⟨fun i o ho=>hstep i o (by simpa using ho),hedge,fun k id ob i hk hi hne hu ht=>?_⟩;have h1:=aNq evs 0 hbD.2 k (ev k) id ob (hevs k hk) hu;have h2:=aJ4 evs 0 h1 i (ev i) (hevs i hi) (by omega) ht;have hanc:=aLW (ops:=ops) ops.toList [] (by simp) (fun i j h=>by simp[getN] at h);simp only[Nat.zero_add] at h2;exact h2.imp (hanc _ _) (hanc _ _)
 unfold aF3;have hR1:=(hR.more hok ds).drewn;have hz:({ S with n:=S.n+ds.length }:St)={ ({ S with n:=S.n+ds.length }:St) with L:=S.L }:=rfl;obtain⟨σ',hR2⟩:=Rel.holes (S:={ S with n:=S.n+ds.length }) ((s ops.size).L.length - S.L.length) hR1;have hmono:=L.L_mono (i:=0) ops.size (by omega) (Nat.le_refl _);rw[h0] at hmono;refine aPf hT L (fun i hi=>hE _ (List.mem_of_getElem? (hevs i hi))) (by rw[hN]; exact hlen) (fun σ a w hR=>hK _ _ σ a w (by rw[hN]; exact hd) hR) ops.size _ _ σ' a _ (by simp) (by simp) (fun i hi=>absurd hi (aCJ _ _)) hR2 ?_;refine { G:=by rw[h0],Flen:=by rw[h0],Llen:=by simp; omega,Frest:=fun t _ _=>by rw[h0],Fown:=fun j o t hj=>absurd hj (aCJ _ _),Lrest:=fun id _=>by unfold Go.Proofs.YtcdeimjlgpfjiaaGreatDoor.holes; rw[h0],Lown:=fun j id ob hj=>absurd hj (aCJ _ _) }
theorem aGH (hT:TOK P T) {k:St→Tr} {Q:Exit→Act→World→Prop} {Kn:List (Nat×Bool)}
 (hK : ∀ (ν':Nu) (S':St) (σ':List Pl) (a':Act) (w':World),den P Fin Ag ν' (k S')→Rel w0 X ν' S' σ' a' w'→Q .normal a' w') {ν:Nu} {S:St} {σ:List Pl} {a:Act} {w:World}
 (hd:den P Fin Ag ν (match aDo T Kn ops ops.toList S with | some (evs,S')=>bif S.ok&&okD ops evs then aLe evs (k S') else .fail 5 | none=>.fail 12)) (hR:Rel w0 X ν S σ a w):aF3 P ops Q a w:=by
 split at hd
 rotate_left
 · simp[den] at hd
 rename_i evs S' hch;cases hb:S.ok&&okD ops evs
 · rw[hb] at hd; simp[den] at hd
 rw[hb] at hd;simp only[Bool.and_eq_true] at hb;simp only[cond_true] at hd;obtain⟨ds,hd,hlen,hE⟩:=aHk _ _ _ _ ν _ hch hR.n hd;exact aKj hT hK (aJy _ _ _ _ hch) hb.1 hb.2 hd hlen hE hR
theorem aLI (hT:TOK P T) {k:St→Tr} {Q:Exit→Act→World→Prop} {fk:List Nat}
 (hK : ∀ (ν':Nu) (S':St) (σ':List Pl) (a':Act) (w':World),den P Fin Ag ν' (k S')→Rel w0 X ν' S' σ' a' w'→Q .normal a' w') {ν:Nu} {S:St} {σ:List Pl} {a:Act} {w:World}
 (hd:den P Fin Ag ν (aIG T ops S k fk ops.toList S [])) (hR:Rel w0 X ν S σ a w):aF3 P ops Q a w:=by
 obtain⟨es,S',ds,h1,h2,h3,h4,h5⟩:=aG7 (S0:=S) ops.toList S [] ν hR.n hd;simp only[List.nil_append,Bool.and_eq_true] at h2;exact aKj hT hK h1 h2.1 h2.2 h3 h4 h5 hR
theorem aEG (hT:TOK P T) {k:St→Tr} {Q:Exit→Act→World→Prop}
 (hK : ∀ (ν':Nu) (S':St) (σ':List Pl) (a':Act) (w':World),den P Fin Ag ν' (k S')→Rel w0 X ν' S' σ' a' w'→Q .normal a' w') {ν:Nu} {S:St} {σ:List Pl} {a:Act} {w:World} (hR:Rel w0 X ν S σ a w) :
 ∀ (n:Nat) (Kn:List (Nat×Bool)),den P Fin Ag ν (aOh T ops S k n Kn)→aF3 P ops Q a w
 | 0,Kn,hd=>by
  unfold aOh at hd;exact aGH hT hK hd hR
 | n+1,Kn,hd=>by
  unfold aOh at hd
  cases hc:aDo T Kn ops ops.toList S with
  | some x =>
   rw[hc] at hd;exact aGH (Kn:=Kn) hT hK (by rw[hc]; exact hd) hR
  | none =>
   rw[hc] at hd;simp only at hd;split at hd
   · rename_i d e hf;simp only[den] at hd;cases hb:denB ν e
     · exact aEG hT hK hR n _ (hd.2 hb)
     · exact aEG hT hK hR n _ (hd.1 hb)
   · exact aLI (T:={ T with cl:=true }) hT hK hd hR
theorem aHo (hT:TOK P T) {k:St→Tr} {Q:Exit→Act→World→Prop}
 (hK : ∀ (ν':Nu) (S':St) (σ':List Pl) (a':Act) (w':World),den P Fin Ag ν' (k S')→Rel w0 X ν' S' σ' a' w'→Q .normal a' w') {ν:Nu} {S:St} {σ:List Pl} {a:Act} {w:World}
 (hd:den P Fin Ag ν (runD T ops S k)) (hR:Rel w0 X ν S σ a w):aF3 P ops Q a w :=
 aEG hT hK hR 2 [] hd
theorem aNF (hT:TOK P T) (hm:P.follows .mixedOrders=true) {id:Nat} {k:St→Tr} {Q:Exit→Act→World→Prop}
 (hK : ∀ (ν':Nu) (S':St) (σ':List Pl) (a':Act) (w':World),den P Fin Ag ν' (k S')→Rel w0 X ν' S' σ' a' w'→Q .normal a' w') {ν:Nu} {S:St} {σ:List Pl} {a:Act} {w:World}
 (hd:den P Fin Ag ν (runD T ops S k)) (hR:Rel w0 X ν S σ a w):(Code.region id ops true).wp P Q a w :=
 wp_region_any hm (aHo hT hK hd hR)
end
end
section
open Go.RowKit
section
variable {P:Program} {ops:Array Oper} {Q Q':Exit→Act→World→Prop}
theorem aFV (hQ : ∀ e a w,e≠Exit.normal→Q' e a w→Q e a w) (h:LetsOut Q'):LetsOut Q:=by
 obtain⟨a,w,h⟩:=h;exact⟨a,w,hQ _ _ _ (by intro h; cases h) h⟩
theorem aNC (hQ : ∀ e a w,e≠Exit.normal→Q' e a w→Q e a w) {o:Oper} {a:Act} {w:World} {K K':Act→World→Prop} (hK : ∀ a w,K a w→K' a w) (h:o.wp P a w K Q'):o.wp P a w K' Q:=by
 refine Oper.wp_mono hK ?_;unfold Oper.wp at *;generalize (execOp a.eval o).run P w=r at *
 cases r with
 | ok n w' =>
  cases n <;> simp only[Oper.upon] at h ⊢ <;>
   first
    | exact h
    | exact Calls.mono h (fun e w'' he=>by
     cases e
     · exact he
     · exact hQ _ _ _ (by intro h; cases h) he
     · exact aFV hQ he)
 | halt x w'=>cases x <;> simp only[Oper.upon] at h ⊢ <;> first | exact hQ _ _ _ (by intro h; cases h) h | exact h
theorem aFa {L:Array Bool} (h : ∀ i,i<ops.size→L.getD i false=true):Region.ready .any ops L=[]:=by
 rw[List.eq_nil_iff_forall_not_mem];intro j hj;obtain⟨hjf,o,ho,_⟩:=mem_ready.1 hj;have h1:=h j (Array.getElem?_eq_some_iff.1 ho).1;by_cases hjs:j<L.size
 · simp[Array.getD_eq_getD_getElem?,hjs] at h1 hjf;rw[h1] at hjf; cases hjf
 · simp[Array.getD_eq_getD_getElem?,Array.getElem?_eq_none (Nat.le_of_not_lt hjs)] at hjf
theorem aQN {L:Array Bool} (h : ∀ i,i<ops.size→L.getD i false=true) {a:Act} {w:World} (hq:Q .normal a w) : ∀ fuel,wpAny P .any ops Q fuel L a w
 | 0=>⟨aFa h,hq⟩
 | _+1=>⟨fun _=>hq,fun i hi=>by rw[aFa h] at hi; cases hi⟩
theorem aPV {i:Nat} (h:i<ops.size - 1):ops.pop[i]? = ops[i]?:=by
 rw[Array.getElem?_pop,if_pos h]
theorem aRL {n:Nat} {o:Oper} (hsz:ops.size=n+1) (ho:ops[n]? = some o) (hlow : ∀ (i:Nat) (o':Oper),ops[i]? = some o'→∀ e∈o'.after,aAS e=true→e.on<i)
 (hgu : ∀ (i:Nat) (o':Oper),i<n→ops[i]? = some o'→∀ g b,o'.guard=some (g,b)→g<n)
 (hcov : ∀ D:Nat→Prop,(∀ i,D i→∀ o,ops[i]? = some o→∀ e∈o.after,aAS e=true→D e.on)→(∀ e∈o.after,aAS e=true→D e.on)→∀ j,j<n→D j)
 (hQ : ∀ e a w,e≠Exit.normal→Q' e a w→Q e a w) (hN : ∀ a w,Q' .normal a w→wpOp P ops Q n (Q .normal) a w) :
 ∀ (fuel:Nat) (L' L:Array Bool) (a:Act) (w:World),L'.size=n→L.size=n+1→(∀ j,j<n→L[j]? = L'[j]?)→L[n]? = some false→L'.count false≤fuel →
  (∀ i,L.getD i false=true→∀ o,ops[i]? = some o→∀ e∈o.after,aAS e=true→L.getD e.on false=true)→wpAny P .any ops.pop Q' fuel L' a w→wpAny P .any ops Q (fuel+1) L a w:=by
 have hlt : ∀ {i:Nat} {o:Oper},ops[i]? = some o→i<n+1:=fun hi=>by
  have:=(Array.getElem?_eq_some_iff.1 hi).1
  omega
 have hget : ∀ {L' L:Array Bool},(∀ j,j<n→L[j]? = L'[j]?)→∀ j b,j<n→L.getD j b=L'.getD j b:=fun h j b hj=>by
  simp only[Array.getD_eq_getD_getElem?,h j hj]
 have hps:ops.pop.size=n:=by simp[hsz]
 have hfin : ∀ (f:Nat) (L' L:Array Bool) (a:Act) (w:World),L'.size=n→L.size=n+1→(∀ j,j<n→L[j]? = L'[j]?)→L[n]? = some false→(∀ j,j<n→L'.getD j false=true)→Q' .normal a w→wpAny P .any ops Q (f+1) L a w:=by
  intro f L' L a w hs' hs hj hn hall hq
  have hall2 : ∀ j,j<n→L.getD j false=true:=fun j h=>by rw[hget hj j false h]; exact hall j h
  refine⟨fun hr=>?_,fun i hi=>?_⟩
  · have:n∈Region.ready .any ops L:=mem_ready.2 ⟨by simp[Array.getD_eq_getD_getElem?,hn],o,ho,fun e he hb=>hall2 _ (hlow n o ho e he hb)⟩
    rw[hr] at this; cases this
  · obtain⟨hif,o',ho',_⟩:=mem_ready.1 hi
    have hin:i=n:=by
     have h1:=hlt ho';by_cases h:i<n
     · exfalso;have h2:=hall2 i h
       have h3:i<L.size:=by omega
       simp[Array.getD_eq_getD_getElem?,h3] at h2 hif;rw[h2] at hif; cases hif
     · omega
    subst hin;refine wpOp_mono (fun a w hq=>aQN (fun j hj=>?_) hq f) (hN a w hq);rw[aCc L i j (by omega)];by_cases h:j=i
    · exact .inr h
    · exact .inl (hall2 j (by omega))
 intro fuel
 induction fuel with
 | zero =>
  intro L' L a w hs' hs hj hn hc hcl h;have hall:=aEE L' (by omega);exact hfin 0 L' L a w hs' hs hj hn (fun j hjn=>hall j (by omega)) h.2
 | succ fuel ih =>
  intro L' L a w hs' hs hj hn hc hcl h;obtain⟨h0,h1⟩:=h;by_cases hall : ∀ j,j<n→L'.getD j false=true
  · exact hfin _ L' L a w hs' hs hj hn hall (h0 (aFa fun i hi=>hall i (by omega)))
  refine⟨fun hr=>?_,fun i hi=>?_⟩
  · exfalso;refine hall fun j hjn=>?_;by_cases hj':L'.getD j false=true
    · exact hj'
    · exfalso
      have hjs:j<L'.size:=by omega
      have hjf:L'.getD j true=false:=by simpa[Array.getD_eq_getD_getElem?,hjs] using hj'
      obtain⟨m,hm,hmf,hml⟩:=aDc L' ⟨j,hjs,hjf⟩
      have hmn:m<n:=by omega
      obtain⟨om,hom⟩ : ∃ om,ops[m]? = some om:=⟨ops[m]'(by omega),Array.getElem?_eq_getElem _⟩
      have:m∈Region.ready .any ops L:=mem_ready.2 ⟨by rw[hget hj m true hmn]; exact hmf,om,hom,fun e he hb=>by
       have h3:=hlow m om hom e he hb;rw[hget hj _ false (by omega)];exact hml _ h3⟩
      rw[hr] at this; cases this
  · obtain⟨hif,o',ho',hed⟩:=mem_ready.1 hi
    have hin:i<n:=by
     have h2:=hlt ho';by_cases h:i<n
     · exact h
     · exfalso
       obtain rfl:i=n:=by omega
       obtain rfl:o'=o:=Option.some.inj (ho'.symm.trans ho)
       exact hall fun j hjn=>by
        rw[←hget hj j false hjn];exact hcov (fun j=>L.getD j false=true) hcl (fun e he hb=>hed e he hb) j hjn
    have hop:ops.pop[i]? = some o':=by rw[aPV (by omega)]; exact ho'
    have hr':i∈Region.ready .any ops.pop L':=mem_ready.2 ⟨by rw[←hget hj i true hin]; exact hif,o',hop,fun e he hb=>by
     have h3:=hlow i o' ho' e he hb;rw[←hget hj _ false (by omega)];exact hed e he hb⟩
    have h2:=h1 i hr';have hse:=fun j=>aCc L i j (by omega)
    have hif':L'.getD i true=false:=by rw[←hget hj i true hin]; exact hif
    have hcs:=aFq L' i (by omega) hif'
    have hih : ∀ a w,wpAny P .any ops.pop Q' fuel (L'.setIfInBounds i true) a w→wpAny P .any ops Q (fuel+1) (L.setIfInBounds i true) a w:=fun a w h=>by
     refine ih (L'.setIfInBounds i true) (L.setIfInBounds i true) a w (by simpa using hs') (by simpa using hs) (fun j hjn=>?_) ?_ (by omega) (fun j hjl oj hoj e he hb=>?_) h
     · by_cases e:j=i
       · subst e;rw[Array.getElem?_setIfInBounds_self_of_lt (by omega),Array.getElem?_setIfInBounds_self_of_lt (by omega)]
       · rw[Array.getElem?_setIfInBounds_ne (Ne.symm e),Array.getElem?_setIfInBounds_ne (Ne.symm e)];exact hj j hjn
     · rw[Array.getElem?_setIfInBounds_ne (by omega)];exact hn
     · refine (hse _).2 (.inl ?_);rcases (hse j).1 hjl with h | rfl
       · exact hcl j h oj hoj e he hb
       · obtain rfl:oj=o':=Option.some.inj (hoj.symm.trans ho');exact hed e he hb
    have hy:Region.wanted o' (yielded ops.pop a.tmps)=Region.wanted o' (yielded ops a.tmps):=by
     unfold Region.wanted
     cases hg:o'.guard with
     | none=>rfl
     | some x =>
      obtain⟨g,b⟩:=x;simp only[yielded];rw[aPV (by have:=hgu i o' hin ho' g b hg; omega)]
    unfold wpOp at h2 ⊢;rw[hop] at h2;rw[ho'];simp only[hy] at h2 ⊢;split
    · rename_i hw;rw[if_pos hw] at h2;exact h2.imp (aNC hQ hih) (fun h=>⟨h.1,aFV hQ h.2⟩)
    · rename_i hw;rw[if_neg hw] at h2;exact hih _ _ h2
def aT6 (P:Program) (ops:Array Oper) (o:Oper) (Q:Exit→Act→World→Prop):Exit→Act→World→Prop
 | .normal,a,w=>wpList P ops Q [o] a w
 | e,a,w=>Q e a w
theorem aOn (hm:P.follows .mixedOrders=true) {B:FuncId→Option Func} {o:Oper} (hp:aTm B ops=some o) {id:Nat} {a:Act} {w:World} (h:aF3 P ops.pop (aT6 P ops o Q) a w):(Code.region id ops true).wp P Q a w:=by
 unfold aTm at hp;split at hp
 · cases hp
 rename_i o' hb;cases hc:o'.guard.isNone&&aSC B o'.op&&aPb ops
 · rw[hc] at hp; cases hp
 rw[hc] at hp;simp only[cond_true,Option.some.injEq] at hp;subst hp;simp only[Bool.and_eq_true] at hc;have hok:=hc.2;unfold aPb at hok;rw[Bool.and_eq_true,Bool.and_eq_true] at hok;obtain⟨⟨hE,hbits⟩,hg⟩:=hok
 obtain⟨n,hsz⟩ : ∃ n,ops.size=n+1:=⟨ops.size - 1,by
  rw[Array.back?_eq_getElem?] at hb
  have:=(Array.getElem?_eq_some_iff.1 hb).1
  omega⟩
 rw[Array.back?_eq_getElem?,hsz] at hb;simp only[Nat.add_sub_cancel] at hb;rw[hsz] at hbits hg;simp only[Nat.add_sub_cancel,List.all_eq_true,List.mem_range] at hbits;simp only[Nat.add_sub_cancel] at hg;have hanc:=aLW (ops:=ops) ops.toList [] (by simp) (fun i j h=>by simp[getN] at h);refine wp_region_any hm ?_
 have hps:ops.pop.size=n:=by simp[hsz]
 unfold aF3 at h;rw[hps] at h;rw[hsz];refine aRL hsz hb (aMd hE).low (fun i o'' hi ho'' g b hgd=>?_) (fun D hD hDo j hj=>Reach.closed hD (hanc n j (hbits j hj)) fun o1 ho1=>?_) (Q':=aT6 P ops o' Q) (fun e a w hne hq=>?_) (fun a w hq=>?_) n _ _ a _ (by simp) (by simp) (fun j hj=>?_) ?_ (by simp) (fun i hi=>absurd hi (aCJ _ _)) h
 · rw[Array.all_eq_true] at hg
   have h1:i<ops.pop.size:=by omega
   have h2:=hg i h1
   have h3:ops.pop[i]=o'':=by
    have h4:ops.pop[i]? = some o'':=by rw[aPV (by omega)]; exact ho''
    rw[Array.getElem?_eq_getElem h1] at h4;exact Option.some.inj h4
   rw[h3,hgd] at h2;simpa[Nat.blt_eq] using h2
 · obtain rfl:o1=o':=Option.some.inj (ho1.symm.trans hb);exact hDo
 · cases e <;> first | exact absurd rfl hne | exact hq
 · simp only[aT6,wpList] at hq;unfold wpOp;rw[hb];exact hq
 · rw[Array.getElem?_replicate,Array.getElem?_replicate,if_pos (by omega),if_pos hj]
 · rw[Array.getElem?_replicate,if_pos (by omega)]
end
end
end Go.Proofs.YtcdeimjlgpfjiaaGreatDoor
