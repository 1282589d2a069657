/- A symbolic run of Go code, sixteenth part: an operation, a region. No condition. -/
import Derived.Test.YtcdeimjlgpfjiaaGreatDoorG04
set_option linter.unusedSimpArgs false
set_option linter.unusedVariables false
namespace Go.Proofs.YtcdeimjlgpfjiaaGreatDoor
section
open Go.RowKit
def den (P:Program) (Fin:Nu→Ex→St→Prop):(Nu→Nat→List D→Prop)→Nu→Tr→Prop
 | _,ν,.done e S=>Fin ν e S
 | Ag,ν,.br c t f=>(denB ν c=true→den P Fin Ag ν t)∧(denB ν c=false→den P Fin Ag ν f)
 | Ag,ν,.need g p t=>(denB ν g=true→denN ν p)∧den P Fin Ag ν t
 | Ag,ν,.letC d t=>∀ l,l=aBo ν d→den P Fin Ag (ν++[.l l]) t
 | Ag,ν,.call md g f as_ sh n m t=>∃ ds:Nu,n+ds.length=m∧(denB ν g=true→CallOK P md f (aAX ν as_) (dvOf (ν++ds) sh))∧den P Fin Ag (ν++ds) t
 | Ag,ν,.nil c t f=>(denC ν c=[]→den P Fin Ag ν t)∧den P Fin Ag ν f
 | Ag,ν,.loop m θ t=>∃ I:List D→Nat→Prop,(∃ k,I (θ.map (mkD ν)) k) ∧
  ∀ k ds,ds.length=θ.length→I ds k→den P Fin (fun ν' m' ds'=>if m'=m then ∃ k',k'<k∧I ds' k' else Ag ν' m' ds') (ν++ds) t
 | Ag,ν,.again m θ=>Ag ν m (θ.map (mkD ν))
 | _,_,.stop _ _=>False
 | _,_,.fail _=>False
theorem aCd {P:Program} {Fin:Nu→Ex→St→Prop} : ∀ (t:Tr) (Ag Ag':Nu→Nat→List D→Prop) (ν:Nu),(∀ ν' m ds,ν <+: ν'→Ag ν' m ds→Ag' ν' m ds)→den P Fin Ag ν t→den P Fin Ag' ν t
 | .done e S,Ag,Ag',ν,h,hd=>hd
 | .br c t f,Ag,Ag',ν,h,hd=>⟨fun hc=>aCd t Ag Ag' ν h (hd.1 hc),fun hc=>aCd f Ag Ag' ν h (hd.2 hc)⟩
 | .need g p t,Ag,Ag',ν,h,hd=>⟨hd.1,aCd t Ag Ag' ν h hd.2⟩
 | .letC d t,Ag,Ag',ν,h,hd=>fun l hl=>aCd t Ag Ag' _ (fun ν' m ds hp=>h ν' m ds ((List.prefix_append _ _).trans hp)) (hd l hl)
 | .nil c t f,Ag,Ag',ν,h,hd=>⟨fun hc=>aCd t Ag Ag' ν h (hd.1 hc),aCd f Ag Ag' ν h hd.2⟩
 | .call md g f as_ sh n m t,Ag,Ag',ν,h,hd=>by
  obtain⟨ds,h1,h2,h3⟩:=hd;exact⟨ds,h1,h2,aCd t Ag Ag' _ (fun ν' m ds hp=>h ν' m ds ((List.prefix_append _ _).trans hp)) h3⟩
 | .loop m θ t,Ag,Ag',ν,h,hd=>by
  obtain⟨I,hk,hI⟩:=hd;refine⟨I,hk,fun k ds hl hi=>aCd t _ _ _ (fun ν' m' ds' hp=>?_) (hI k ds hl hi)⟩;by_cases hm:m'=m
  · simp only[hm,if_true]; exact id
  · simp only[hm,if_false]; exact h ν' m' ds' ((List.prefix_append _ _).trans hp)
 | .again m θ,Ag,Ag',ν,h,hd=>h _ _ _ (List.prefix_refl _) hd
 | .stop _ _,Ag,Ag',ν,h,hd=>hd
 | .fail _,Ag,Ag',ν,h,hd=>hd
section
variable {P:Program} {T:Tab} {w0:Base} {X:Nat→Prop} {Fin:Nu→Ex→St→Prop} {Ag:Nu→Nat→List D→Prop}
theorem aA5 {ν:Nu} {g:E} {t:Tr} : ∀ (ns:List Need),den P Fin Ag ν (needs g ns t)→(denB ν g=true→aAZ ν ns)∧den P Fin Ag ν t
 | [],h=>⟨fun _ n hn=>by simp at hn,h⟩
 | p::ns,h=>by
  simp only[needs,den] at h;obtain⟨h1,h2⟩:=aA5 ns h.2;refine⟨fun hg n hn=>?_,h2⟩;rcases List.mem_cons.1 hn with rfl | hn
  · exact h.1 hg
  · exact h1 hg n hn
theorem aBx {ν:Nu} {S:St} {σ:List Pl} {a:Act} {w:World} (h:Rel w0 X ν S σ a w) (id:Nat) (hs:(σ[id]?).isSome=true):aBh ν w X σ (getO S.L) id:=fun ob hob=>by
 obtain⟨pl,hpl⟩:=Option.isSome_iff_exists.1 hs;obtain⟨h1,h2⟩:=h.L id ob pl hob hpl;exact⟨pl,hpl,h1,h2⟩
theorem aB2 {ν:Nu} {σ:List Pl} {w:World} {v:LV} {r:Value} (h:LR ν w X σ v r) {id:Nat} (hid:v.id? = some id):(σ[id]?).isSome=true:=by
 cases v with
 | ptr i _ _ =>
  simp only[LV.id?,Option.some.injEq] at hid;subst hid;simp only[LR] at h;obtain⟨_,pl,_,hpl,_⟩:=h;rw[hpl]; rfl
 | mp i _ =>
  simp only[LV.id?,Option.some.injEq] at hid;subst hid;simp only[LR] at h;obtain⟨_,pl,_,hpl,_⟩:=h;rw[hpl]; rfl
 | rp i _ _ _ =>
  simp only[LV.id?,Option.some.injEq] at hid;subst hid;simp only[LR] at h;obtain⟨_,pl,_,hpl,_⟩:=h;rw[hpl]; rfl
 | rs i _ _ _ =>
  simp only[LV.id?,Option.some.injEq] at hid;subst hid;simp only[LR] at h;obtain⟨_,_,_,pl,_,hpl,_⟩:=h;rw[hpl]; rfl
 | _=>simp[LV.id?] at hid
theorem aNp {ν:Nu} {σ:List Pl} {w:World} : ∀ {cs:List LV} {rs:List Value},cs.all LV.shut=true→LRs ν w X σ cs rs→∀ (f:Nat) (cv:CV),(cs.map (cvOf ν))[f]? = some cv→∃ r,rs[f]? = some r∧CVR w (Exc X σ) cv r
 | [],[],_,_,f,cv,h=>by simp at h
 | c::cs,r::rs,hv,h,0,cv,hf=>by
  simp only[List.all_cons,Bool.and_eq_true] at hv;simp only[LRs] at h;simp only[List.map_cons,List.getElem?_cons_zero,Option.some.injEq] at hf;subst hf;exact⟨r,rfl,aNG hv.1 h.1⟩
 | c::cs,r::rs,hv,h,f+1,cv,hf=>by
  simp only[List.all_cons,Bool.and_eq_true] at hv;simp only[LRs] at h;simp only[List.map_cons,List.getElem?_cons_succ] at hf;obtain⟨r',h1,h2⟩:=aNp hv.2 h.2 f cv hf;exact⟨r',by simpa using h1,h2⟩
 | [],_::_,_,h,_,_,_=>by simp only[LRs] at h
 | _::_,[],_,h,_,_,_=>by simp only[LRs] at h
theorem aNY {ν:Nu} {σ:List Pl} {w:World} {ρ:Operand→LV} {val:Operand→Value} {get:Nat→Option Ob} {fresh:Nat} {o:Oper} {fn:Fn} {first captured:Array Operand} (ho:o.op = .makeFunc fn first captured) {out:Out} (h:aAx T ρ get fresh o.op=some out) (hne:out.e≠.no)
 (hρ : ∀ x∈o.op.operands,LR ν w X σ (ρ x) (val x)) (hk : ∀ x∈o.op.operands,∀ id,(ρ x).id? = some id→aBh ν w X σ get id)
 (hfree : ∀ (i:Nat) (p:Pl) (b c:Nat),σ[i]? = some p→p.at_=some (b,c)→¬ X b∧∀ (j:Nat) (q:Pl) (d:Nat),σ[j]? = some q→q.at_=some (b,d)→j=i):aDs ν w X σ fresh out ((execOp val o).run P w):=by
 have h':=h;rw[ho] at h;simp only[aAx] at h
 cases hb:first.isEmpty&&captured.isEmpty
 rotate_left
 · rw[hb] at h;simp only[cond_true,Option.some.injEq] at h;subst h;exact absurd rfl hne
 rw[hb] at h;simp only[cond_false] at h;split at h
 rotate_left
 · have:=aAp h
   subst this;exact absurd rfl hne
 · simp at h
 rename_i f x hfst hcap;cases hcp:T.cap f
 rotate_left
 · rw[hcp] at h;simp only[cond_true,Option.some.injEq] at h;subst h;exact absurd rfl hne
 rw[hcp] at h;simp only[cond_false] at h
 obtain rfl:first = #[]:=by apply Array.toList_inj.1; simpa using hfst
 obtain rfl:captured = #[x]:=by apply Array.toList_inj.1; simpa using hcap
 have lx:=hρ x (by rw[ho]; simp[Op.operands]);have hkx:=hk x (by rw[ho]; simp[Op.operands]);split at h
 · rename_i id ver hx;rw[hx] at lx hkx;split at h
   rotate_left
   · simp at h
   rename_i ver' cs e hob;cases hb2:Nat.beq ver ver'&&cs.all LV.shut
   · rw[hb2] at h; simp at h
   rw[hb2] at h;simp only[cond_true,Option.some.injEq] at h;subst h;simp only[Bool.and_eq_true] at hb2;have hv:=Nat.eq_of_beq_eq_true hb2.1;subst hv;obtain⟨pl,hpl,hver,hor⟩:=hkx id rfl _ hob;obtain⟨b,c,a,fr,hat,hh,hfr,hl⟩:=hor;simp only[LR] at lx;obtain⟨p,pl2,hr,hpl2,hle,hp⟩:=lx;rw[hpl] at hpl2;simp only[Option.some.injEq] at hpl2;subst hpl2;obtain⟨b2,c2,hat2,hp⟩:=hp hver.symm;rw[hat] at hat2;simp only[Option.some.injEq,Prod.mk.injEq] at hat2;obtain⟨rfl,rfl⟩:=hat2;obtain⟨hnX,honly⟩:=hfree id pl b c hpl hat;intro m hm;simp only[aBo,List.map_cons,List.map_nil] at hm
   have hnot : ∀ b',Exc X (σ.set id ⟨ver+1,none,1⟩) b'→Exc X σ b'∧b'≠b:=fun b' hb'=>by
    rcases hb' with hb' | ⟨j,q,d,hj,hd⟩
    · exact⟨.inl hb',fun e=>hnX (e▸hb')⟩
    · rcases aEy hpl j q hj with ⟨rfl,rfl⟩ | ⟨hne,hj'⟩
      · simp at hd
      · refine⟨.inr ⟨j,q,d,hj',hd⟩,fun e=>hne (honly j q d hj' (e▸hd))⟩
   refine⟨.value (.func (.func f) #[] #[val x]),.func (.func f) #[] #[val x],w,pl,⟨ver+1,none,1⟩,?_,.inl rfl,hpl,rfl,.inr (by rw[hver]; exact Nat.lt_succ_self _),.inr ⟨Turn.refl _ _,.inl rfl⟩,?_,?_⟩
   · simp[execOp,ho,Instr.makeFunc]
   · simp only[LR];refine⟨_,rfl,?_⟩;simp only[LRs,LR,and_true]
     have hd:(denC ν (.var m)).getD (denI ν (.int 0)).toNat []=cs.map (cvOf ν):=by simp[denC,hm,D.els,denI]
     rw[hd];refine⟨b,0,fun f'=>a.toList.getD f' undef,by rw[hr,hp],fun f' cv hf=>?_⟩;obtain⟨r,h1,h2⟩:=aNp hb2.2 hl f' cv hf;refine⟨fun hx=>(hnot b hx).2 rfl,?_,?_⟩
     · have h1':a[f']? = some r:=by simpa using h1
       have hlt:f'<a.size:=(Array.getElem?_eq_some_iff.1 h1').1
       have:=hfr f' hlt
       rw[aCt hh,show 0+f'=f' from Nat.zero_add _,h1'];simp[List.getD,h1]
     · have:a.toList.getD f' undef=r:=by simp[List.getD,h1]
       show CVR w _ cv (a.toList.getD f' undef);rw[this];exact h2.mono fun b' hb'=>(hnot b' hb').1
   · exact⟨rfl,by simp[denC],fun el hel=>by simp[denC] at hel,.inl ⟨rfl,by simp[denC]⟩⟩
 · simp only[Option.some.injEq] at h;subst h;exact absurd rfl hne
 · simp at h
theorem aPM (hT:TOK P T) {ν:Nu} {σ:List Pl} {w:World} {ρ:Operand→LV} {val:Operand→Value} {get:Nat→Option Ob} {fresh:Nat} {o:Oper} {t:TypeId} {rs:Option Operand} (ho:o.op = .makeMap t rs) {out:Out} (h:aAx T ρ get fresh o.op=some out):aDs ν w X σ fresh out ((execOp val o).run P w):=by
 rw[ho] at h
 cases rs with
 | some x=>simp[aAx] at h
 | none =>
  simp only[aAx] at h;split at h
  rotate_left
  · simp at h
  split at h
  rotate_left
  · simp at h
  split at h
  · simp at h
  rename_i vk hvk;simp only[Option.some.injEq] at h;subst h;intro hpl;have hm:aGf w (w.alloc (.map #[] 0)) ⟨0,none,0⟩ ⟨1,some (w.heap.size,0),0⟩:=.inr ⟨Turn.alloc w _,.inr ⟨0,rfl,by simp⟩⟩;refine⟨.value (.map (some w.heap.size)),_,w.alloc (.map #[] 0),_,⟨1,some (w.heap.size,0),0⟩,?_,.inl rfl,hpl,rfl,.inr (by simp),hm,?_,?_⟩
  · simp only[execOp,ho,Instr.makeMap,newObj,Sem.run_bind,Sem.run_pure,Result.andThen_ok];rfl
  · simp only[LR];exact⟨_,_,rfl,List.getElem?_set_self (List.getElem?_eq_some_iff.1 hpl).1,Nat.le_refl _,fun _=>⟨_,_,rfl,rfl⟩⟩
  · exact⟨_,_,#[],0,rfl,aAl _ _,by simp[denC,MapR]⟩
theorem aNr {w:World} {Y:Nat→Prop} {vk:Nat} {s:ByteArray} {cv:CV} (h3:aBA cv=vk) {x:Value} (h4:CVR w Y cv x) : ∀ (es:List MapEntry) (c:List (List CV)) (p:Nat),MapR w Y vk es c→MapR w Y vk (es.modify p fun e=>{ e with key:=.string s,val:=x }) (c.set p [.v (.string s),cv])
 | [],[],p,_=>by cases p <;> simp[MapR]
 | e::es,el::c,0,h=>by
  simp only[MapR] at h;simp only[List.modify_zero_cons,List.set_cons_zero,MapR];exact⟨⟨s,cv,rfl,rfl,h3,h4⟩,h.2⟩
 | e::es,el::c,p+1,h=>by
  simp only[MapR] at h;simp only[List.modify_succ_cons,List.set_cons_succ,MapR];exact⟨h.1,aNr h3 h4 es c p h.2⟩
 | [],_::_,_,h=>by simp[MapR] at h
 | _::_,[],_,h=>by simp[MapR] at h
theorem aJN {w:World} {Y:Nat→Prop} {vk:Nat} {s:ByteArray} {cv:CV} (h3:aBA cv=vk) {x:Value} (h4:CVR w Y cv x) (n:Nat) : ∀ (es:List MapEntry) (c:List (List CV)),MapR w Y vk es c→MapR w Y vk (es++[{ key:=.string s,val:=x,born:=n }]) (c++[[.v (.string s),cv]])
 | [],[],_=>by
  simp only[List.nil_append,MapR,and_true];exact⟨s,cv,rfl,rfl,h3,h4⟩
 | e::es,el::c,h=>by
  simp only[MapR] at h;simp only[List.cons_append,MapR];exact⟨h.1,aJN h3 h4 n es c h.2⟩
 | [],_::_,h=>by simp[MapR] at h
 | _::_,[],h=>by simp[MapR] at h
theorem aR8 {ν:Nu} : ∀ (v:LV),v.shut=true→aQO v≠0→aBA (cvOf ν v)=aQO v
 | .i k e,_,_=>by cases k <;> rfl
 | .b e,_,_=>rfl
 | .s e,_,_=>rfl
 | .vs c,_,_=>rfl
 | .k _,_,h=>absurd rfl h
 | .o _,_,h=>absurd rfl h
 | .vp _ _ _,h,_=>by simp[LV.shut] at h
 | .agg _,h,_=>by simp[LV.shut] at h
 | .tup _,h,_=>by simp[LV.shut] at h
 | .ptr _ _ _,h,_=>by simp[LV.shut] at h
 | .rp _ _ _ _,h,_=>by simp[LV.shut] at h
 | .rs _ _ _ _,h,_=>by simp[LV.shut] at h
 | .junk,h,_=>by simp[LV.shut] at h
 | .g _ _,h,_=>by simp[LV.shut] at h
 | .fn _ _,h,_=>by simp[LV.shut] at h
 | .nl _ _,h,_=>by simp[LV.shut] at h
 | .mp _ _,h,_=>by simp[LV.shut] at h
 | .ifc _ _,h,_=>by simp[LV.shut] at h
theorem aLS (hT:TOK P T) {ν:Nu} {σ:List Pl} {w:World} {ρ:Operand→LV} {val:Operand→Value} {get:Nat→Option Ob} {fresh:Nat} {o:Oper} {t:TypeId} {m k x:Operand} (ho:o.op = .mapUpdate t m k x) {out:Out} (h:aAx T ρ get fresh o.op=some out)
 (lm:LR ν w X σ (ρ m) (val m)) (lk:LR ν w X σ (ρ k) (val k)) (lx:LR ν w X σ (ρ x) (val x)) (hk : ∀ id,(ρ m).id? = some id→aBh ν w X σ get id) (hown : ∀ b,Own σ b→b<w.heap.size):aDs ν w X σ fresh out ((execOp val o).run P w):=by
 rw[ho] at h;simp only[aAx] at h;split at h
 rotate_left
 · simp at h
 rename_i kt e _ _ _ _ id ver ke hg hm hke;split at h
 rotate_left
 · simp at h
 rename_i ver' c vk _ _ _ _ hob hgk;cases hb:Nat.beq ver ver'&&Nat.beq (aQO (ρ x)) vk&&(ρ x).shut&&Nat.ble 1 vk
 · rw[hb] at h; simp at h
 rw[hb] at h;simp only[cond_true,Option.some.injEq] at h;subst h;simp only[Bool.and_eq_true] at hb
 have hv0:vk≠0:=by
  have:1≤vk:=by simpa using hb.2
  omega
 replace hb:=hb.1;intro n hn;rw[hm] at lm hk;rw[hke] at lk;simp only[LR] at lk;obtain⟨b,cc,pl,hpl,hver,hat,hvm,hO⟩:=aQt lm (hk id rfl) hob hb.1.1;obtain⟨b',c0,es,clock,hat',hh,hR⟩:=hO;rw[hat] at hat';simp only[Option.some.injEq,Prod.mk.injEq] at hat';obtain⟨rfl,rfl⟩:=hat';obtain⟨hu,_⟩:=hT.get hg;obtain⟨huk,_⟩:=hT.get hgk;simp only at hu huk;have hbl:b<w.heap.size:=(Array.getElem?_eq_some_iff.1 hh).1;have hf:=aGY (denS ν ke) es.toList (denC ν c) 0 hR;have hlen:=hR.len;have hck:=MapKept.run_checkKey (w:=w) huk (k:=.string (denS ν ke)) trivial false 9999;have lcv:=aNG hb.2 lx;have hvk:=Nat.eq_of_beq_eq_true hb.1.2;have e1:=(aGU hn).1
 have fin : ∀ (es':Array MapEntry) (clock':Nat),(Instr.mapUpdate t (val m) (val k) (val x)).run P w = .ok () { w with heap:=w.heap.setIfInBounds b (.map es' clock') }→MapR w (Exc X σ) vk es'.toList (aRI (denC ν c) (denS ν ke) (cvOf ν (ρ x))) →
  EffU ν w X σ id ⟨ver',.mp (.var n) vk⟩ (.tup []) ((execOp val o).run P w):=fun es' clock' hrun hR'=>by
  have ht:Turn (some b) w { w with heap:=w.heap.setIfInBounds b (.map es' clock') }:=⟨rfl,rfl,rfl,by simp,fun b1 hb1 hne=>by
   have:b≠b1:=fun e=>hne (by rw[e])
   simp[Array.getElem?_setIfInBounds,this],fun b1 a1 e1 fr1 h1=>by
    by_cases hb1:b1=b
    · subst hb1;rw[hh] at h1;simp at h1
    · have:b≠b1:=fun e=>hb1 e.symm
      exact⟨a1,e1,fr1,by simpa[Array.getElem?_setIfInBounds,this] using h1,rfl⟩⟩
  refine⟨.skip,undef,_,pl,pl,?_,.inr ⟨rfl,rfl⟩,hpl,hver,.inl rfl,.inl ⟨b,cc,cc,hat,hat,ht⟩,?_,?_⟩
  · simp only[execOp,ho,Sem.run_bind,hrun,Result.andThen_ok,Sem.run_pure]
  · simp only[LR];exact⟨#[],rfl,by simp[LRs]⟩
  · rw[aGt hpl];refine⟨b,cc,es',clock',hat,by simp[hbl],?_⟩;rw[e1];exact MapR.step (aEe hpl hat ht) _ _ hR'
 have hkind:aBA (cvOf ν (ρ x))=vk:=by
  rw[←hvk];exact aR8 _ hb.2 (by rw[hvk]; exact hv0)
 by_cases hp:aBy (denC ν c) (denS ν ke)<(denC ν c).length
 · have hlt:aBy (denC ν c) (denS ν ke)<es.toList.length:=by omega
   have hes:es.toList[aBy (denC ν c) (denS ν ke)]? = some (es.toList[aBy (denC ν c) (denS ν ke)]'hlt):=List.getElem?_eq_getElem hlt;obtain⟨s,cv,h1,h2,h3,h4⟩:=hR.at _ _ hes
   have hsk:denS ν ke=s:=by
    have hp':=List.findIdx_getElem (xs:=denC ν c) (p:=fun (el:List CV)=>denS ν ke==(el.getD 0 default).str) (w:=hp)
    have e2:(denC ν c)[aBy (denC ν c) (denS ν ke)]'hp=[.v (.string s),cv]:=by
     have:=List.getElem?_eq_getElem hp
     rw[h1] at this;simpa using this.symm
    unfold aBy at e2;rw[e2] at hp';exact (MapKept.bytes_beq _ _).1 (by simpa[CV.str] using hp')
   rw[hes] at hf;simp only[Option.map_some] at hf;refine fin (es.modify (aBy (denC ν c) (denS ν ke)) fun e=>{ e with key:=.string (denS ν ke),val:=val x }) clock ?_ ?_
   · have hes':es[aBy (denC ν c) (denS ν ke)]? = some (es.toList[aBy (denC ν c) (denS ν ke)]'hlt):=by
      rw[←hes]; simp
     simp only[Instr.mapUpdate,Sem.run_bind,aAv hu,Result.andThen_ok,hvm,lk,MapKept.run_getObj_map hh,hck,MapKept.run_findKey huk hf,Nat.zero_add,hes',Option.map_some,Option.getD_some,h2,←hsk,MapKept.run_keyThatStays (d:=.string) (k:=.string (denS ν ke)) trivial,MapKept.run_setObj_map _ hh]
   · simp only[aRI,if_pos hp]
     have:=aNr (s:=denS ν ke) hkind lcv es.toList (denC ν c) (aBy (denC ν c) (denS ν ke)) hR
     simpa using this
 · have hes:es.toList[aBy (denC ν c) (denS ν ke)]? = none:=List.getElem?_eq_none (by omega);rw[hes] at hf;simp only[Option.map_none] at hf;refine fin (es.push { key:=.string (denS ν ke),val:=val x,born:=clock }) (clock+1) ?_ ?_
   · simp only[Instr.mapUpdate,Sem.run_bind,aAv hu,Result.andThen_ok,hvm,lk,MapKept.run_getObj_map hh,hck,MapKept.run_findKey huk hf,MapKept.run_setObj_map _ hh]
   · simp only[aRI,if_neg hp,Array.toList_push];exact aJN (s:=denS ν ke) hkind lcv clock es.toList (denC ν c) hR
theorem aTQ (hT:TOK P T) {ν:Nu} {σ:List Pl} {w:World} {ρ:Operand→LV} {val:Operand→Value} {get:Nat→Option Ob} {fresh:Nat} {o:Oper} {out:Out} (h:aAx T ρ get fresh o.op=some out) (hn:aAZ ν out.needs)
 (hρ : ∀ x∈o.op.operands,LR ν w X σ (ρ x) (val x)) (hk : ∀ x∈lookO o.op,∀ id,(ρ x).id? = some id→aBh ν w X σ get id) (hown : ∀ b,Own σ b→b<w.heap.size)
 (hfree : ∀ (i:Nat) (p:Pl) (b c:Nat),σ[i]? = some p→p.at_=some (b,c)→¬ X b∧∀ (j:Nat) (q:Pl) (d:Nat),σ[j]? = some q→q.at_=some (b,d)→j=i):aDs ν w X σ fresh out ((execOp val o).run P w):=by
 by_cases hne:out.e = .no
 · unfold aDs; rw[hne]; trivial
 obtain⟨dst,op,type,pos,after,guard⟩:=o;cases op
 case makeFunc fn first captured=>exact aNY rfl h hne hρ (fun x hx=>hk x (by simpa using hx)) hfree
 case makeMap t r=>exact aPM hT rfl h
 case mapUpdate t m k x=>exact aLS hT rfl h (hρ m (by simp[Op.operands])) (hρ k (by simp[Op.operands])) (hρ x (by simp[Op.operands])) (hk m (by simp[Op.operands])) hown
 case lookup t m k ok=>exact absurd (aNm hT h (hρ m (by simp[Op.operands])) (hρ k (by simp[Op.operands])) (hk m (by simp[Op.operands]))).1 hne
 case box e x=>exact aVN rfl h (hρ x (by simp[Op.operands]))
 case alloc e=>exact aSm hT rfl h
 case store t a x=>exact aSa hT rfl h hn (hρ a (by simp[Op.operands])) (hρ x (by simp[Op.operands])) (hk a (by simp[Op.operands]))
 case range t x=>exact aS2 hT rfl h (hρ x (by simp[Op.operands]))
 case makeSlice t l c=>exact aLE hT rfl h hn (hρ l (by simp[Op.operands])) (hρ c (by simp[Op.operands]))
 case buildSlice t len parts =>
  exact aKM hT rfl h fun p hp=>hρ p.2 (by
   simp only[Op.operands];simp only[List.mem_toArray,List.mem_map];exact⟨p,hp,rfl⟩)
 case convert s d x=>exact aP4 hT rfl h hne (hρ x (by simp[Op.operands]))
 case load t x=>exact absurd (aQz hT h (hρ x (by simp[Op.operands])) (hk x (by simp[Op.operands]))).1 hne
 case binOp op t x y yt=>exact absurd (aOs hT h (hρ x (by simp[Op.operands])) (hρ y (by simp[Op.operands])) (hk x (by simp[Op.operands]))).1 hne
 case makeInterface t x=>exact absurd (aDP hT h (hρ x (by simp[Op.operands]))).1 hne
 case typeAssert x xt at_ ok=>exact absurd (aGa hT h (hρ x (by simp[Op.operands]))).1 hne
 case fieldAddr t x f=>exact absurd (aHw hT h (hρ x (by simp[Op.operands])) (hk x (by simp[Op.operands]))).1 hne
 case field t x f=>exact absurd (aPY hT h (hρ x (by simp[Op.operands]))).1 hne
 case indexAddr t x ix=>exact absurd (aHE hT h (hρ x (by simp[Op.operands])) (hρ ix (by simp[Op.operands])) (hk x (by simp[Op.operands]))).1 hne
 case index t x ix=>exact absurd (aPp hT h (hρ x (by simp[Op.operands])) (hρ ix (by simp[Op.operands]))).1 hne
 case extract x k=>exact absurd (aJ5 (P:=P) h (hρ x (by simp[Op.operands]))).1 hne
 case slice t x lo hi mx=>exact absurd (aOJ hT h (hρ x (by simp[Op.operands])) (fun y hy=>hρ y (by simp[Op.operands,hy])) (fun y hy=>hρ y (by simp[Op.operands,hy])) (fun y hy=>hρ y (by simp[Op.operands,hy])) (hk x (by simp[Op.operands]))).1 hne
 case call c =>
  obtain⟨callee,args,argTypes⟩:=c;cases callee
  case builtin b =>
   by_cases hb:b = .append
   · subst hb;exact aRg hT rfl h hn (fun x hx=>hρ x (by simpa[Op.operands,Call.operands] using hx)) (fun x hx=>hk x (by simpa[Op.operands,Call.operands] using hx))
   · exfalso;simp only[aAx] at h
     (repeat' (first | split at h | replace h:=aBR h)) <;> first
      | (simp at h; done)
      | (simp only[Option.some.injEq] at h; subst h; exact hne rfl)
      | (exact hb rfl)
  all_goals simp[aAx] at h
 all_goals
  exfalso;simp only[aAx] at h
  (repeat' (first | split at h | replace h:=aBR h)) <;> first
   | (simp at h; done)
   | (simp only[Option.some.injEq] at h; subst h; exact hne rfl)
theorem Rel.freeP {ν:Nu} {S:St} {σ:List Pl} {a:Act} {w:World} (h:Rel w0 X ν S σ a w) (i:Nat) (p:Pl) (b c:Nat) (hi:σ[i]? = some p) (hc:p.at_=some (b,c)) : ¬ X b∧∀ (j:Nat) (q:Pl) (d:Nat),σ[j]? = some q→q.at_=some (b,d)→j=i :=
 ⟨fun hx=>h.free ⟨i,p,c,hi,hc⟩ hx,fun j q d hj hd=>h.inj j i q p b d c hj hi hd hc⟩
theorem Rel.turn {ν:Nu} {S:St} {σ:List Pl} {a:Act} {w w':World} (h:Rel w0 X ν S σ a w) (ht:Turn none w w'):Rel w0 X ν S σ a w':=by
 have hst:Stays (Exc X σ) (Exc X σ) w w':=⟨fun b _ hb=>ht.heap b hb (by simp),fun b hb=>.inl hb,ht.size⟩;have hla:=Later'.refl σ
 exact { defers:=h.defers,F:=LRs.step hst hla _ _ h.F,len:=h.len,L:=fun i ob pl hob hi=>by
          obtain⟨h1,h2⟩:=h.L i ob pl hob hi;exact⟨h1,OR.step hst hla (fun b c hc=>ht.heap b (h.own b ⟨i,pl,c,hi,hc⟩).2 (by simp)) _ h2⟩
         inj:=h.inj,own:=fun b hb=>⟨(h.own b hb).1,Nat.lt_of_lt_of_le (h.own b hb).2 ht.size⟩
         old:=h.old.turn ht (fun b hb=>by simp at hb),ex:=h.ex,glo:=h.glo,n:=h.n,G:=LRs.step hst hla _ _ h.G }
theorem Turn.of_below {w w':World} (h:Below w.heap.size w w'):Turn none w w':=⟨h.os,h.tape,h.output,h.size,fun b hb _=>h.block b hb,.of_heap fun b hb=>h.block b hb⟩
theorem aCn {o:Oper} {a:Act} {w w':World} {n:Next} {r:Value} {K:Act→World→Prop} {Q:Exit→Act→World→Prop} (hr:(execOp a.eval o).run P w = .ok n w') (hn:aUz n r) (h:K (a.put o.dst r) w'):o.wp P a w K Q:=by
 unfold Oper.wp;rw[hr];rcases hn with rfl | ⟨rfl,rfl⟩
 · exact h
 · exact h
theorem aCK {ν:Nu} {S:St} {σ:List Pl} {a:Act} {w:World} (hR:Rel w0 X ν S σ a w) {i:Nat} {ob:Ob} {v:LV} {o:Oper} (h:EffU ν w X σ i ob v ((execOp a.eval o).run P w)) {K:Act→World→Prop} {Q:Exit→Act→World→Prop}
 (hK : ∀ (σ':List Pl) (r:Value) (w':World),Rel w0 X ν { S with L:=setO S.L i ob } σ' a w'→LR ν w' X σ' v r→K (a.put o.dst r) w'):o.wp P a w K Q:=by
 obtain⟨n,r,w',pl,pl',hr,hnr,hpl,hv,hvv,hm,lr,hob⟩:=h;exact aCn hr hnr (hK _ r w' (hR.upd hpl hv hvv hm hob) lr)
theorem aPe (ν:Nu) (d:D) (n:Nat) (h:ν.length=n):Nu.at (ν++[d]) n=d:=by
 subst h
 induction ν with
 | nil=>rfl
 | cons x ν ih=>simpa[Nu.at] using ih
theorem Rel.hole_k {ν:Nu} {S:St} {σ:List Pl} {a:Act} {w:World} (h:Rel w0 X ν { S with L:=S.L++[⟨0,.hole⟩] } (σ++[⟨0,none,0⟩]) a w) {v:LV} {r:Value} (l:LR ν w X (σ++[⟨0,none,0⟩]) v r) (id:Nat) (hid:v.id? = some id) :
 aBh ν w X (σ++[⟨0,none,0⟩]) (getO S.L) id:=fun ob hob =>
 aBx h id (aB2 l hid) ob (by simp only[aGv,if_pos (aG4 _ _ _ hob)]; exact hob)
theorem aPQ {ν:Nu} {S:St} {σ:List Pl} {a:Act} {w:World} (h:Rel w0 X ν S σ a w):(σ++[(⟨0,none,0⟩:Pl)])[S.L.length]? = some ⟨0,none,0⟩:=by
 rw[←h.len]
 simp
theorem aMm (hT:TOK P T) {ν:Nu} {S:St} {σ:List Pl} {a:Act} {w:World} (hR:Rel w0 X ν S σ a w) {o:Oper}
 {ns:List Need} {v:LV} {e:Eff} (h:aAx T S.ev (getO S.L) S.L.length o.op=some ⟨ns,v,e⟩) (hok:isNo e=true∨aAU S.n ns=true)
 (hn:aAZ ν ns) {k:St→LV→Tr} (hd:den P Fin Ag ν (effs S v e k)) {K:Act→World→Prop} {Q:Exit→Act→World→Prop}
 (hK : ∀ (ν':Nu) (S':St) (v':LV) (σ':List Pl) (r:Value) (w':World),den P Fin Ag ν' (k S' v')→Rel w0 X ν' S' σ' a w'→LR ν' w' X σ' v' r→S'.F=S.F→K (a.put o.dst r) w'):o.wp P a w K Q:=by
 have own : ∀ {ν:Nu} {S:St} {σ:List Pl} {w:World},Rel w0 X ν S σ a w→∀ b,Own σ b→b<w.heap.size:=fun h b hb=>(h.own b hb).2
 have fresh : ∀ {ν:Nu} {S':St},Rel w0 X ν S' σ a w→S'.F=S.F→S'.L=S.L→aAZ ν ns→aDs ν w X (σ++[⟨0,none,0⟩]) S.L.length ⟨ns,v,e⟩ ((execOp a.eval o).run P w):=fun {ν S'} hR' hF hL hn'=>by
  have hh:=hR'.hole
  have hρ : ∀ x,LR ν w X (σ++[⟨0,none,0⟩]) (S.ev x) (a.eval x):=fun x=>by
   have:=aCv hh.F x
   cases x <;> simpa only[St.ev,hF] using this
  have:=aTQ hT h hn' (fun x _=>hρ x) (fun x _ id hid=>by
   have:=Rel.hole_k hh (hρ x) id hid
   rw[hL] at this;exact this) (own hh) hh.freeP
  exact this
 have old : ∀ {ν:Nu} {S':St},Rel w0 X ν S' σ a w→S'.F=S.F→S'.L=S.L→aAZ ν ns→aDs ν w X σ S.L.length ⟨ns,v,e⟩ ((execOp a.eval o).run P w):=fun {ν S'} hR' hF hL hn'=>by
  have hρ : ∀ x,LR ν w X σ (S.ev x) (a.eval x):=fun x=>by
   have:=aCv hR'.F x
   cases x <;> simpa only[St.ev,hF] using this
  exact aTQ hT h hn' (fun x _=>hρ x) (fun x _ id hid=>by
   have:=aBx hR' id (aB2 (hρ x) hid)
   rw[hL] at this;exact this) (own hR') hR'.freeP
 cases e with
 | no =>
  obtain⟨r,hr,lr⟩:=aQl hT o h rfl (fun x _=>aCv hR.F x) (fun x _ id hid=>aBx hR id (aB2 (aCv hR.F x) hid)) hn;exact aCn hr (.inl rfl) (hK ν S v σ r w hd hR lr rfl)
 | new ob =>
  simp only[effs] at hd;have h1:=fresh hR rfl rfl hn (aPQ hR);refine aCK hR.hole h1 fun σ' r w' hR' lr=>hK ν _ v σ' r w' hd ?_ lr rfl;rw[aM8] at hR';exact hR'
 | upd i ob =>
  simp only[effs] at hd;have h1:=old hR rfl rfl hn;exact aCK hR h1 fun σ' r w' hR' lr=>hK ν _ v σ' r w' hd hR' lr rfl
 | newc d ob vf =>
  simp only[effs] at hd;cases hok':S.ok&&d.ok S.n
  · rw[hok'] at hd; simp[den] at hd
  rw[hok'] at hd;simp only[Bool.and_eq_true] at hok';simp only[cond_true,den] at hd;have hd:=hd _ rfl;have hR':=hR.more hok'.1 [.l (aBo ν d)];have hns:=hok.resolve_left (by simp[isNo]);have h1:=fresh hR' rfl rfl ((aD3 ν _ ns (by rw[hR.n]; exact hns)).2 hn) S.n (by rw[aHd ν _ d (by rw[hR.n]; exact hok'.2)]; exact aPe ν _ _ hR.n) (aPQ hR);refine aCK hR'.hole h1 fun σ' r w' hR2 lr=>hK _ _ _ σ' r w' hd ?_ lr rfl;rw[aM8] at hR2;exact hR2
 | updc d i ob vf =>
  simp only[effs] at hd;cases hok':S.ok&&d.ok S.n
  · rw[hok'] at hd; simp[den] at hd
  rw[hok'] at hd;simp only[Bool.and_eq_true] at hok';simp only[cond_true,den] at hd;have hd:=hd _ rfl;have hR':=hR.more hok'.1 [.l (aBo ν d)];have hns:=hok.resolve_left (by simp[isNo]);have h1:=old hR' rfl rfl ((aD3 ν _ ns (by rw[hR.n]; exact hns)).2 hn) S.n (by rw[aHd ν _ d (by rw[hR.n]; exact hok'.2)]; exact aPe ν _ _ hR.n);exact aCK hR' h1 fun σ' r w' hR2 lr=>hK _ _ _ σ' r w' hd hR2 lr rfl
end
end
end Go.Proofs.YtcdeimjlgpfjiaaGreatDoor
