/- The parser's cases. Condition: what its expressions come to. -/
import Derived.Test.YtcdeimjlgpfjiaaGreatDoorG21
import Derived.Deep.CutRange
set_option linter.unusedSimpArgs false
set_option linter.unusedVariables false
namespace Go.Proofs.YtcdeimjlgpfjiaaGreatDoor
section
open Go.RowKit Go.IntWalk
attribute [local go_sem] Oper.semAt_some
section
variable {l:List Tok} {pb:Nat} {la:Option Addr} {lc:Nat}
theorem aGm {l:List Tok} {k:Int} {s:List UInt8} {i:Nat} {u:Unit} {m:Nat} (h:aAB l k s i = .ok u m):m=i+1:=by
 unfold aAB at h;split at h
 · injection h with h1 h2;exact h2.symm
 · cases h
theorem CaseI.keep {W:World} {ds:Bool} {L:List Xp} {v:Value} {j j':Nat} {w w':World} (h:CaseI l pb la lc W ds L v j w) (hpl:pb<W.heap.size) (hk:KeepP pb w w') (hP:PW l pb la lc w' j') (hj:j≤j'):CaseI l pb la lc W ds L v j' w':=by
 obtain⟨_,hK,h2,h3,hrow,hL⟩:=h;have l2:=(Array.getElem?_eq_some_iff.1 h2).1;have l3:=(Array.getElem?_eq_some_iff.1 h3).1;exact⟨hP,hK.trans hk,(hk.heap _ l2 (by omega)).trans h2,(hk.heap _ l3 (by omega)).trans h3,hrow.keep hk (by omega),by omega⟩
theorem CaseI.distinct {W:World} {L:List Xp} {v:Value} {j i:Nat} {w:World} (h:CaseI l pb la lc W false L v j w) (hP0:PW l pb la lc W i):CaseI l pb la lc W true L v j (w.setCell ⟨W.heap.size+1,9,none⟩ (.bool true)):=by
 obtain⟨hP,hK,h2,h3,hrow,hL⟩:=h;have ho : ∀ t,t≠W.heap.size+1→(w.setCell ⟨W.heap.size+1,9,none⟩ (.bool true)).heap[t]? = w.heap[t]?:=fun t ht=>Below.heap_setCell _ _ _ _ ht;have hk:KeepP pb W (w.setCell ⟨W.heap.size+1,9,none⟩ (.bool true)):=hK.set (by omega) _ _;have hs:=Go.heap_setCell_same w (W.heap.size+1) 9 _ _ (.bool true) h3;have hpw:=hP0.lt;have hP':PW l pb la lc (w.setCell ⟨W.heap.size+1,9,none⟩ (.bool true)) j:=hP0.kept hk ((ho pb (by omega)).trans hP.cell) hP.le;exact⟨hP',hk,(ho _ (by omega)).trans h2,by simpa using hs,hrow.keepG (S:=fun b=>b=W.heap.size+1) (KeepG.set (S:=fun b=>b=W.heap.size+1) KeepG.refl rfl _ _) (fun b hb=>by omega),hL⟩
def aVp (l:List Tok) (pb:Nat) (la:Option Addr) (lc:Nat) (W:World) (ds:Bool) (ex:Nat→PR Xp) (R:PR Xp) (more:Bool) (w:World):Prop :=
 ∃ L v j,CaseI l pb la lc W ds L v j w∧(match more with | true=>∃ n,aCa l ex ds n L j=R | false=>aHS l ex ds L j=R)
set_option maxHeartbeats 16000000 in
set_option maxRecDepth 100000 in
theorem aKJ {ex:Nat→PR Xp} (hex:aAY l pb la lc 37 ex) (hgt : ∀ i e j,ex i = .ok e j→i<j):aAY l pb la lc 153 (aC6 l ex):=by
 intro W i hP hR;generalize hRR:aC6 l ex i=R at hR ⊢;unfold aC6 at hRR;have hpl:=hP.lt;obtain⟨W2,hW2⟩ : ∃ W2,W2=(W.alloc (.cells z11 26)).alloc (.cells (aR7 false (.slice none 0 0)) 26):=⟨_,rfl⟩
 have hK2:KeepP pb W W2:=by rw[hW2]; exact ((KeepP.refl pb W).alloc _).alloc _
 have hP2:PW l pb la lc W2 i:=by rw[hW2]; exact (hP.alloc _).alloc _
 have hI2:CaseI l pb la lc W false [] (.slice none 0 0) i W2:=⟨hP2,hK2,by rw[hW2]; exact (Below.heap_alloc _ _ _ (by simp)).trans (aAl _ _),by
  have:=aAl (W.alloc (.cells z11 26)) (.cells (aR7 false (.slice none 0 0)) 26)
  rw[World.size_alloc] at this;rw[hW2]; exact this,RowX.nil,Nat.zero_le _⟩
 have hT:=aEa hP2 0 (by omega) 2 [119,104,101,110];rw[Nat.add_zero] at hT;obtain⟨b,hb⟩ : ∃ b,b=isP l i 2 [119,104,101,110]:=⟨_,rfl⟩;rw[←hb] at hT hRR;clear hb
 go_enter Tryz.func153,Tryz.ntmps153
 go_wp2_with fail;rw[←hW2];clear hW2;refine Calls.mono hT ?_;rintro e w9 ⟨rfl,hw9⟩;replace hw9:=hw9.symm;subst hw9;clear hT
 go_upto_if 9 with fail
 go_cut [] from 10 to 17 (fun wx=>∃ ds L v k0,CaseI l pb la lc W ds L v k0 wx∧R=(aAB l 2 [119,104,101,110] k0).bind fun _ k=>aCa l ex ds (l.length+1) L k)
 case first =>
  cases b with
  | true =>
   have HRe:R=(aAB l 2 [119,104,101,110] i).bind fun _ k=>aCa l ex false (l.length+1) [] k:=hRR.symm;have HRe:=Lib.hid HRe;clear hRR;go_wp2_with fail
   go_meet
   exact⟨false,[],_,i,hI2,HRe.out⟩
  | false =>
   have HRe:R=((ex i).bind fun e j=>(.ok ([e],true) j:PR (List Xp×Bool))).bind fun p j=>(aAB l 2 [119,104,101,110] j).bind fun _ k=>aCa l ex p.2 (l.length+1) p.1 k:=hRR.symm;have HRe:=Lib.hid HRe;clear hRR;have hP3:=hP2;have hI3:=CaseI.distinct hI2 hP
   have HRf:R=(ex i).bind fun e j=>(aAB l 2 [119,104,101,110] j).bind fun _ k=>aCa l ex true (l.length+1) ([]++([]++[e])) k:=by
    rw[HRe.out];cases ex i <;> rfl
   have HRe:=Lib.hid HRf;clear HRf;have hld:=hI2.2.2.2.1;obtain⟨r0,r1,r2,r3,r4,r5,r6,r7,r8,r9,r10,rf⟩:=aAf hld;obtain⟨W3',hW3'⟩ : ∃ W3',W3'=W2.setCell ⟨W.heap.size+1,9,none⟩ (.bool true):=⟨_,rfl⟩;rw[←hW3'] at hI3;have HW:=Lib.hid hW3';clear hW3' hld
   go_upto_region 4 with fail
   rw[←HW.out];clear HW r0 r1 r2 r3 r4 r5 r6 r7 r8 r9 r10 rf hI2;have hRs:ex (i)≠.out:=fun h=>hR (by rw[HRe.out,h]; rfl)
   have hlen:([]:List Xp).length+(([]:List Xp).length+1)≤1000000:=by
    have h1:=hI3.2.2.2.2.2;have h2:=hI3.1.le;have h3:=hI3.1.big;simp only[List.length_cons,List.length_nil];omega
   have hLj:=hI3.2.2.2.2.2;have hz9:W.heap.size+2≤W3'.heap.size:=(Array.getElem?_eq_some_iff.1 hI3.2.2.2.1).1;have hH0:CasePh l pb la lc W W3' true (.slice none 0 0) ([]) [] ex (i) (undef,undef,undef) false false false false W3'.drew:=⟨hI3.2.1.trans (aAo (Below.refl _ _).drew),hI3.2.2.1,hI3.2.2.2.1,(KeepP.refl pb _).trans (aAo (Below.refl _ _).drew),hI3.2.2.2.2.1.keep (aAo (pb:=pb) (Below.refl _ _).drew) (by omega),hI3.1.below (Below.refl _ _).drew,rfl⟩;rw[←wpIn_wide (n:=0)]
   refine aAt (by kernel_rfl) (fun _=>trivial) rfl (fun f args w R h=>callsIn_wide.2 h) (by kernel_rfl)
    (fun (r:Value×Value×Value) q=>match q with | 0=>.pointer (some ⟨W.heap.size+1,10,none⟩) | 1=>(.slice none 0 0) | 2=>.pointer (some ⟨pb,0,none⟩) | 3=>r.1 | 4=>r.2.1 | 5=>r.2.2 | 6=>.pointer (some ⟨W.heap.size+1,10,none⟩) | _=>undef)
    (fun r D w'=>CasePh l pb la lc W W3' true (.slice none 0 0) ([]) [] ex (i) r (D 3) (D 4) (D 5) (D 7) w') (undef,undef,undef) hH0 ?steps ?rdone
   case steps =>
    intro DD q o r aa W3 hop hDq hcl hdep hA hH;have hq:q<8:=(Array.getElem?_eq_some_iff.1 hop).1
    have:q=0∨q=1∨q=2∨q=3∨q=4∨q=5∨q=6∨q=7:=by omega
    rcases this with rfl | rfl | rfl | rfl | rfl | rfl | rfl | rfl
    all_goals (simp only[List.getElem?_toArray,List.getElem?_cons_zero,List.getElem?_cons_succ,Option.some.injEq] at hop; subst hop)
    · have e3:=hA.keep 3 (by kernel_rfl);exact .inl (.inl ⟨r,W3,by simp,(by simp[execOp,go_sem,e3]),fun _ _=>rfl,hH⟩)
    · have e11:=hA.was 0 11 rfl (hdep ⟨0,.data⟩ (by simp) rfl) (by simp);have n1:=hDq;have n5:=aAq hcl (k:=5) rfl (e:=⟨1,.data⟩) (by simp) rfl n1;have n7:=aAq hcl (k:=7) rfl (e:=⟨5,.data⟩) (by simp) rfl n5;have h9:=hH.2.2.1;rw[n7] at h9;simp only at h9;obtain⟨p0,p1,p2,p3,p4,p5,p6,p7,p8,p9,p10,_⟩:=aAf h9;exact .inl (.inl ⟨r,W3,by simp,(by simp[execOp,go_sem,e11,p10]),fun _ _=>rfl,hH⟩)
    · have e0:=hA.keep 0 (by kernel_rfl);exact .inl (.inl ⟨r,W3,by simp,(by simp[execOp,go_sem,e0]),fun _ _=>rfl,hH⟩)
    · have e13:=hA.was 2 13 rfl (hdep ⟨2,.data⟩ (by simp) rfl) (by simp);have n3:=hDq;have n4:=aAq hcl (k:=4) rfl (e:=⟨3,.data⟩) (by simp) rfl n3;have n5:=aAq hcl (k:=5) rfl (e:=⟨4,.data⟩) (by simp) rfl n4;have n7:=aAq hcl (k:=7) rfl (e:=⟨5,.data⟩) (by simp) rfl n5;rw[hDq,n4,n5,n7] at hH;have hzH:=hH.2.2.2.1.size;refine .inr (.inr ⟨37,#[.pointer (some ⟨pb,0,none⟩)],by simp,(by simp[execOp,go_sem,e13]),Calls.mono (hH.call hex hRs hpl (by omega)) ?_⟩);rintro e w' (⟨va,rfl,hH'⟩ | ⟨q,hq,rfl,hk⟩)
      · refine .inl ⟨(va,r.2),rfl,fun t ht=>?_,?_⟩
        · match t,ht with
          | 0,_=>rfl
          | 1,_=>rfl
          | 2,_=>rfl
          | 3,h=>rw[hDq] at h; cases h
          | 4,_=>rfl
          | 5,_=>rfl
          | 6,_=>rfl
          | t+7,_=>rfl
        · show CasePh l pb la lc W W3' true (.slice none 0 0) ([]) [] ex (i) (va,r.2) true (DD 4) (DD 5) (DD 7) w';rw[n4,n5,n7]; exact hH'
      · refine .inr ⟨_,rfl,hA.defers,?_⟩;rw[HRe.out,hq];exact⟨rfl,hk⟩
    · have e14:=hA.was 3 14 rfl (hdep ⟨3,.data⟩ (by simp) rfl) (by simp);have d3:=hdep ⟨3,.data⟩ (by simp) rfl;have n4:=hDq;have n5:=aAq hcl (k:=5) rfl (e:=⟨4,.data⟩) (by simp) rfl n4;have n7:=aAq hcl (k:=7) rfl (e:=⟨5,.data⟩) (by simp) rfl n5;rw[d3,hDq,n5,n7] at hH;have hzH:=hH.2.2.2.1.size;obtain⟨k',op',v0',v1',v2',tb',nm',sl',nt',dt',sa',len',sc',hr1⟩:=hH.form;have hsl:=hH.slice hpl (by omega) (cs:=[]) trivial hr1 (B:=(xA k' op' v0' v1' v2' tb' nm' sl' nt' dt' (.slice sa' len' sc'))) (by simp) (n:=1) rfl;obtain⟨r1,r2⟩:=r;simp only at hr1;subst hr1;refine .inl (.inl ⟨(.agg (xA k' op' v0' v1' v2' tb' nm' sl' nt' dt' (.slice sa' len' sc')),.slice (some ⟨W3.heap.size,0,none⟩) 1 1,r2.2),W3.alloc (.cells ((xA k' op' v0' v1' v2' tb' nm' sl' nt' dt' (.slice sa' len' sc'))) 26),by simp,(by simp[execOp,go_sem,e14]),fun t ht=>?_,?_⟩)
      · match t,ht with
        | 0,_=>rfl
        | 1,_=>rfl
        | 2,_=>rfl
        | 3,_=>rfl
        | 4,h=>rw[hDq] at h; cases h
        | 5,_=>rfl
        | 6,_=>rfl
        | t+7,_=>rfl
      · show CasePh l pb la lc W W3' true (.slice none 0 0) ([]) [] ex (i) _ (DD 3) true (DD 5) (DD 7) _;rw[d3,n5,n7]; exact hsl
    · have e12:=hA.was 1 12 rfl (hdep ⟨1,.data⟩ (by simp) rfl) (by simp);have e15:=hA.was 4 15 rfl (hdep ⟨4,.data⟩ (by simp) rfl) (by simp)
      have a1:aa.eval (.tmp 12)=(.slice none 0 0):=by simp[go_sem,e12]
      have a2:aa.eval (.tmp 15)=r.2.1:=by simp[go_sem,e15]
      have d4:=hdep ⟨4,.data⟩ (by simp) rfl;have d3:=hcl 4 _ d4 rfl ⟨3,.data⟩ (by simp) rfl;have n5:=hDq;have n7:=aAq hcl (k:=7) rfl (e:=⟨5,.data⟩) (by simp) rfl n5;rw[d3,d4,hDq,n7] at hH;have hzH:=hH.2.2.2.1.size;obtain⟨v',w',hrun,hH'⟩:=hH.append hpl (by omega) hP hlen;refine .inl (.inl ⟨(r.1,r.2.1,v'),w',by simp,(by simp only[execOp,resolve,invoke,builtin,Sem.run_bind,Sem.run_pure,Result.andThen_ok,List.map_toArray,List.map_cons,List.map_nil,a1,a2,hrun]),fun t ht=>?_,?_⟩)
      · match t,ht with
        | 0,_=>rfl
        | 1,_=>rfl
        | 2,_=>rfl
        | 3,_=>rfl
        | 4,_=>rfl
        | 5,h=>rw[hDq] at h; cases h
        | 6,_=>rfl
        | t+7,_=>rfl
      · show CasePh l pb la lc W W3' true (.slice none 0 0) ([]) [] ex (i) _ (DD 3) (DD 4) true (DD 7) _;rw[d3,d4,n7]; exact hH'
    · have e3:=hA.keep 3 (by kernel_rfl);exact .inl (.inl ⟨r,W3,by simp,(by simp[execOp,go_sem,e3]),fun _ _=>rfl,hH⟩)
    · have e17:=hA.was 6 17 rfl (hdep ⟨6,.data⟩ (by simp) rfl) (by simp);have e16:=hA.was 5 16 rfl (hdep ⟨5,.data⟩ (by simp) rfl) (by simp);have d5:=hdep ⟨5,.data⟩ (by simp) rfl;have d4:=hcl 5 _ d5 rfl ⟨4,.data⟩ (by simp) rfl;have d3:=hcl 4 _ d4 rfl ⟨3,.data⟩ (by simp) rfl;rw[d3,d4,d5,hDq] at hH
      obtain⟨A9,n9,B9,hr2⟩ : ∃ A9 n9 B9,r.2.2 = .slice A9 n9 B9:=by
       obtain⟨_,_,_,_,_,_,_,hrow⟩:=hH;obtain⟨A9,B9,e9⟩:=hrow.form;exact⟨A9,_,B9,e9⟩
      have h9:=hH.2.2.1;simp only at h9;obtain⟨p0,p1,p2,p3,p4,p5,p6,p7,p8,p9,p10,pf⟩:=aAf h9;have hst:=hH.store hpl hP hr2.symm;refine .inr (.inl ⟨_,rfl,by simp,(by simp[execOp,go_sem,e17,e16,hr2,p10,pf]; rfl),?_⟩);show CasePh l pb la lc W W3' true (.slice none 0 0) ([]) [] ex (i) r (DD 3) (DD 4) (DD 5) true _;rw[d3,d4,d5]; exact hst
   case rdone =>
    intro DD r aa W4 hall hA hH;have ha:=hA.eq (goodR.apart (by kernel_rfl)) hall;simp only[aCS,Act.put,List.setIfInBounds_toArray,List.set_cons_zero,List.set_cons_succ] at ha;subst ha;rw[hall 3 (by decide),hall 4 (by decide),hall 5 (by decide),hall 7 (by decide)] at hH;obtain⟨hK9,h2,h3,b,k9,hq,hP9,hrow9⟩:=hH;simp only at h3
    have hI9:CaseI l pb la lc W true ([]++([]++[b])) r.2.2 k9 W4:=⟨hP9,hK9,h2,h3,hrow9,by
     have:=hgt _ _ _ hq
     simp only[List.length_append,List.length_cons,List.length_nil];omega⟩
    clear hA hall;gi_wp2
    have HRf:R=(aAB l 2 [119,104,101,110] k9).bind fun _ k=>aCa l ex true (l.length+1) ([]++([]++[b])) k:=by
     rw[HRe.out,hq]; rfl
    go_wp2_with fail
    go_meet
    exact⟨true,_,_,k9,hI9,HRf⟩
 case rest =>
  obtain⟨ds,L,v,k0,hI3,hRc⟩:=hcut;have HRe:=Lib.hid hRc;clear hRc;have hM:=aAK hI3.1 2 [119,104,101,110];go_wp2_with fail
  cases hm3:aAB l 2 [119,104,101,110] (k0) with
  | out =>
   unfold aAB at hm3;split at hm3 <;> cases hm3
  | stop q =>
   rw[hm3] at hM;refine Calls.mono hM ?_;rintro e w3 ⟨rfl,hk3⟩;refine⟨rfl,?_⟩;rw[HRe.out];simp only[PR.bind,hm3];exact⟨rfl,hI3.2.1.trans hk3⟩
  | ok u m3 =>
   rw[hm3] at hM;refine Calls.mono hM ?_;rintro e w3 ⟨⟨v,rfl,hv⟩,hk3,hP3⟩;subst hv;have hmi3:=aGm hm3;have hI3:=hI3.keep hpl hk3 hP3 (by omega);have hJ:aVp l pb la lc W ds ex R true w3:=⟨_,_,_,hI3,l.length+1,by rw[HRe.out]; simp only[PR.bind,hm3]⟩;clear HRe hI3;go_wp2_with fail
   go_loopw [4] (fun x wr=>∃ more,x = .bool more∧aVp l pb la lc W ds ex R more wr) (fun _ wr=>l.length - atOf pb wr)
   case atStart=>exact⟨true,rfl,hJ⟩
   case round =>
    clear hJ;obtain⟨more,rfl,L,v,j,hI,hch⟩:=hrel
    cases more with
    | false =>
     have HRe:=Lib.hid hch.symm;clear hch;have hT:=aA4 hI.1 [101,108,115,101];obtain⟨b20,hb20⟩ : ∃ b,b=isP l (j) 2 [101,108,115,101]:=⟨_,rfl⟩;rw[←hb20] at hT
     have HRf:R=(if b20=true then (ex (j+1)).bind fun e q=>.ok (L++[e]) q else .ok (L) (j)).bind fun L' q=>(aAB l 2 [101,110,100] q).bind fun _ r=>.ok (.mk 9 [] nul [] [] 0 false ds L') r:=by
      rw[HRe.out,hb20]; rfl
     have HR20:=Lib.hid HRf;clear HRf hb20 HRe;go_wp2_with fail;refine Calls.mono hT ?_;rintro e w20 ⟨rfl,hk20,hP20⟩
     cases b20 with
     | true =>
      have hP20:PW l pb la lc w20 (j+1):=hP20;have hI20:=hI.keep hpl hk20 hP20 (by omega)
      have HRf:R=(ex (j+1)).bind fun e q=>(aAB l 2 [101,110,100] q).bind fun _ r=>.ok (.mk 9 [] nul [] [] 0 false ds (L++([]++[e]))) r:=by
       rw[HR20.out,if_pos rfl];cases ex (j+1) <;> rfl
      have HRe:=Lib.hid HRf;clear HRf HR20;go_wp2_with fail;have hRs:ex (j+1)≠.out:=fun h=>hR (by rw[HRe.out,h]; rfl)
      have hlen:(L:List Xp).length+(([]:List Xp).length+1)≤1000000:=by
       have h1:=hI20.2.2.2.2.2;have h2:=hI20.1.le;have h3:=hI20.1.big;simp only[List.length_cons,List.length_nil];omega
      have hLj:=hI20.2.2.2.2.2;have hz9:W.heap.size+2≤w20.heap.size:=(Array.getElem?_eq_some_iff.1 hI20.2.2.2.1).1;have hH0:CasePh l pb la lc W w20 ds v (L) [] ex (j+1) (undef,undef,undef) false false false false w20.drew:=⟨hI20.2.1.trans (aAo (Below.refl _ _).drew),hI20.2.2.1,hI20.2.2.2.1,(KeepP.refl pb _).trans (aAo (Below.refl _ _).drew),hI20.2.2.2.2.1.keep (aAo (pb:=pb) (Below.refl _ _).drew) (by omega),hI20.1.below (Below.refl _ _).drew,rfl⟩;rw[←wpIn_wide (n:=0)]
      refine aAt (by kernel_rfl) (fun _=>trivial) rfl (fun f args w R h=>callsIn_wide.2 h) (by kernel_rfl)
       (fun (r:Value×Value×Value) q=>match q with | 0=>.pointer (some ⟨W.heap.size+1,10,none⟩) | 1=>v | 2=>.pointer (some ⟨pb,0,none⟩) | 3=>r.1 | 4=>r.2.1 | 5=>r.2.2 | 6=>.pointer (some ⟨W.heap.size+1,10,none⟩) | _=>undef)
       (fun r D w'=>CasePh l pb la lc W w20 ds v (L) [] ex (j+1) r (D 3) (D 4) (D 5) (D 7) w') (undef,undef,undef) hH0 ?steps ?rdone
      case steps =>
       intro DD q o r aa W3 hop hDq hcl hdep hA hH;have hq:q<8:=(Array.getElem?_eq_some_iff.1 hop).1
       have:q=0∨q=1∨q=2∨q=3∨q=4∨q=5∨q=6∨q=7:=by omega
       rcases this with rfl | rfl | rfl | rfl | rfl | rfl | rfl | rfl
       all_goals (simp only[List.getElem?_toArray,List.getElem?_cons_zero,List.getElem?_cons_succ,Option.some.injEq] at hop; subst hop)
       · have e3:=hA.keep 3 (by kernel_rfl);exact .inl (.inl ⟨r,W3,by simp,(by simp[execOp,go_sem,e3]),fun _ _=>rfl,hH⟩)
       · have e37:=hA.was 0 37 rfl (hdep ⟨0,.data⟩ (by simp) rfl) (by simp);have n1:=hDq;have n5:=aAq hcl (k:=5) rfl (e:=⟨1,.data⟩) (by simp) rfl n1;have n7:=aAq hcl (k:=7) rfl (e:=⟨5,.data⟩) (by simp) rfl n5;have h9:=hH.2.2.1;rw[n7] at h9;simp only at h9;obtain⟨p0,p1,p2,p3,p4,p5,p6,p7,p8,p9,p10,_⟩:=aAf h9;exact .inl (.inl ⟨r,W3,by simp,(by simp[execOp,go_sem,e37,p10]),fun _ _=>rfl,hH⟩)
       · have e0:=hA.keep 0 (by kernel_rfl);exact .inl (.inl ⟨r,W3,by simp,(by simp[execOp,go_sem,e0]),fun _ _=>rfl,hH⟩)
       · have e39:=hA.was 2 39 rfl (hdep ⟨2,.data⟩ (by simp) rfl) (by simp);have n3:=hDq;have n4:=aAq hcl (k:=4) rfl (e:=⟨3,.data⟩) (by simp) rfl n3;have n5:=aAq hcl (k:=5) rfl (e:=⟨4,.data⟩) (by simp) rfl n4;have n7:=aAq hcl (k:=7) rfl (e:=⟨5,.data⟩) (by simp) rfl n5;rw[hDq,n4,n5,n7] at hH;have hzH:=hH.2.2.2.1.size;refine .inr (.inr ⟨37,#[.pointer (some ⟨pb,0,none⟩)],by simp,(by simp[execOp,go_sem,e39]),Calls.mono (hH.call hex hRs hpl (by omega)) ?_⟩);rintro e w' (⟨va,rfl,hH'⟩ | ⟨q,hq,rfl,hk⟩)
         · refine .inl ⟨(va,r.2),rfl,fun t ht=>?_,?_⟩
           · match t,ht with
             | 0,_=>rfl
             | 1,_=>rfl
             | 2,_=>rfl
             | 3,h=>rw[hDq] at h; cases h
             | 4,_=>rfl
             | 5,_=>rfl
             | 6,_=>rfl
             | t+7,_=>rfl
           · show CasePh l pb la lc W w20 ds v (L) [] ex (j+1) (va,r.2) true (DD 4) (DD 5) (DD 7) w';rw[n4,n5,n7]; exact hH'
         · refine .inr ⟨_,rfl,hA.defers,?_⟩;rw[HRe.out,hq];exact⟨rfl,hk⟩
       · have e40:=hA.was 3 40 rfl (hdep ⟨3,.data⟩ (by simp) rfl) (by simp);have d3:=hdep ⟨3,.data⟩ (by simp) rfl;have n4:=hDq;have n5:=aAq hcl (k:=5) rfl (e:=⟨4,.data⟩) (by simp) rfl n4;have n7:=aAq hcl (k:=7) rfl (e:=⟨5,.data⟩) (by simp) rfl n5;rw[d3,hDq,n5,n7] at hH;have hzH:=hH.2.2.2.1.size;obtain⟨k',op',v0',v1',v2',tb',nm',sl',nt',dt',sa',len',sc',hr1⟩:=hH.form;have hsl:=hH.slice hpl (by omega) (cs:=[]) trivial hr1 (B:=(xA k' op' v0' v1' v2' tb' nm' sl' nt' dt' (.slice sa' len' sc'))) (by simp) (n:=1) rfl;obtain⟨r1,r2⟩:=r;simp only at hr1;subst hr1;refine .inl (.inl ⟨(.agg (xA k' op' v0' v1' v2' tb' nm' sl' nt' dt' (.slice sa' len' sc')),.slice (some ⟨W3.heap.size,0,none⟩) 1 1,r2.2),W3.alloc (.cells ((xA k' op' v0' v1' v2' tb' nm' sl' nt' dt' (.slice sa' len' sc'))) 26),by simp,(by simp[execOp,go_sem,e40]),fun t ht=>?_,?_⟩)
         · match t,ht with
           | 0,_=>rfl
           | 1,_=>rfl
           | 2,_=>rfl
           | 3,_=>rfl
           | 4,h=>rw[hDq] at h; cases h
           | 5,_=>rfl
           | 6,_=>rfl
           | t+7,_=>rfl
         · show CasePh l pb la lc W w20 ds v (L) [] ex (j+1) _ (DD 3) true (DD 5) (DD 7) _;rw[d3,n5,n7]; exact hsl
       · have e38:=hA.was 1 38 rfl (hdep ⟨1,.data⟩ (by simp) rfl) (by simp);have e41:=hA.was 4 41 rfl (hdep ⟨4,.data⟩ (by simp) rfl) (by simp)
         have a1:aa.eval (.tmp 38)=v:=by simp[go_sem,e38]
         have a2:aa.eval (.tmp 41)=r.2.1:=by simp[go_sem,e41]
         have d4:=hdep ⟨4,.data⟩ (by simp) rfl;have d3:=hcl 4 _ d4 rfl ⟨3,.data⟩ (by simp) rfl;have n5:=hDq;have n7:=aAq hcl (k:=7) rfl (e:=⟨5,.data⟩) (by simp) rfl n5;rw[d3,d4,hDq,n7] at hH;have hzH:=hH.2.2.2.1.size;obtain⟨v',w',hrun,hH'⟩:=hH.append hpl (by omega) hP hlen;refine .inl (.inl ⟨(r.1,r.2.1,v'),w',by simp,(by simp only[execOp,resolve,invoke,builtin,Sem.run_bind,Sem.run_pure,Result.andThen_ok,List.map_toArray,List.map_cons,List.map_nil,a1,a2,hrun]),fun t ht=>?_,?_⟩)
         · match t,ht with
           | 0,_=>rfl
           | 1,_=>rfl
           | 2,_=>rfl
           | 3,_=>rfl
           | 4,_=>rfl
           | 5,h=>rw[hDq] at h; cases h
           | 6,_=>rfl
           | t+7,_=>rfl
         · show CasePh l pb la lc W w20 ds v (L) [] ex (j+1) _ (DD 3) (DD 4) true (DD 7) _;rw[d3,d4,n7]; exact hH'
       · have e3:=hA.keep 3 (by kernel_rfl);exact .inl (.inl ⟨r,W3,by simp,(by simp[execOp,go_sem,e3]),fun _ _=>rfl,hH⟩)
       · have e43:=hA.was 6 43 rfl (hdep ⟨6,.data⟩ (by simp) rfl) (by simp);have e42:=hA.was 5 42 rfl (hdep ⟨5,.data⟩ (by simp) rfl) (by simp);have d5:=hdep ⟨5,.data⟩ (by simp) rfl;have d4:=hcl 5 _ d5 rfl ⟨4,.data⟩ (by simp) rfl;have d3:=hcl 4 _ d4 rfl ⟨3,.data⟩ (by simp) rfl;rw[d3,d4,d5,hDq] at hH
         obtain⟨A9,n9,B9,hr2⟩ : ∃ A9 n9 B9,r.2.2 = .slice A9 n9 B9:=by
          obtain⟨_,_,_,_,_,_,_,hrow⟩:=hH;obtain⟨A9,B9,e9⟩:=hrow.form;exact⟨A9,_,B9,e9⟩
         have h9:=hH.2.2.1;simp only at h9;obtain⟨p0,p1,p2,p3,p4,p5,p6,p7,p8,p9,p10,pf⟩:=aAf h9;have hst:=hH.store hpl hP hr2.symm;refine .inr (.inl ⟨_,rfl,by simp,(by simp[execOp,go_sem,e43,e42,hr2,p10,pf]; rfl),?_⟩);show CasePh l pb la lc W w20 ds v (L) [] ex (j+1) r (DD 3) (DD 4) (DD 5) true _;rw[d3,d4,d5]; exact hst
      case rdone =>
       intro DD r aa W4 hall hA hH;have ha:=hA.eq (goodR.apart (by kernel_rfl)) hall;simp only[aCS,Act.put,List.setIfInBounds_toArray,List.set_cons_zero,List.set_cons_succ] at ha;subst ha;rw[hall 3 (by decide),hall 4 (by decide),hall 5 (by decide),hall 7 (by decide)] at hH;obtain⟨hK9,h2,h3,b,k9,hq,hP9,hrow9⟩:=hH;simp only at h3
       have hI9:CaseI l pb la lc W ds (L++([]++[b])) r.2.2 k9 W4:=⟨hP9,hK9,h2,h3,hrow9,by
        have:=hgt _ _ _ hq
        simp only[List.length_append,List.length_cons,List.length_nil];omega⟩
       clear hA hall;gi_wp2
       have HRf:R=(aAB l 2 [101,110,100] k9).bind fun _ r=>.ok (.mk 9 [] nul [] [] 0 false ds (L++([]++[b]))) r:=by
        rw[HRe.out,hq]; rfl
       have HRe:=Lib.hid HRf;clear HRf;obtain⟨L9,hL9⟩ : ∃ L9,L9=L++([]++[b]):=⟨_,rfl⟩;rw[←hL9] at hI9 HRe;clear hL9;have hM:=aAK hI9.1 2 [101,110,100];go_wp2_with fail
       cases hm21:aAB l 2 [101,110,100] (k9) with
       | out =>
        unfold aAB at hm21;split at hm21 <;> cases hm21
       | stop q =>
        rw[hm21] at hM;refine Calls.mono hM ?_;rintro e w21 ⟨rfl,hk21⟩;refine⟨rfl,?_⟩;rw[HRe.out];simp only[PR.bind,hm21];exact⟨rfl,hI9.2.1.trans hk21⟩
       | ok u m21 =>
        rw[hm21] at hM;refine Calls.mono hM ?_;rintro e w21 ⟨⟨v,rfl,hv⟩,hk21,hP21⟩;subst hv;have hmi21:=aGm hm21;have hI21:=hI9.keep hpl hk21 hP21 (by omega);obtain⟨hP8,hK8,h28,h38,hrow8,_⟩:=hI21;obtain⟨ra8,rc8,hv8⟩:=hrow8.form;have hg:GX (fun b=>b≤W.heap.size) (.mk 9 [] (0,0,[]) [] [] 0 false ds (L9)) (.agg (xA 9 [] 0 0 [] [] [] 0 false ds (r.2.2))) w21:=GX.mk' (hrow8.read.mono (fun b hb=>(by show b<W.heap.size+2; omega)));rw[hv8] at h38 hg;obtain⟨r0,r1,r2,r3,r4,r5,r6,r7,r8,r9,r10,_⟩:=aAf h38;obtain⟨p0,p1,p2,p3,p4,p5,p6,p7,p8,p9,p10,pf⟩:=aAf h28;go_wp2_with fail
        exact aAF h28 (fun _ y0 y1 y2 y3 y4 y5 y6 y7 y8 y9 y10=>by simp[results,Tryz.results153,go_sem,y0,y1,y2,y3,y4,y5,y6,y7,y8,y9,y10]) rfl hP (hK8) hP8 (hg) (by
         rw[HRe.out];simp only[PR.bind,hm21]
         try rfl)
     | false =>
      have hP20:PW l pb la lc w20 (j):=hP20;have hI20:=hI.keep hpl hk20 hP20 (by omega);have HRf:R=(aAB l 2 [101,110,100] (j)).bind fun _ r=>.ok (.mk 9 [] nul [] [] 0 false ds (L)) r:=HR20.out;have HRe:=Lib.hid HRf;clear HRf HR20;obtain⟨L9,hL9⟩ : ∃ L9,L9=L:=⟨_,rfl⟩;rw[←hL9] at hI20 HRe;clear hL9;have hM:=aAK hI20.1 2 [101,110,100];go_wp2_with fail
      cases hm21:aAB l 2 [101,110,100] (j) with
      | out =>
       unfold aAB at hm21;split at hm21 <;> cases hm21
      | stop q =>
       rw[hm21] at hM;refine Calls.mono hM ?_;rintro e w21 ⟨rfl,hk21⟩;refine⟨rfl,?_⟩;rw[HRe.out];simp only[PR.bind,hm21];exact⟨rfl,hI20.2.1.trans hk21⟩
      | ok u m21 =>
       rw[hm21] at hM;refine Calls.mono hM ?_;rintro e w21 ⟨⟨v,rfl,hv⟩,hk21,hP21⟩;subst hv;have hmi21:=aGm hm21;have hI21:=hI20.keep hpl hk21 hP21 (by omega);obtain⟨hP8,hK8,h28,h38,hrow8,_⟩:=hI21;obtain⟨ra8,rc8,hv8⟩:=hrow8.form;have hg:GX (fun b=>b≤W.heap.size) (.mk 9 [] (0,0,[]) [] [] 0 false ds (L9)) (.agg (xA 9 [] 0 0 [] [] [] 0 false ds (v))) w21:=GX.mk' (hrow8.read.mono (fun b hb=>(by show b<W.heap.size+2; omega)));rw[hv8] at h38 hg;obtain⟨r0,r1,r2,r3,r4,r5,r6,r7,r8,r9,r10,_⟩:=aAf h38;obtain⟨p0,p1,p2,p3,p4,p5,p6,p7,p8,p9,p10,pf⟩:=aAf h28;go_wp2_with fail
       exact aAF h28 (fun _ y0 y1 y2 y3 y4 y5 y6 y7 y8 y9 y10=>by simp[results,Tryz.results153,go_sem,y0,y1,y2,y3,y4,y5,y6,y7,y8,y9,y10]) rfl hP (hK8) hP8 (hg) (by
        rw[HRe.out];simp only[PR.bind,hm21]
        try rfl)
    | true =>
     obtain⟨n,hch⟩:=hch;have HRe:=Lib.hid hch.symm;clear hch
     cases n with
     | zero=>exact absurd HRe.out hR
     | succ n =>
      have HRf:R=(ex j).bind fun w j=>(aAB l 2 [116,104,101,110] j).bind fun _ k=>(ex k).bind fun t m=>if isP l m 2 [119,104,101,110]=true then aCa l ex ds n (L++([w]++[t])) (m+1) else aHS l ex ds (L++([w]++[t])) m:=HRe.out.trans aC8
      have HRe:=Lib.hid HRf;clear HRf;obtain⟨hPj,hKj,h2j,h3j,hrowj,hLj⟩:=hI;have hC:=hex wr j hPj;have hzj:=hKj.size;have hz3:=(Array.getElem?_eq_some_iff.1 h3j).1;go_wp2_with fail
      cases hr:ex j with
      | out=>exact absurd (by rw[HRe.out,hr]; rfl) hR
      | stop q =>
       rw[hr] at hC;refine Calls.mono (hC (fun h=>by cases h)) ?_;rintro e w4 ⟨rfl,hk⟩;refine⟨rfl,?_⟩;rw[HRe.out,hr];exact⟨rfl,hKj.trans hk⟩
      | ok e j4 =>
       rw[hr] at hC;refine Calls.mono (hC (fun h=>by cases h)) ?_;rintro e' w4 ⟨⟨v',rfl,hx⟩,hk4,hP4⟩;obtain⟨k,op,⟨v0,v1,v2⟩,tb,nm,sl,nt,ds',args⟩:=e;obtain⟨sa,sc,rfl,hs⟩:=hx.form;have hij:=hgt _ _ _ hr;clear hs;have hI4:CaseI l pb la lc W ds L v j4 w4:=CaseI.keep ⟨hPj,hKj,h2j,h3j,hrowj,hLj⟩ hpl hk4 hP4 (by omega);obtain⟨W5,hW5⟩ : ∃ W5,W5=w4.alloc (.cells (xA k op v0 v1 v2 tb nm sl nt ds' (.slice sa args.length sc)) 26):=⟨_,rfl⟩
       have hk5:KeepP pb w4 W5:=by rw[hW5]; exact (KeepP.refl pb w4).alloc _
       have hP5:PW l pb la lc W5 j4:=by rw[hW5]; exact hP4.alloc _
       have hn5:W5.heap[w4.heap.size]? = some (.cells (xA k op v0 v1 v2 tb nm sl nt ds' (.slice sa args.length sc)) 26 (0,0)):=by rw[hW5]; exact aAl _ _
       have hI5:=hI4.keep hpl hk5 hP5 (by omega);have hz4:=hk4.size
       have hz5:W5.heap.size=w4.heap.size+1:=by rw[hW5]; simp
       have hM:=aAK hI5.1 2 [116,104,101,110];go_wp2_with fail;rw[←hW5];clear hW5
       cases hm6:aAB l 2 [116,104,101,110] (j4) with
       | out =>
        unfold aAB at hm6;split at hm6 <;> cases hm6
       | stop q =>
        rw[hm6] at hM;refine Calls.mono hM ?_;rintro e w6 ⟨rfl,hk6⟩;refine⟨rfl,?_⟩;rw[HRe.out];simp only[PR.bind,hr,hm6];exact⟨rfl,hI5.2.1.trans hk6⟩
       | ok u m6 =>
        rw[hm6] at hM;refine Calls.mono hM ?_;rintro e w6 ⟨⟨v,rfl,hv⟩,hk6,hP6⟩;subst hv;have hmi6:=aGm hm6;have hI6:=hI5.keep hpl hk6 hP6 (by omega);have hn6:=aAd hk6 hn5 (by omega);have hz6:=hk6.size
        have hes:CVRs w6 (fun b=>b<W.heap.size+2∨v.ownBlock=some b) (List.flatMap Xp.cells [(.mk k op (v0,v1,v2) tb nm sl nt ds' args)]) ((xA k op v0 v1 v2 tb nm sl nt ds' (.slice sa args.length sc))).toList:=by
         rw[List.flatMap_cons,List.flatMap_nil,List.append_nil];refine aAy (X:=fun b=>b<wr.heap.size) ⟨fun b hn hlt=>(hk5.trans hk6).heap b hlt (by show b≠pb; have : ¬ b<wr.heap.size:=hn; omega),fun b hb=>.inl ?_,by omega⟩ hx.cells;rcases hb with hb | hb
         · show b<wr.heap.size;omega
         · obtain⟨xs,ho,_⟩:=hrowj.own;exact (ho.lt b hb).2
        have HRf:R=(ex m6).bind fun t m=>if isP l m 2 [119,104,101,110]=true then aCa l ex ds n (L++([(.mk k op (v0,v1,v2) tb nm sl nt ds' args)]++[t])) (m+1) else aHS l ex ds (L++([(.mk k op (v0,v1,v2) tb nm sl nt ds' args)]++[t])) m:=by
         rw[HRe.out];simp only[PR.bind,hr,hm6]
        have HRe:=Lib.hid HRf;clear HRf hx;go_wp2_with fail;have hRs:ex (m6)≠.out:=fun h=>hR (by rw[HRe.out,h]; rfl)
        have hlen:(L:List Xp).length+(([(.mk k op (v0,v1,v2) tb nm sl nt ds' args)]:List Xp).length+1)≤1000000:=by
         have h1:=hI6.2.2.2.2.2;have h2:=hI6.1.le;have h3:=hI6.1.big;simp only[List.length_cons,List.length_nil];omega
        have hLj:=hI6.2.2.2.2.2;have hz9:W.heap.size+2≤w6.heap.size:=(Array.getElem?_eq_some_iff.1 hI6.2.2.2.1).1;have hH0:CasePh l pb la lc W w6 ds v (L) [(.mk k op (v0,v1,v2) tb nm sl nt ds' args)] ex (m6) (undef,undef,undef) false false false false w6.drew:=⟨hI6.2.1.trans (aAo (Below.refl _ _).drew),hI6.2.2.1,hI6.2.2.2.1,(KeepP.refl pb _).trans (aAo (Below.refl _ _).drew),hI6.2.2.2.2.1.keep (aAo (pb:=pb) (Below.refl _ _).drew) (by omega),hI6.1.below (Below.refl _ _).drew,rfl⟩;rw[←wpIn_wide (n:=0)]
        refine aAt (by kernel_rfl) (fun _=>trivial) rfl (fun f args w R h=>callsIn_wide.2 h) (by kernel_rfl)
         (fun (r:Value×Value×Value) q=>match q with | 0=>.pointer (some ⟨W.heap.size+1,10,none⟩) | 1=>v | 2=>.agg (xA k op v0 v1 v2 tb nm sl nt ds' (.slice sa args.length sc)) | 3=>.pointer (some ⟨pb,0,none⟩) | 4=>r.1 | 5=>r.2.1 | 6=>r.2.2 | 7=>.pointer (some ⟨W.heap.size+1,10,none⟩) | _=>undef)
         (fun r D w'=>CasePh l pb la lc W w6 ds v (L) [(.mk k op (v0,v1,v2) tb nm sl nt ds' args)] ex (m6) r (D 4) (D 5) (D 6) (D 8) w') (undef,undef,undef) hH0 ?steps ?rdone
        case steps =>
         intro DD q o r aa W3 hop hDq hcl hdep hA hH;have hq:q<9:=(Array.getElem?_eq_some_iff.1 hop).1
         have:q=0∨q=1∨q=2∨q=3∨q=4∨q=5∨q=6∨q=7∨q=8:=by omega
         rcases this with rfl | rfl | rfl | rfl | rfl | rfl | rfl | rfl | rfl
         all_goals (simp only[List.getElem?_toArray,List.getElem?_cons_zero,List.getElem?_cons_succ,Option.some.injEq] at hop; subst hop)
         · have e3:=hA.keep 3 (by kernel_rfl);exact .inl (.inl ⟨r,W3,by simp,(by simp[execOp,go_sem,e3]),fun _ _=>rfl,hH⟩)
         · have e27:=hA.was 0 27 rfl (hdep ⟨0,.data⟩ (by simp) rfl) (by simp);have n1:=hDq;have n6:=aAq hcl (k:=6) rfl (e:=⟨1,.data⟩) (by simp) rfl n1;have n8:=aAq hcl (k:=8) rfl (e:=⟨6,.data⟩) (by simp) rfl n6;have h9:=hH.2.2.1;rw[n8] at h9;simp only at h9;obtain⟨p0,p1,p2,p3,p4,p5,p6,p7,p8,p9,p10,_⟩:=aAf h9;exact .inl (.inl ⟨r,W3,by simp,(by simp[execOp,go_sem,e27,p10]),fun _ _=>rfl,hH⟩)
         · have e5:=hA.keep 5 (by kernel_rfl);have n2:=hDq;have n5:=aAq hcl (k:=5) rfl (e:=⟨2,.data⟩) (by simp) rfl n2;have n6:=aAq hcl (k:=6) rfl (e:=⟨5,.data⟩) (by simp) rfl n5;have n8:=aAq hcl (k:=8) rfl (e:=⟨6,.data⟩) (by simp) rfl n6;have hH2:=hH;rw[n6] at hH2;obtain⟨_,_,_,hK0,_⟩:=hH2;have hld:=(hK0.heap _ (by omega) (by omega)).trans hn6;obtain⟨p0,p1,p2,p3,p4,p5,p6,p7,p8,p9,p10,_⟩:=aAf hld;exact .inl (.inl ⟨r,W3,by simp,(by simp[execOp,go_sem,e5,p0,p1,p2,p3,p4,p5,p6,p7,p8,p9,p10]),fun _ _=>rfl,hH⟩)
         · have e0:=hA.keep 0 (by kernel_rfl);exact .inl (.inl ⟨r,W3,by simp,(by simp[execOp,go_sem,e0]),fun _ _=>rfl,hH⟩)
         · have e30:=hA.was 3 30 rfl (hdep ⟨3,.data⟩ (by simp) rfl) (by simp);have n4:=hDq;have n5:=aAq hcl (k:=5) rfl (e:=⟨4,.data⟩) (by simp) rfl n4;have n6:=aAq hcl (k:=6) rfl (e:=⟨5,.data⟩) (by simp) rfl n5;have n8:=aAq hcl (k:=8) rfl (e:=⟨6,.data⟩) (by simp) rfl n6;rw[hDq,n5,n6,n8] at hH;have hzH:=hH.2.2.2.1.size;refine .inr (.inr ⟨37,#[.pointer (some ⟨pb,0,none⟩)],by simp,(by simp[execOp,go_sem,e30]),Calls.mono (hH.call hex hRs hpl (by omega)) ?_⟩);rintro e w' (⟨va,rfl,hH'⟩ | ⟨q,hq,rfl,hk⟩)
           · refine .inl ⟨(va,r.2),rfl,fun t ht=>?_,?_⟩
             · match t,ht with
               | 0,_=>rfl
               | 1,_=>rfl
               | 2,_=>rfl
               | 3,_=>rfl
               | 4,h=>rw[hDq] at h; cases h
               | 5,_=>rfl
               | 6,_=>rfl
               | 7,_=>rfl
               | t+8,_=>rfl
             · show CasePh l pb la lc W w6 ds v (L) [(.mk k op (v0,v1,v2) tb nm sl nt ds' args)] ex (m6) (va,r.2) true (DD 5) (DD 6) (DD 8) w';rw[n5,n6,n8]; exact hH'
           · refine .inr ⟨_,rfl,hA.defers,?_⟩;rw[HRe.out,hq];exact⟨rfl,hk⟩
         · have e29:=hA.was 2 29 rfl (hdep ⟨2,.data⟩ (by simp) rfl) (by simp);have e31:=hA.was 4 31 rfl (hdep ⟨4,.data⟩ (by simp) rfl) (by simp);have d4:=hdep ⟨4,.data⟩ (by simp) rfl;have n5:=hDq;have n6:=aAq hcl (k:=6) rfl (e:=⟨5,.data⟩) (by simp) rfl n5;have n8:=aAq hcl (k:=8) rfl (e:=⟨6,.data⟩) (by simp) rfl n6;rw[d4,hDq,n6,n8] at hH;have hzH:=hH.2.2.2.1.size;obtain⟨k',op',v0',v1',v2',tb',nm',sl',nt',dt',sa',len',sc',hr1⟩:=hH.form;have hsl:=hH.slice hpl (by omega) hes hr1 (B:=(xA k op v0 v1 v2 tb nm sl nt ds' (.slice sa args.length sc))++(xA k' op' v0' v1' v2' tb' nm' sl' nt' dt' (.slice sa' len' sc'))) (by simp) (n:=2) rfl;obtain⟨r1,r2⟩:=r;simp only at hr1;subst hr1;refine .inl (.inl ⟨(.agg (xA k' op' v0' v1' v2' tb' nm' sl' nt' dt' (.slice sa' len' sc')),.slice (some ⟨W3.heap.size,0,none⟩) 2 2,r2.2),W3.alloc (.cells ((xA k op v0 v1 v2 tb nm sl nt ds' (.slice sa args.length sc))++(xA k' op' v0' v1' v2' tb' nm' sl' nt' dt' (.slice sa' len' sc'))) 26),by simp,(by simp[execOp,go_sem,e29,e31]),fun t ht=>?_,?_⟩)
           · match t,ht with
             | 0,_=>rfl
             | 1,_=>rfl
             | 2,_=>rfl
             | 3,_=>rfl
             | 4,_=>rfl
             | 5,h=>rw[hDq] at h; cases h
             | 6,_=>rfl
             | 7,_=>rfl
             | t+8,_=>rfl
           · show CasePh l pb la lc W w6 ds v (L) [(.mk k op (v0,v1,v2) tb nm sl nt ds' args)] ex (m6) _ (DD 4) true (DD 6) (DD 8) _;rw[d4,n6,n8]; exact hsl
         · have e28:=hA.was 1 28 rfl (hdep ⟨1,.data⟩ (by simp) rfl) (by simp);have e32:=hA.was 5 32 rfl (hdep ⟨5,.data⟩ (by simp) rfl) (by simp)
           have a1:aa.eval (.tmp 28)=v:=by simp[go_sem,e28]
           have a2:aa.eval (.tmp 32)=r.2.1:=by simp[go_sem,e32]
           have d5:=hdep ⟨5,.data⟩ (by simp) rfl;have d4:=hcl 5 _ d5 rfl ⟨4,.data⟩ (by simp) rfl;have n6:=hDq;have n8:=aAq hcl (k:=8) rfl (e:=⟨6,.data⟩) (by simp) rfl n6;rw[d4,d5,hDq,n8] at hH;have hzH:=hH.2.2.2.1.size;obtain⟨v',w',hrun,hH'⟩:=hH.append hpl (by omega) hP hlen;refine .inl (.inl ⟨(r.1,r.2.1,v'),w',by simp,(by simp only[execOp,resolve,invoke,builtin,Sem.run_bind,Sem.run_pure,Result.andThen_ok,List.map_toArray,List.map_cons,List.map_nil,a1,a2,hrun]),fun t ht=>?_,?_⟩)
           · match t,ht with
             | 0,_=>rfl
             | 1,_=>rfl
             | 2,_=>rfl
             | 3,_=>rfl
             | 4,_=>rfl
             | 5,_=>rfl
             | 6,h=>rw[hDq] at h; cases h
             | 7,_=>rfl
             | t+8,_=>rfl
           · show CasePh l pb la lc W w6 ds v (L) [(.mk k op (v0,v1,v2) tb nm sl nt ds' args)] ex (m6) _ (DD 4) (DD 5) true (DD 8) _;rw[d4,d5,n8]; exact hH'
         · have e3:=hA.keep 3 (by kernel_rfl);exact .inl (.inl ⟨r,W3,by simp,(by simp[execOp,go_sem,e3]),fun _ _=>rfl,hH⟩)
         · have e34:=hA.was 7 34 rfl (hdep ⟨7,.data⟩ (by simp) rfl) (by simp);have e33:=hA.was 6 33 rfl (hdep ⟨6,.data⟩ (by simp) rfl) (by simp);have d6:=hdep ⟨6,.data⟩ (by simp) rfl;have d5:=hcl 6 _ d6 rfl ⟨5,.data⟩ (by simp) rfl;have d4:=hcl 5 _ d5 rfl ⟨4,.data⟩ (by simp) rfl;rw[d4,d5,d6,hDq] at hH
           obtain⟨A9,n9,B9,hr2⟩ : ∃ A9 n9 B9,r.2.2 = .slice A9 n9 B9:=by
            obtain⟨_,_,_,_,_,_,_,hrow⟩:=hH;obtain⟨A9,B9,e9⟩:=hrow.form;exact⟨A9,_,B9,e9⟩
           have h9:=hH.2.2.1;simp only at h9;obtain⟨p0,p1,p2,p3,p4,p5,p6,p7,p8,p9,p10,pf⟩:=aAf h9;have hst:=hH.store hpl hP hr2.symm;refine .inr (.inl ⟨_,rfl,by simp,(by simp[execOp,go_sem,e34,e33,hr2,p10,pf]; rfl),?_⟩);show CasePh l pb la lc W w6 ds v (L) [(.mk k op (v0,v1,v2) tb nm sl nt ds' args)] ex (m6) r (DD 4) (DD 5) (DD 6) true _;rw[d4,d5,d6]; exact hst
        case rdone =>
         intro DD r aa W4 hall hA hH;have ha:=hA.eq (goodR.apart (by kernel_rfl)) hall;simp only[aCS,Act.put,List.setIfInBounds_toArray,List.set_cons_zero,List.set_cons_succ] at ha;subst ha;rw[hall 4 (by decide),hall 5 (by decide),hall 6 (by decide),hall 8 (by decide)] at hH;obtain⟨hK9,h2,h3,b,k9,hq,hP9,hrow9⟩:=hH;simp only at h3
         have hI9:CaseI l pb la lc W ds (L++([(.mk k op (v0,v1,v2) tb nm sl nt ds' args)]++[b])) r.2.2 k9 W4:=⟨hP9,hK9,h2,h3,hrow9,by
          have:=hgt _ _ _ hq
          simp only[List.length_append,List.length_cons,List.length_nil];omega⟩
         clear hA hall;gi_wp2;have hMM:=aA4 hI9.1 [119,104,101,110];obtain⟨b7,hb7⟩ : ∃ b,b=isP l k9 2 [119,104,101,110]:=⟨_,rfl⟩;rw[←hb7] at hMM;have HRf:=HRe.out;rw[hq] at HRf
         have hRg:(if b7=true then aCa l ex ds n (L++([(.mk k op (v0,v1,v2) tb nm sl nt ds' args)]++[b])) (k9+1) else aHS l ex ds (L++([(.mk k op (v0,v1,v2) tb nm sl nt ds' args)]++[b])) k9)=R:=by rw[HRf,hb7]; rfl
         clear HRf hb7;go_wp2_with fail;refine Calls.mono hMM ?_;rintro e w8 ⟨rfl,hk8,hP8⟩;have hgq:=hgt _ _ _ hq
         cases b7 with
         | true =>
          have hP8:PW l pb la lc w8 (k9+1):=hP8;have hI8:=hI9.keep hpl hk8 hP8 (by omega);go_wp2_with fail;refine⟨⟨_,rfl,_,_,_,hI8,n,hRg⟩,?_⟩;rw[hP8.atOf,hPj.atOf]
          have:=hP8.le
          omega
         | false =>
          have hP8:PW l pb la lc w8 k9:=hP8;have hI8:=hI9.keep hpl hk8 hP8 (by omega);go_wp2_with fail;refine⟨⟨_,rfl,_,_,_,hI8,hRg⟩,?_⟩;rw[hP8.atOf,hPj.atOf]
          have:=hP8.le
          omega
end
end
end Go.Proofs.YtcdeimjlgpfjiaaGreatDoor
