/- expr.Of. Condition: at most 1100000 bytes. -/
import Derived.Test.YtcdeimjlgpfjiaaGreatDoorG30
import Derived.Test.YtcdeimjlgpfjiaaGreatDoorG31
import Derived.Deep.CutRange
set_option linter.unusedSimpArgs false
set_option linter.unusedVariables false
namespace Go.Proofs.YtcdeimjlgpfjiaaGreatDoor
section
open Go.RowKit Go.IntWalk
attribute [local go_sem] Oper.semAt_some
theorem aSx {W:World} {X:Nat→Prop} {l:List Tok} {la:Option Addr} {lc:Nat} (h:CVR W X (.vs (tc l)) (.slice la l.length lc)) {j:Nat} (hj:j<l.length) : ∃ b o,la=some ⟨b,o,none⟩∧b<W.heap.size∧¬ X b∧l.length≤lc ∧
 W.cell? ⟨b,o+j*6,none⟩=some (.int .i64 (l.getD j default).kd)∧W.cell? ⟨b,o+j*6+3+2,none⟩=some (.int .i64 (l.getD j default).pl):=by
 rcases aB6 h with ⟨hnil,a,e⟩ | ⟨b,o,sz,c,g,e,hsz,hc,hcell,hval⟩
 · have:(tc l).length=0:=by rw[hnil]; rfl
   rw[aFT] at this;omega
 · injection e with e1 e2 e3;subst e1 e3
   have hel:(tc l)[j]? = some (l.getD j default).cells:=by simp[tc,hj]
   have h6:sz=6:=(hsz _ (List.mem_of_getElem? hel)).symm;subst h6
   have key : ∀ f v,(l.getD j default).cells[f]? = some (.v v)→W.cell? ⟨b,o+j*6+f,none⟩=some v:=fun f v hf=>by
    obtain⟨_,g2⟩:=hcell j _ hel f _ hf;have g3:=hval j _ hel f _ hf;cases g3;exact g2
   have k0:=key 0 _ rfl;obtain⟨hnb,_⟩:=hcell j _ hel 0 _ rfl;exact⟨b,o,rfl,World.block_lt_of_cell? _ _ k0,hnb,by rw[aFT] at hc; exact hc,k0,key 5 _ rfl⟩
def aC2 (l:List Tok) (s:List UInt8) (j:Nat):Int:=if j<l.length then (l.getD j default).pl else s.length
noncomputable def ofR (s:List UInt8):Xp×Int×Int :=
 if (aBa s).2.2≠0 then (nulX,((aBa s).2.1:Nat),(aBa s).2.2)
 else if (aBc (aBa s).1 0).2.2≠0 then (nulX,aC2 (aBa s).1 s (aBc (aBa s).1 0).2.1,(aBc (aBa s).1 0).2.2)
 else if (aBc (aBa s).1 0).2.1<(aBa s).1.length∧((aBa s).1.getD (aBc (aBa s).1 0).2.1 default).kd≠0 then (nulX,aC2 (aBa s).1 s (aBc (aBa s).1 0).2.1,20)
 else ((aBc (aBa s).1 0).1,s.length,0)
set_option maxHeartbeats 4000000 in
set_option maxRecDepth 100000 in
theorem aHs {W:World} {X:Nat→Prop} {l:List Tok} {la:Option Addr} {lc g5 g1:Nat} {s:List UInt8} (h:CVR W X (.vs (tc l)) (.slice la l.length lc)) (hbig:l.length≤100000) (h5:W.cell? ⟨g5,0,none⟩=some (.slice la l.length lc)) (h1:W.cell? ⟨g1,0,none⟩=some (.string (bs s))) (hs:Sm s) (j:Nat) :
 Calls Tryz.prog 22 #[.int .i64 (j:Int),.pointer (some ⟨g5,0,none⟩),.pointer (some ⟨g1,0,none⟩)] W fun e w'=>e = .returned (.int .i64 (aC2 l s j))∧w'=W:=by
 unfold Sm at hs;by_cases hlt:j<l.length
 · obtain⟨b,o,rfl,hb,hnb,hc,k0,k5⟩:=aSx h hlt
   have hlti:(j:Int)<(l.length:Int):=by omega
   have hltn : ¬ (l.length:Int)≤(j:Int):=by omega
   have e:aC2 l s j=(l.getD j default).pl:=by unfold aC2; rw[if_pos hlt]
   rw[e];generalize (l.getD j default).pl=pl at k5 ⊢;have k5:W.cell? ⟨b,o+j*6+5,none⟩=some (.int .i64 pl):=k5
   go_enter Tryz.func22,Tryz.ntmps22
   go_wp2_with fail
   go_ret
   exact⟨rfl,rfl⟩
 · have hlti : ¬ (j:Int)<(l.length:Int):=by omega
   have e:aC2 l s j=s.length:=by unfold aC2; rw[if_neg hlt]
   rw[e]
   go_enter Tryz.func22,Tryz.ntmps22
   go_wp2_with fail
   go_ret
   refine⟨?_,rfl⟩;simp[aAg]
theorem aRb : ∀ (args:Array Value) (w:World),(callFunc 11 args).run Tryz.prog w = .ok (.enter 11 args) w:=canEnter_of Tryz.func11 (by kernel_rfl) (by kernel_rfl)
theorem aVv : ∀ (args:Array Value) (w:World),(callFunc 8 args).run Tryz.prog w = .ok (.enter 8 args) w:=canEnter_of Tryz.func8 (by kernel_rfl) (by kernel_rfl)
theorem aKL {w w':World} (hg:Glo w) (h:Below w.heap.size w w'):Glo w':=fun g hgl=>by
 obtain⟨m,hm⟩:=hg g hgl;have hb:=World.block_lt_of_cell? _ _ hm;refine⟨m,?_⟩;rw[←hm];unfold World.cell?;rw[h.block _ hb]
theorem aBP {n m:Nat} {a b c:World} (h:Below n a b) (g:Below m b c) (hm:n≤m):Below n a c :=
 ⟨g.os.trans h.os,g.tape.trans h.tape,g.output.trans h.output,Nat.le_trans h.size g.size,fun k hk=>(g.block k (by omega)).trans (h.block k hk)⟩
def OfPh (w:World) (A:Array Value) (W0:World) (d:Bool) (w':World):Prop :=
 KeepG (fun b=>b=w.heap.size+1) W0 w'∧w'.heap[w.heap.size+1]? = some (.cells (match d with | false=>z11 | true=>A) 26 (0,0))
set_option maxHeartbeats 16000000 in
set_option maxRecDepth 100000 in
theorem aUJ (s:List UInt8) (hS:FnC Tryz.prog 11 [sD s] (.tup [.c (.vs (tc (aBa s).1)),iD ((aBa s).2.1:Nat),iD (aBa s).2.2])) (hok:(aBa s).1.length≤4097∧∀ t∈(aBa s).1,aHJ t) (hs:(aBa s).2.2=0→Sm s):FnC Tryz.prog 8 [sD s] (.tup [xD (ofR s).1,iD (ofR s).2.1,iD (ofR s).2.2]):=by
 refine FnC.of aVv fun w X vs hg hX hv=>?_
 match vs,hv with
 | [],hv=>simp[DVRs] at hv
 | _::_::_,hv=>simp[DVRs] at hv
 | [v],hv =>
 simp only[DVRs,DVR,and_true] at hv;cases hv;obtain⟨W2,hW2⟩ : ∃ W2,W2=(w.alloc (.cells #[.string (bs s)] 9)).alloc (.cells z11 26):=⟨_,rfl⟩
 have hB2:Below w.heap.size w W2:=by rw[hW2]; exact ((Below.refl _ _).alloc (Nat.le_refl _) _).alloc (by simp) _
 have hz2:W2.heap.size=w.heap.size+2:=by rw[hW2]; simp
 have h12:W2.heap[w.heap.size]? = some (.cells #[.string (bs s)] 9 (0,0)):=by
  rw[hW2,Below.heap_alloc _ _ _ (by simp)];exact aAl _ _
 have h22:W2.heap[w.heap.size+1]? = some (.cells z11 26 (0,0)):=by
  have:=aAl (w.alloc (.cells #[.string (bs s)] 9)) (.cells z11 26)
  rw[World.size_alloc] at this;rw[hW2]; exact this
 have s12:W2.cell? ⟨w.heap.size,0,none⟩=some (.string (bs s)):=by simp[World.cell?,h12]
 have hSc:=FnC.calls aRb hS W2 (fun b=>b<W2.heap.size) [.string (bs s)] (aKL hg hB2) (fun b hb=>hb) (by simp only[DVRs,DVR,and_true]; exact .v _ rfl);obtain⟨hlen,htok⟩:=hok;clear hS;have hR0:ofR s=ofR s:=rfl
 conv at hR0=>rhs; unfold ofR
 have HR0:=Lib.hid hR0;clear hR0;generalize hsc:aBa s=sc at hlen htok HR0 hSc hs;clear hsc;obtain⟨l,at_,no⟩:=sc;simp only at hlen htok hSc hs;have htx : ∀ i,Sm (l.getD i default).tx:=fun i=>(aII htok i).1;have hvl : ∀ i,Vs (l.getD i default).vl:=fun i=>(aII htok i).2
 have hmf : ∀ (fn:Fn) (first cap:Array Value) (w:World),(Instr.makeFunc fn first cap).run Tryz.prog w = .ok (.func fn first cap) w:=fun _ _ _ _=>rfl
 go_enter Tryz.func8,Tryz.ntmps8
 go_wp2_with fail;rw[←hW2];clear hW2;refine Calls.mono hSc ?_;rintro e w3 ⟨v,rfl,hd,hB3⟩;simp only[DVR,DVRs] at hd;obtain⟨⟨a⟩,rfl,ha⟩:=hd
 match a,ha with
 | [],ha=>simp[DVRs] at ha
 | [_],ha=>simp[DVRs] at ha
 | [_,_],ha=>simp[DVRs] at ha
 | _::_::_::_::_,ha=>simp[DVRs] at ha
 | [a0,a1,a2],ha =>
 simp only[DVRs,DVR,and_true] at ha;obtain⟨hl,ha1,ha2⟩:=ha;cases ha1;cases ha2;obtain⟨la,lc,rfl⟩:=aCl hl;rw[aFT] at hl ⊢;have hz3:=hB3.size;have h13:=(hB3.block _ (by omega)).trans h12;have h23:=(hB3.block _ (by omega)).trans h22;have hB03:=aBP hB2 hB3 (by omega);obtain⟨W4,hW4⟩ : ∃ W4,W4=w3.alloc (.cells #[.slice la l.length lc] 36):=⟨_,rfl⟩
 have hB4:Below w3.heap.size w3 W4:=by rw[hW4]; exact (Below.refl _ _).alloc (Nat.le_refl _) _
 have hz4:W4.heap.size=w3.heap.size+1:=by rw[hW4]; simp
 have h14:=(hB4.block _ (by omega)).trans h13;have h24:=(hB4.block _ (by omega)).trans h23
 have h54:W4.heap[w3.heap.size]? = some (.cells #[.slice la l.length lc] 36 (0,0)):=by rw[hW4]; exact aAl _ _
 have s54:W4.cell? ⟨w3.heap.size,0,none⟩=some (.slice la l.length lc):=by simp[World.cell?,h54]
 have s14:W4.cell? ⟨w.heap.size,0,none⟩=some (.string (bs s)):=by simp[World.cell?,h14]
 have hB04:=aBP hB03 hB4 (by have:=hB2.size; omega);have hl4:=hl.step (X':=fun b=>b<W2.heap.size∨b=w3.heap.size) ⟨fun b hn hlt=>hB4.block b hlt,fun b hb=>hb.elim .inl (fun e=>.inr (by omega)),by omega⟩;by_cases hno:no=0
 · have hs2:Sm s:=hs hno;clear hs;subst hno;have hPr:=FnC.calls aJ9 (aUc l (by omega) htx hvl 0 (by omega)) W4 (fun b=>b<W2.heap.size∨b=w3.heap.size) [.slice la l.length lc,.int .i64 0] (aKL hg hB04) (fun b hb=>by rcases hb with hb | hb <;> omega) (by simp only[DVRs,DVR,and_true]; exact⟨hl4,.v _ rfl⟩)
   have hR1:ofR s=if (aBc l 0).2.2≠0 then (nulX,aC2 l s (aBc l 0).2.1,(aBc l 0).2.2) else if (aBc l 0).2.1<l.length∧(l.getD (aBc l 0).2.1 default).kd≠0 then (nulX,aC2 l s (aBc l 0).2.1,20) else ((aBc l 0).1,s.length,0):=by rw[HR0.out,if_neg (by simp)]
   have HR:=Lib.hid hR1;clear hR1 HR0;generalize aBc l 0=pr at HR hPr;obtain⟨e,j,f⟩:=pr;simp only at HR hPr;go_wp2_with fail;rw[←hW4];clear hW4;refine Calls.mono hPr ?_;rintro e' w5 ⟨v,rfl,hd,hB5⟩;simp only[DVR,DVRs] at hd;obtain⟨⟨a⟩,rfl,ha⟩:=hd
   match a,ha with
   | [],ha=>simp[DVRs] at ha
   | [_],ha=>simp[DVRs] at ha
   | [_,_],ha=>simp[DVRs] at ha
   | _::_::_::_::_,ha=>simp[DVRs] at ha
   | [a0,a1,a2],ha =>
   simp only[DVRs,and_true] at ha;obtain⟨hx,ha1,ha2⟩:=ha;simp only[DVR] at ha1 ha2;cases ha1;cases ha2;have hx:GX (fun b=>b<W2.heap.size∨b=w3.heap.size) e a0 w5:=hx;obtain⟨k,op,⟨v0,v1,v2⟩,tb,nm,sl,nt,ds,args⟩:=e;obtain⟨sa,sc,rfl,hs5⟩:=hx.form;clear hs5;have hz5:=hB5.size;obtain⟨W6,hW6⟩ : ∃ W6,W6=w5.alloc (.cells (xA k op v0 v1 v2 tb nm sl nt ds (.slice sa args.length sc)) 26):=⟨_,rfl⟩
   have hB6:Below w5.heap.size w5 W6:=by rw[hW6]; exact (Below.refl _ _).alloc (Nat.le_refl _) _
   have hz6:W6.heap.size=w5.heap.size+1:=by rw[hW6]; simp
   have h96:W6.heap[w5.heap.size]? = some (.cells (xA k op v0 v1 v2 tb nm sl nt ds (.slice sa args.length sc)) 26 (0,0)):=by rw[hW6]; exact aAl _ _
   have hB46:=aBP hB5 hB6 hz5;have h16:=(hB46.block _ (by omega)).trans h14;have h26:=(hB46.block _ (by omega)).trans h24;have h56:=(hB46.block _ (by omega)).trans h54
   have s56:W6.cell? ⟨w3.heap.size,0,none⟩=some (.slice la l.length lc):=by simp[World.cell?,h56]
   have s16:W6.cell? ⟨w.heap.size,0,none⟩=some (.string (bs s)):=by simp[World.cell?,h16]
   have hB06:=aBP hB04 hB46 (by omega);have hl6:=hl4.step (X':=fun b=>b<W2.heap.size∨b=w3.heap.size) ⟨fun b hn hlt=>hB46.block b hlt,fun b hb=>.inl hb,hB46.size⟩;have hx6:=hx.step (X':=fun b=>b≤w.heap.size+1) ⟨fun b hn hlt=>hB6.block b hlt,fun b hb=>.inl (.inl (by have hb:b≤w.heap.size+1:=hb; show b<W2.heap.size; omega)),hB6.size⟩;clear hx hl4 hl hPr hSc
   go_upto_region 6 with fail
   rw[←hW6];clear hW6;by_cases hf:f=0
   · subst hf;by_cases hlt:j<l.length
     · obtain⟨b,o,rfl,hbb,hnb,hcc,k0,_⟩:=aSx hl6 hlt
       have hlti:(j:Int)<(l.length:Int):=by omega
       have hltn : ¬ (l.length:Int)≤(j:Int):=by omega
       generalize hkd:(l.getD j default).kd=kd at k0;by_cases hk:kd=0
       · subst hk
         have hRe:ofR s=((.mk k op (v0,v1,v2) tb nm sl nt ds args),(s.length:Int),0):=by rw[HR.out,if_neg (by simp),if_neg (fun e=>e.2 hkd)]
         go_wp2_with fail;have hH0:OfPh w (xA k op v0 v1 v2 tb nm sl nt ds (.slice sa args.length sc)) W6 false W6.drew:=⟨KeepG.refl.drew,h26⟩;rw[←wpIn_wide (n:=0)]
         refine aAt (by kernel_rfl) (fun _=>trivial) rfl (fun f args w R h=>callsIn_wide.2 h) (by kernel_rfl)
          (fun (r:Unit) q=>match q with | 0=>.agg (xA k op v0 v1 v2 tb nm sl nt ds (.slice sa args.length sc)) | 1=>.string (bs s) | 2=>.int .i64 ((bs s).size:Int) | 4=>.int .i64 ((bs s).size:Int) | 5=>.int .i64 0 | _=>undef)
          (fun r D w'=>OfPh w (xA k op v0 v1 v2 tb nm sl nt ds (.slice sa args.length sc)) W6 (D 3) w') () hH0 ?steps ?rdone
         case steps =>
          intro DD q o r aa W3 hop hDq hcl hdep hA hH;have hq:q<6:=(Array.getElem?_eq_some_iff.1 hop).1
          have:q=0∨q=1∨q=2∨q=3∨q=4∨q=5:=by omega
          rcases this with rfl | rfl | rfl | rfl | rfl | rfl
          all_goals (simp only[List.getElem?_toArray,List.getElem?_cons_zero,List.getElem?_cons_succ,Option.some.injEq] at hop; subst hop)
          · have e9:=hA.keep 9 (by kernel_rfl);obtain⟨z0,z1,z2,z3,z4,z5,z6,z7,z8,z9,z10,_⟩:=aAf (hH.1.keepLt h96 (by omega));exact .inl (.inl ⟨r,W3,by simp,(by simp[execOp,go_sem,e9,z0,z1,z2,z3,z4,z5,z6,z7,z8,z9,z10]),fun _ _=>rfl,hH⟩)
          · have e1:=hA.keep 1 (by kernel_rfl)
            have z1:W3.cell? ⟨w.heap.size,0,none⟩=some (.string (bs s)):=by simp[World.cell?,hH.1.keepLt h16 (by omega)]
            exact .inl (.inl ⟨r,W3,by simp,(by simp[execOp,go_sem,e1,z1]),fun _ _=>rfl,hH⟩)
          · have e55:=hA.was 1 55 rfl (hdep ⟨1,.data⟩ (by simp) rfl) (by simp);exact .inl (.inl ⟨r,W3,by simp,(by simp[execOp,go_sem,e55]),fun _ _=>rfl,hH⟩)
          · have e2:=hA.keep 2 (by kernel_rfl);have e54:=hA.was 0 54 rfl (hdep ⟨0,.data⟩ (by simp) rfl) (by simp);obtain⟨hK,g4⟩:=hH;rw[hDq] at g4;simp only at g4;obtain⟨z0,z1,z2,z3,z4,z5,z6,z7,z8,z9,z10,zf⟩:=aAf g4;refine .inr (.inl ⟨_,rfl,by simp,(by simp[execOp,go_sem,e2,e54,z0,z1,z2,z3,z4,z5,z6,z7,z8,z9,z10,zf]; rfl),?_⟩);show OfPh w (xA k op v0 v1 v2 tb nm sl nt ds (.slice sa args.length sc)) W6 true _;exact⟨hK.set11 (S:=fun b=>b=w.heap.size+1) rfl (.int .i64 k) (.string (bs op)) (.int .i64 v0) (.int .i64 v1) (.string (bs v2)) (.string (bs tb)) (.string (bs nm)) (.int .i64 sl) (.bool nt) (.bool ds) (.slice sa args.length sc),aBD g4 (.int .i64 k) (.string (bs op)) (.int .i64 v0) (.int .i64 v1) (.string (bs v2)) (.string (bs tb)) (.string (bs nm)) (.int .i64 sl) (.bool nt) (.bool ds) (.slice sa args.length sc)⟩
          · have e56:=hA.was 2 56 rfl (hdep ⟨2,.data⟩ (by simp) rfl) (by simp);exact .inl (.inl ⟨r,W3,by simp,(by simp[execOp,go_sem,e56]),fun _ _=>rfl,hH⟩)
          · exact .inl (.inl ⟨r,W3,by simp,(by simp[execOp,go_sem]),fun _ _=>rfl,hH⟩)
         case rdone =>
          intro DD r aa W4 hall hA hH;have ha:=hA.eq (goodR.apart (by kernel_rfl)) hall;simp only[aCS,Act.put,List.setIfInBounds_toArray,List.set_cons_zero,List.set_cons_succ] at ha;subst ha;rw[hall 3 (by decide)] at hH;obtain⟨hKr,h28⟩:=hH;simp only at h28;clear hA hall;have hz8:=hKr.size;gi_wp2;go_wp2_with fail;obtain⟨y0,y1,y2,y3,y4,y5,y6,y7,y8,y9,y10,_⟩:=aAf h28;refine bodyPost_ret (v:=.tuple #[.agg (xA k op v0 v1 v2 tb nm sl nt ds (.slice sa args.length sc)),.int .i64 ((bs s).size:Int),.int .i64 0]) (by simp[results,Tryz.results8,go_sem,y0,y1,y2,y3,y4,y5,y6,y7,y8,y9,y10]) rfl ?_;refine⟨_,rfl,?_,?_⟩
          · rw[hRe,aAg];exact aDS (X':=fun b=>b≤w.heap.size+1) (hx6.step (hKr.stays (X:=fun b=>b≤w.heap.size+1) (fun b hb=>by show b≤w.heap.size+1; omega) (fun b hb=>.inl hb))) (fun b hb=>by have:=hX b hb; show b≤w.heap.size+1; omega)
          · exact aBP hB06 (⟨hKr.os,hKr.tape,hKr.output,hKr.size,fun k hk=>hKr.heap k (by omega) (by omega)⟩:Below w.heap.size W6 W4) (Nat.le_refl _)
       · have hk2:(kd != 0)=true:=by simp[hk]
         have hk3 : ¬ (kd==0)=true:=by simp[hk]
         have hPl:=aHs hl6 (by omega) s56 s16 hs2 j;go_wp2_with fail;refine Calls.mono hPl ?_;rintro e w8 ⟨rfl,hw8⟩;replace hw8:=hw8.symm;subst hw8;obtain⟨p0,p1,p2,p3,p4,p5,p6,p7,p8,p9,p10,pf⟩:=aAf h26;go_wp2_with fail;have hA:=aBD h26 (.int .i64 0) (.string ⟨#[]⟩) (.int .i64 0) (.int .i64 0) (.string ⟨#[]⟩) (.string ⟨#[]⟩) (.string ⟨#[]⟩) (.int .i64 0) (.bool false) (.bool false) (.slice none 0 0);have hB:=fun (g:Nat) (hg:g≠w.heap.size+1)=>aAw (w:=W6) hg (.int .i64 0) (.string ⟨#[]⟩) (.int .i64 0) (.int .i64 0) (.string ⟨#[]⟩) (.string ⟨#[]⟩) (.string ⟨#[]⟩) (.int .i64 0) (.bool false) (.bool false) (.slice none 0 0);have hKf:=(KeepG.refl (S:=fun b=>b=w.heap.size+1) (w:=W6)).set11 (g:=w.heap.size+1) rfl (.int .i64 0) (.string ⟨#[]⟩) (.int .i64 0) (.int .i64 0) (.string ⟨#[]⟩) (.string ⟨#[]⟩) (.string ⟨#[]⟩) (.int .i64 0) (.bool false) (.bool false) (.slice none 0 0);generalize hWf:World.setCell _ ⟨w.heap.size+1,10,none⟩ _=Wf at hA hB hKf ⊢
         have hzf:Wf.heap.size=W6.heap.size:=by rw[←hWf]; simp
         clear hWf;obtain⟨y0,y1,y2,y3,y4,y5,y6,y7,y8,y9,y10,_⟩:=aAf hA;refine bodyPost_ret (v:=.tuple #[.agg #[.int .i64 0,.string ⟨#[]⟩,.int .i64 0,.int .i64 0,.string ⟨#[]⟩,.string ⟨#[]⟩,.string ⟨#[]⟩,.int .i64 0,.bool false,.bool false,.slice none 0 0],.int .i64 (aC2 l s j),.int .i64 20]) (by simp[results,Tryz.results8,go_sem,y0,y1,y2,y3,y4,y5,y6,y7,y8,y9,y10]) rfl ?_;refine⟨_,rfl,?_,?_⟩
         · rw[show ofR s=(nulX,(aC2 l s j),20) from by rw[HR.out,if_neg (by simp),if_pos ⟨hlt,by rw[hkd]; exact hk⟩]];exact aDS (X':=fun b=>b≤w.heap.size+1) ((GX.mk' (.nil none):GX (fun b=>b≤w.heap.size+1) nulX (.agg (xA 0 [] 0 0 [] [] [] 0 false false (.slice none 0 0))) W6).step ⟨fun b hn hlt=>hB b (by have : ¬ b≤w.heap.size+1:=hn; omega),fun b hb=>.inl hb,by omega⟩) (fun b hb=>by have:=hX b hb; show b≤w.heap.size+1; omega)
         · exact⟨hKf.os.trans hB06.os,hKf.tape.trans hB06.tape,hKf.output.trans hB06.output,by have:=hB06.size; omega,fun b hb=>(hB b (by omega)).trans (hB06.block b hb)⟩
     · have hlti : ¬ (j:Int)<(l.length:Int):=by omega
       have hRe:ofR s=((.mk k op (v0,v1,v2) tb nm sl nt ds args),(s.length:Int),0):=by rw[HR.out,if_neg (by simp),if_neg (fun e=>hlt e.1)]
       go_wp2_with fail;have hH0:OfPh w (xA k op v0 v1 v2 tb nm sl nt ds (.slice sa args.length sc)) W6 false W6.drew:=⟨KeepG.refl.drew,h26⟩;rw[←wpIn_wide (n:=0)]
       refine aAt (by kernel_rfl) (fun _=>trivial) rfl (fun f args w R h=>callsIn_wide.2 h) (by kernel_rfl)
        (fun (r:Unit) q=>match q with | 0=>.agg (xA k op v0 v1 v2 tb nm sl nt ds (.slice sa args.length sc)) | 1=>.string (bs s) | 2=>.int .i64 ((bs s).size:Int) | 4=>.int .i64 ((bs s).size:Int) | 5=>.int .i64 0 | _=>undef)
        (fun r D w'=>OfPh w (xA k op v0 v1 v2 tb nm sl nt ds (.slice sa args.length sc)) W6 (D 3) w') () hH0 ?steps ?rdone
       case steps =>
        intro DD q o r aa W3 hop hDq hcl hdep hA hH;have hq:q<6:=(Array.getElem?_eq_some_iff.1 hop).1
        have:q=0∨q=1∨q=2∨q=3∨q=4∨q=5:=by omega
        rcases this with rfl | rfl | rfl | rfl | rfl | rfl
        all_goals (simp only[List.getElem?_toArray,List.getElem?_cons_zero,List.getElem?_cons_succ,Option.some.injEq] at hop; subst hop)
        · have e9:=hA.keep 9 (by kernel_rfl);obtain⟨z0,z1,z2,z3,z4,z5,z6,z7,z8,z9,z10,_⟩:=aAf (hH.1.keepLt h96 (by omega));exact .inl (.inl ⟨r,W3,by simp,(by simp[execOp,go_sem,e9,z0,z1,z2,z3,z4,z5,z6,z7,z8,z9,z10]),fun _ _=>rfl,hH⟩)
        · have e1:=hA.keep 1 (by kernel_rfl)
          have z1:W3.cell? ⟨w.heap.size,0,none⟩=some (.string (bs s)):=by simp[World.cell?,hH.1.keepLt h16 (by omega)]
          exact .inl (.inl ⟨r,W3,by simp,(by simp[execOp,go_sem,e1,z1]),fun _ _=>rfl,hH⟩)
        · have e55:=hA.was 1 55 rfl (hdep ⟨1,.data⟩ (by simp) rfl) (by simp);exact .inl (.inl ⟨r,W3,by simp,(by simp[execOp,go_sem,e55]),fun _ _=>rfl,hH⟩)
        · have e2:=hA.keep 2 (by kernel_rfl);have e54:=hA.was 0 54 rfl (hdep ⟨0,.data⟩ (by simp) rfl) (by simp);obtain⟨hK,g4⟩:=hH;rw[hDq] at g4;simp only at g4;obtain⟨z0,z1,z2,z3,z4,z5,z6,z7,z8,z9,z10,zf⟩:=aAf g4;refine .inr (.inl ⟨_,rfl,by simp,(by simp[execOp,go_sem,e2,e54,z0,z1,z2,z3,z4,z5,z6,z7,z8,z9,z10,zf]; rfl),?_⟩);show OfPh w (xA k op v0 v1 v2 tb nm sl nt ds (.slice sa args.length sc)) W6 true _;exact⟨hK.set11 (S:=fun b=>b=w.heap.size+1) rfl (.int .i64 k) (.string (bs op)) (.int .i64 v0) (.int .i64 v1) (.string (bs v2)) (.string (bs tb)) (.string (bs nm)) (.int .i64 sl) (.bool nt) (.bool ds) (.slice sa args.length sc),aBD g4 (.int .i64 k) (.string (bs op)) (.int .i64 v0) (.int .i64 v1) (.string (bs v2)) (.string (bs tb)) (.string (bs nm)) (.int .i64 sl) (.bool nt) (.bool ds) (.slice sa args.length sc)⟩
        · have e56:=hA.was 2 56 rfl (hdep ⟨2,.data⟩ (by simp) rfl) (by simp);exact .inl (.inl ⟨r,W3,by simp,(by simp[execOp,go_sem,e56]),fun _ _=>rfl,hH⟩)
        · exact .inl (.inl ⟨r,W3,by simp,(by simp[execOp,go_sem]),fun _ _=>rfl,hH⟩)
       case rdone =>
        intro DD r aa W4 hall hA hH;have ha:=hA.eq (goodR.apart (by kernel_rfl)) hall;simp only[aCS,Act.put,List.setIfInBounds_toArray,List.set_cons_zero,List.set_cons_succ] at ha;subst ha;rw[hall 3 (by decide)] at hH;obtain⟨hKr,h28⟩:=hH;simp only at h28;clear hA hall;have hz8:=hKr.size;gi_wp2;go_wp2_with fail;obtain⟨y0,y1,y2,y3,y4,y5,y6,y7,y8,y9,y10,_⟩:=aAf h28;refine bodyPost_ret (v:=.tuple #[.agg (xA k op v0 v1 v2 tb nm sl nt ds (.slice sa args.length sc)),.int .i64 ((bs s).size:Int),.int .i64 0]) (by simp[results,Tryz.results8,go_sem,y0,y1,y2,y3,y4,y5,y6,y7,y8,y9,y10]) rfl ?_;refine⟨_,rfl,?_,?_⟩
        · rw[hRe,aAg];exact aDS (X':=fun b=>b≤w.heap.size+1) (hx6.step (hKr.stays (X:=fun b=>b≤w.heap.size+1) (fun b hb=>by show b≤w.heap.size+1; omega) (fun b hb=>.inl hb))) (fun b hb=>by have:=hX b hb; show b≤w.heap.size+1; omega)
        · exact aBP hB06 (⟨hKr.os,hKr.tape,hKr.output,hKr.size,fun k hk=>hKr.heap k (by omega) (by omega)⟩:Below w.heap.size W6 W4) (Nat.le_refl _)
   · have hf2:(f != 0)=true:=by simp[hf]
     have hf3 : ¬ (f==0)=true:=by simp[hf]
     have hPl:=aHs hl6 (by omega) s56 s16 hs2 j;go_wp2_with fail;refine Calls.mono hPl ?_;rintro e w8 ⟨rfl,hw8⟩;replace hw8:=hw8.symm;subst hw8;obtain⟨p0,p1,p2,p3,p4,p5,p6,p7,p8,p9,p10,pf⟩:=aAf h26;go_wp2_with fail;have hA:=aBD h26 (.int .i64 0) (.string ⟨#[]⟩) (.int .i64 0) (.int .i64 0) (.string ⟨#[]⟩) (.string ⟨#[]⟩) (.string ⟨#[]⟩) (.int .i64 0) (.bool false) (.bool false) (.slice none 0 0);have hB:=fun (g:Nat) (hg:g≠w.heap.size+1)=>aAw (w:=W6) hg (.int .i64 0) (.string ⟨#[]⟩) (.int .i64 0) (.int .i64 0) (.string ⟨#[]⟩) (.string ⟨#[]⟩) (.string ⟨#[]⟩) (.int .i64 0) (.bool false) (.bool false) (.slice none 0 0);have hKf:=(KeepG.refl (S:=fun b=>b=w.heap.size+1) (w:=W6)).set11 (g:=w.heap.size+1) rfl (.int .i64 0) (.string ⟨#[]⟩) (.int .i64 0) (.int .i64 0) (.string ⟨#[]⟩) (.string ⟨#[]⟩) (.string ⟨#[]⟩) (.int .i64 0) (.bool false) (.bool false) (.slice none 0 0);generalize hWf:World.setCell _ ⟨w.heap.size+1,10,none⟩ _=Wf at hA hB hKf ⊢
     have hzf:Wf.heap.size=W6.heap.size:=by rw[←hWf]; simp
     clear hWf;obtain⟨y0,y1,y2,y3,y4,y5,y6,y7,y8,y9,y10,_⟩:=aAf hA;refine bodyPost_ret (v:=.tuple #[.agg #[.int .i64 0,.string ⟨#[]⟩,.int .i64 0,.int .i64 0,.string ⟨#[]⟩,.string ⟨#[]⟩,.string ⟨#[]⟩,.int .i64 0,.bool false,.bool false,.slice none 0 0],.int .i64 (aC2 l s j),.int .i64 f]) (by simp[results,Tryz.results8,go_sem,y0,y1,y2,y3,y4,y5,y6,y7,y8,y9,y10]) rfl ?_;refine⟨_,rfl,?_,?_⟩
     · rw[show ofR s=(nulX,(aC2 l s j),f) from by rw[HR.out,if_pos hf]];exact aDS (X':=fun b=>b≤w.heap.size+1) ((GX.mk' (.nil none):GX (fun b=>b≤w.heap.size+1) nulX (.agg (xA 0 [] 0 0 [] [] [] 0 false false (.slice none 0 0))) W6).step ⟨fun b hn hlt=>hB b (by have : ¬ b≤w.heap.size+1:=hn; omega),fun b hb=>.inl hb,by omega⟩) (fun b hb=>by have:=hX b hb; show b≤w.heap.size+1; omega)
     · exact⟨hKf.os.trans hB06.os,hKf.tape.trans hB06.tape,hKf.output.trans hB06.output,by have:=hB06.size; omega,fun b hb=>(hB b (by omega)).trans (hB06.block b hb)⟩
 · have hno2:(no != 0)=true:=by simp[hno]
   have hno3 : ¬ (no==0)=true:=by simp[hno]
   go_upto_region 2 with fail
   rw[←hW4];clear hW4;obtain⟨p0,p1,p2,p3,p4,p5,p6,p7,p8,p9,p10,pf⟩:=aAf h24;go_wp2_with fail;have hA:=aBD h24 (.int .i64 0) (.string ⟨#[]⟩) (.int .i64 0) (.int .i64 0) (.string ⟨#[]⟩) (.string ⟨#[]⟩) (.string ⟨#[]⟩) (.int .i64 0) (.bool false) (.bool false) (.slice none 0 0);have hB:=fun (g:Nat) (hg:g≠w.heap.size+1)=>aAw (w:=W4) hg (.int .i64 0) (.string ⟨#[]⟩) (.int .i64 0) (.int .i64 0) (.string ⟨#[]⟩) (.string ⟨#[]⟩) (.string ⟨#[]⟩) (.int .i64 0) (.bool false) (.bool false) (.slice none 0 0);have hKf:=(KeepG.refl (S:=fun b=>b=w.heap.size+1) (w:=W4)).set11 (g:=w.heap.size+1) rfl (.int .i64 0) (.string ⟨#[]⟩) (.int .i64 0) (.int .i64 0) (.string ⟨#[]⟩) (.string ⟨#[]⟩) (.string ⟨#[]⟩) (.int .i64 0) (.bool false) (.bool false) (.slice none 0 0);generalize hWf:World.setCell _ ⟨w.heap.size+1,10,none⟩ _=Wf at hA hB hKf ⊢
   have hzf:Wf.heap.size=W4.heap.size:=by rw[←hWf]; simp
   clear hWf;obtain⟨y0,y1,y2,y3,y4,y5,y6,y7,y8,y9,y10,_⟩:=aAf hA;refine bodyPost_ret (v:=.tuple #[.agg #[.int .i64 0,.string ⟨#[]⟩,.int .i64 0,.int .i64 0,.string ⟨#[]⟩,.string ⟨#[]⟩,.string ⟨#[]⟩,.int .i64 0,.bool false,.bool false,.slice none 0 0],.int .i64 (at_:Int),.int .i64 no]) (by simp[results,Tryz.results8,go_sem,y0,y1,y2,y3,y4,y5,y6,y7,y8,y9,y10]) rfl ?_;refine⟨_,rfl,?_,?_⟩
   · rw[show ofR s=(nulX,(at_:Int),no) from by rw[HR0.out,if_pos hno]];exact aDS (X':=fun b=>b≤w.heap.size+1) ((GX.mk' (.nil none):GX (fun b=>b≤w.heap.size+1) nulX (.agg (xA 0 [] 0 0 [] [] [] 0 false false (.slice none 0 0))) W4).step ⟨fun b hn hlt=>hB b (by have : ¬ b≤w.heap.size+1:=hn; omega),fun b hb=>.inl hb,by omega⟩) (fun b hb=>by have:=hX b hb; show b≤w.heap.size+1; omega)
   · exact⟨hKf.os.trans hB04.os,hKf.tape.trans hB04.tape,hKf.output.trans hB04.output,by have:=hB04.size; omega,fun b hb=>(hB b (by omega)).trans (hB04.block b hb)⟩
theorem c_Of (s:List UInt8) (hs:Sm s):FnC Tryz.prog 8 [sD s] (.tup [xD (ofR s).1,iD (ofR s).2.1,iD (ofR s).2.2]):=aUJ s (aSw s hs) (aNe hs) (fun _=>hs)
theorem aQp (s:List UInt8) (h:s.length≤1000000000):FnC Tryz.prog 11 [sD s] (.tup [.c (.vs (tc (aBa s).1)),iD ((aBa s).2.1:Nat),iD (aBa s).2.2]):=by
 by_cases hb:65536<s.length
 · refine w11 (bs s) ?_;simp only[aAg,aAG];refine⟨fun h=>?_,fun h=>absurd (by omega) h⟩;unfold aBa;rw[if_pos hb];rfl
 · exact aSw s (by unfold Sm; omega)
theorem aBT (s:List UInt8):((aBa s).1.length≤4097∧∀ t∈(aBa s).1,aHJ t)∧((aBa s).2.2=0→Sm s):=by
 by_cases hb:65536<s.length
 · unfold aBa;rw[if_pos hb];exact⟨⟨by simp,by simp⟩,fun h=>by cases h⟩
 · have hs:Sm s:=by unfold Sm; omega
   exact⟨aNe hs,fun _=>hs⟩
theorem aVW (s:List UInt8) (h:s.length≤1000000000):FnC Tryz.prog 8 [sD s] (.tup [xD (ofR s).1,iD (ofR s).2.1,iD (ofR s).2.2]):=aUJ s (aQp s h) (aBT s).1 (aBT s).2
theorem aVq (s:List UInt8):Fv (ofR s).1:=by
 have hn:Fv nulX:=aDG (by omega) aAO (by simp) trivial
 have hp:Fv (aBc (aBa s).1 0).1:=by
  unfold aBc;split
  · rename_i e j hr;split
    · exact hn
    · exact aO6 (by have:=(aBT s).1.1; omega) (fun i=>(aII (aBT s).1.2 i).1) (fun i=>(aII (aBT s).1.2 i).2) _ .expr _ _ _ hr
  · exact hn
  · exact hn
 unfold ofR;split
 · exact hn
 · split
   · exact hn
   · split
     · exact hn
     · exact hp
theorem aUL {s:List UInt8} (h:(ofR s).2.2=0):(aBa s).2.2=0:=by
 unfold ofR at h;split at h
 · exact h
 · rename_i h1;exact Classical.byContradiction h1
end
end Go.Proofs.YtcdeimjlgpfjiaaGreatDoor
