/- expr.Parse. Conditions: at most 100000 tokens, whose texts are not longer than 1100000 bytes. -/
import Derived.Test.YtcdeimjlgpfjiaaGreatDoorG29
import Derived.Test.YtcdeimjlgpfjiaaGreatDoorG26
set_option linter.unusedSimpArgs false
set_option linter.unusedVariables false
namespace Go.Proofs.YtcdeimjlgpfjiaaGreatDoor
section
open Go.RowKit Go.IntWalk
attribute [local go_sem] Oper.semAt_some
def aBc (l:List Tok) (i:Nat):Xp×Nat×Int:=match aQ0 l i with
 | .ok e j=>if 24<aFc e then (nulX,i,12) else (e,j,0)
 | .stop j=>(nulX,j,20)
 | .out=>(nulX,0,0)
theorem aJ9 : ∀ (args:Array Value) (w:World),(callFunc 23 args).run Tryz.prog w = .ok (.enter 23 args) w:=canEnter_of Tryz.func23 (by kernel_rfl) (by kernel_rfl)
theorem aRK : ∀ (args:Array Value) (w:World),(callFunc 4 args).run Tryz.prog w = .ok (.enter 4 args) w:=canEnter_of Tryz.func4 (by kernel_rfl) (by kernel_rfl)
theorem aDS {w:World} {X X':Nat→Prop} {e:Xp} {v:Value} {n m:Int} (h:GX X' e v w) (hX : ∀ b,X b→X' b):DVR w X (.tup [xD e,iD n,iD m]) (.tuple #[v,.int .i64 n,.int .i64 m]):=by
 have h2:DVR w X (xD e) v:=h.mono hX;simp only[DVR,DVRs];exact⟨_,rfl,h2,.v _ rfl,.v _ rfl,trivial⟩
theorem aHn {w W4 w5 w6:World} {S:Nat→Prop} {pb:Nat} (h1:Below w.heap.size w W4) (h2:KeepP pb W4 w5) (h3:KeepG S w5 w6) (hp:w.heap.size≤pb) (hS : ∀ b,b<w.heap.size→¬ S b):Below w.heap.size w w6 :=
 ⟨h3.os.trans (h2.os.trans h1.os),h3.tape.trans (h2.tape.trans h1.tape),h3.output.trans (h2.output.trans h1.output),Nat.le_trans h1.size (Nat.le_trans h2.size h3.size),fun b hb=>(h3.heap b (Nat.lt_of_lt_of_le hb (Nat.le_trans h1.size h2.size)) (hS b hb)).trans ((h2.heap b (Nat.lt_of_lt_of_le hb h1.size) (by omega)).trans (h1.block b hb))⟩
def aO1 (g4:Nat) (A:Array Value) (pb:Nat) (l:List Tok) (la:Option Addr) (lc j:Nat) (W0:World) (d:Bool) (w':World):Prop :=
 KeepG (fun b=>b=g4∨b=g4+1∨b=g4+2) W0 w'∧w'.heap[g4]? = some (.cells A 26 (0,0))∧w'.heap[g4+1]? = some (.cells #[.int .i64 (match d with | false=>0 | true=>(j:Int))] 3 (0,0))∧w'.heap[g4+2]? = some (.cells #[.int .i64 0] 32 (0,0))∧w'.heap[pb]? = some (.cells #[.slice la l.length lc,.int .i64 (j:Int)] 75 (0,0))
set_option maxHeartbeats 16000000 in
set_option maxRecDepth 100000 in
theorem aUc (l:List Tok) (hbig:l.length≤100000) (htx : ∀ i,Sm (l.getD i default).tx) (hvl : ∀ i,Vs (l.getD i default).vl) (i:Nat) (hi:i≤l.length) :
 FnC Tryz.prog 23 [.c (.vs (tc l)),iD i] (.tup [xD (aBc l i).1,iD (aBc l i).2.1,iD (aBc l i).2.2]):=by
 refine FnC.of aJ9 fun w X vs hg hX hv=>?_
 match vs,hv with
 | [],hv=>simp[DVRs] at hv
 | [_],hv=>simp[DVRs] at hv
 | _::_::_::_,hv=>simp[DVRs] at hv
 | [v,u],hv =>
 simp only[DVRs,DVR,and_true] at hv;obtain⟨hv1,hv2⟩:=hv;cases hv2;obtain⟨la,lc,rfl⟩:=aCl hv1;rw[aFT] at hv1 ⊢;obtain⟨W3,hW3⟩ : ∃ W3,W3=((w.alloc (.cells z11 26)).alloc (.cells #[.int .i64 0] 3)).alloc (.cells #[.int .i64 0] 32):=⟨_,rfl⟩;obtain⟨W4,hW4⟩ : ∃ W4,W4=W3.alloc (.cells #[.slice la l.length lc,.int .i64 (i:Int)] 75):=⟨_,rfl⟩
 have hB3:Below w.heap.size w W3:=by rw[hW3]; exact (((Below.refl _ _).alloc (Nat.le_refl _) _).alloc (by simp) _).alloc (by simp; omega) _
 have hz3:W3.heap.size=w.heap.size+3:=by rw[hW3]; simp
 have hB4:Below w.heap.size w W4:=by rw[hW4]; exact hB3.alloc (by omega) _
 have hz4:W4.heap.size=w.heap.size+4:=by rw[hW4]; simp[hz3]
 have h4:W4.heap[w.heap.size]? = some (.cells z11 26 (0,0)):=by
  rw[hW4,hW3,Below.heap_alloc _ _ _ (by simp; omega),Below.heap_alloc _ _ _ (by simp; try omega),Below.heap_alloc _ _ _ (by simp)];exact aAl _ _
 have h5:W4.heap[w.heap.size+1]? = some (.cells #[.int .i64 0] 3 (0,0)):=by
  rw[hW4,hW3,Below.heap_alloc _ _ _ (by simp; try omega),Below.heap_alloc _ _ _ (by simp; try omega)]
  have:=aAl (w.alloc (.cells z11 26)) (.cells #[.int .i64 0] 3)
  rw[World.size_alloc] at this;exact this
 have h6:W4.heap[w.heap.size+2]? = some (.cells #[.int .i64 0] 32 (0,0)):=by
  rw[hW4,hW3,Below.heap_alloc _ _ _ (by simp)]
  have:=aAl ((w.alloc (.cells z11 26)).alloc (.cells #[.int .i64 0] 3)) (.cells #[.int .i64 0] 32)
  rw[World.size_alloc,World.size_alloc] at this;exact this
 have h7:W4.heap[w.heap.size+3]? = some (.cells #[.slice la l.length lc,.int .i64 (i:Int)] 75 (0,0)):=by rw[hW4,←hz3]; exact aAl _ _
 have hP:PW l (w.heap.size+3) la lc W4 i:=by
  refine⟨h7,hv1.step ⟨fun b hn hlt=>hB4.block b hlt,fun b hb=>.inr (by show w.heap.size≤b; omega),by omega⟩,hi,hbig,fun g hgl=>?_,fun g hgl=>?_⟩
  · obtain⟨m,hm⟩:=hg g hgl;refine⟨m,?_⟩;have hb:=World.block_lt_of_cell? _ _ hm;rw[←hm];unfold World.cell?;rw[hB4.block _ hb]
  · obtain⟨m,hm⟩:=hg g hgl;have hb:=World.block_lt_of_cell? _ _ hm;have hb:g<w.heap.size:=hb;omega
 have hC:=aOc htx hP
 have hmf : ∀ (fn:Fn) (first cap:Array Value) (w:World),(Instr.makeFunc fn first cap).run Tryz.prog w = .ok (.func fn first cap) w:=fun _ _ _ _=>rfl
 have hi0 : ¬ (i:Int)<0:=by omega
 have hi1 : ¬ (i:Int) > (l.length:Int):=by omega
 have hi2 : ¬ (l.length:Int)<(i:Int):=by omega
 go_enter_defers Tryz.func23,Tryz.ntmps23
 go_wp2_with fail;simp only[←hW3] at *
 first | rw[←hW4] | skip
 cases hr:aQ0 l i with
 | out=>exact absurd hr (aNt hi)
 | stop q =>
  rw[hr] at hC;refine Calls.mono hC ?_;rintro e w5 ⟨rfl,hk⟩;refine leaves_cons (f:=36) (args:=#[.pointer (some ⟨w.heap.size,0,none⟩),.pointer (some ⟨w.heap.size+1,0,none⟩),.pointer (some ⟨w.heap.size+2,0,none⟩)]) (by simp) (by simp[go_sem]) ?_;have h45:=aAd hk h4 (by omega);have h55:=aAd hk h5 (by omega);have h65:=aAd hk h6 (by omega);refine (aNO q [] (by omega) (by omega) h45 h55 h65).mono ?_;rintro e u' w6 ⟨rfl,rfl,hK,k4,k5,k6⟩;obtain⟨y0,y1,y2,y3,y4,y5,y6,y7,y8,y9,y10,_⟩:=aAf k4
  have p5:w6.cell? ⟨w.heap.size+1,0,none⟩=some (.int .i64 (q:Int)):=by simp[World.cell?,k5]
  have p6:w6.cell? ⟨w.heap.size+1+1,0,none⟩=some (.int .i64 20):=by simp[World.cell?,k6]
  simp[Leaves,settle,results,Tryz.results23,go_sem,y0,y1,y2,y3,y4,y5,y6,y7,y8,y9,y10,p5,p6]
  have hR:aBc l i=(nulX,q,20):=by unfold aBc; rw[hr]
  rw[hR];exact⟨aDS (X':=X) (GX.mk' (.nil none)) (fun b hb=>hb),aHn hB4 hk hK (by omega) (fun b hb h=>by omega)⟩
 | ok e j =>
  rw[hr] at hC;refine Calls.mono hC ?_;rintro e' w5 ⟨⟨v,rfl,hx⟩,hk,hP5⟩;have hfv:=aO6 hbig htx hvl _ .expr _ _ _ hr;obtain⟨k,op,⟨v0,v1,v2⟩,tb,nm,sl,nt,ds,args⟩:=e;obtain⟨sa,sc,rfl,hs⟩:=hx.form;have h45:=aAd hk h4 (by omega);have h55:=aAd hk h5 (by omega);have h65:=aAd hk h6 (by omega);have hz5:=hk.size;obtain⟨p0,p1,p2,p3,p4,p5,p6,p7,p8,p9,p10,pf⟩:=aAf h45
  go_upto_region 6 with fail
  have hA:=aBD h45 (.int .i64 k) (.string (bs op)) (.int .i64 v0) (.int .i64 v1) (.string (bs v2)) (.string (bs tb)) (.string (bs nm)) (.int .i64 sl) (.bool nt) (.bool ds) (.slice sa args.length sc);have hB:=fun (g:Nat) (hg:g≠w.heap.size)=>aAw (w:=w5) hg (.int .i64 k) (.string (bs op)) (.int .i64 v0) (.int .i64 v1) (.string (bs v2)) (.string (bs tb)) (.string (bs nm)) (.int .i64 sl) (.bool nt) (.bool ds) (.slice sa args.length sc);have hK6:=(KeepG.refl (S:=fun b=>b=w.heap.size∨b=w.heap.size+1∨b=w.heap.size+2) (w:=w5)).set11 (.inl rfl) (.int .i64 k) (.string (bs op)) (.int .i64 v0) (.int .i64 v1) (.string (bs v2)) (.string (bs tb)) (.string (bs nm)) (.int .i64 sl) (.bool nt) (.bool ds) (.slice sa args.length sc);generalize hWf:World.setCell _ ⟨w.heap.size,10,none⟩ _=W6 at hA hB hK6 ⊢
  have hz6:W6.heap.size=w5.heap.size:=by rw[←hWf]; simp
  clear hWf p0 p1 p2 p3 p4 p5 p6 p7 p8 p9 p10 pf;obtain⟨p0,p1,p2,p3,p4,p5,p6,p7,p8,p9,p10,pf⟩:=aAf hA;have h56:=(hB _ (by omega)).trans h55;have h66:=(hB _ (by omega)).trans h65;have h76:=(hB _ (by omega)).trans hP5.cell;have hx6:GX (fun b=>b<w.heap.size+4) (.mk k op (v0,v1,v2) tb nm sl nt ds args) (.agg (xA k op v0 v1 v2 tb nm sl nt ds (.slice sa args.length sc))) W6:=hx.step ⟨fun b hn hlt=>hB b (by have : ¬ b<W4.heap.size:=hn; omega),fun b hb=>.inl (by show b<W4.heap.size; omega),by omega⟩
  have hG6:Glo W6:=fun g hgl=>by
   obtain⟨m,hm⟩:=hg g hgl;have hb:=World.block_lt_of_cell? _ _ hm;have hb:g<w.heap.size:=hb;refine⟨m,?_⟩;rw[←hm];unfold World.cell?;rw[hB g (by omega),hk.heap g (by omega) (by omega),hB4.block _ hb]
  have hD:=FnC.calls aRK (aQw _ hfv) W6 (fun b=>b<w.heap.size+4) [.agg (xA k op v0 v1 v2 tb nm sl nt ds (.slice sa args.length sc))] hG6 (fun b hb=>by have hb:b<w.heap.size+4:=hb; omega) (by simp only[DVRs,and_true]; exact hx6);go_wp2_with fail;refine Calls.mono hD ?_;rintro e' w7 ⟨vd,rfl,hd,hB7⟩;cases hd;have h47:=(hB7.block _ (by omega)).trans hA;have h57:=(hB7.block _ (by omega)).trans h56;have h67:=(hB7.block _ (by omega)).trans h66;have h77:=(hB7.block _ (by omega)).trans h76;have hz7:=hB7.size;have hK7:=hK6.below hB7;have hx7:=hx6.step (X':=fun b=>b<w.heap.size+4) ⟨fun b hn hlt=>hB7.block b hlt,fun b hb=>.inl hb,hz7⟩;clear hD p0 p1 p2 p3 p4 p5 p6 p7 p8 p9 p10 pf hA hB hK6 h56 h66 h76 hx6 hx;obtain⟨p0,p1,p2,p3,p4,p5,p6,p7,p8,p9,p10,pf⟩:=aAf h47
  have a5:w7.cell? ⟨w.heap.size+1,0,none⟩=some (.int .i64 0):=by simp[World.cell?,h57]
  have f5 : ∀ o,w7.frozen? ⟨w.heap.size+1,o,none⟩=false:=fun o=>by simp[World.frozen?,h57]
  have a6:w7.cell? ⟨w.heap.size+1+1,0,none⟩=some (.int .i64 0):=by simp[World.cell?,h67]
  have f6 : ∀ o,w7.frozen? ⟨w.heap.size+1+1,o,none⟩=false:=fun o=>by simp[World.frozen?,h67]
  have a7:w7.cell? ⟨w.heap.size+1+1+1,1,none⟩=some (.int .i64 (j:Int)):=by simp[World.cell?,h77]
  generalize hdp:aFc (.mk k op (v0,v1,v2) tb nm sl nt ds args)=dp;by_cases hd:24<dp
  · have hA:=aBD h47 (.int .i64 0) (.string ⟨#[]⟩) (.int .i64 0) (.int .i64 0) (.string ⟨#[]⟩) (.string ⟨#[]⟩) (.string ⟨#[]⟩) (.int .i64 0) (.bool false) (.bool false) (.slice none 0 0);have hB:=fun (g:Nat) (hg:g≠w.heap.size)=>aAw (w:=w7) hg (.int .i64 0) (.string ⟨#[]⟩) (.int .i64 0) (.int .i64 0) (.string ⟨#[]⟩) (.string ⟨#[]⟩) (.string ⟨#[]⟩) (.int .i64 0) (.bool false) (.bool false) (.slice none 0 0);have hK8:=hK7.set11 (.inl rfl) (.int .i64 0) (.string ⟨#[]⟩) (.int .i64 0) (.int .i64 0) (.string ⟨#[]⟩) (.string ⟨#[]⟩) (.string ⟨#[]⟩) (.int .i64 0) (.bool false) (.bool false) (.slice none 0 0);go_wp2_with fail;generalize hWf:World.setCell _ ⟨w.heap.size,10,none⟩ _=W8 at hA hB hK8 ⊢
    have hz8:W8.heap.size=w7.heap.size:=by rw[←hWf]; simp
    clear hWf;have h58:=(hB _ (by omega)).trans h57;have h68:=(hB _ (by omega)).trans h67;have e5:=Go.heap_setCell_same W8 (w.heap.size+1) 0 _ _ (.int .i64 (i:Int)) h58;have o5 : ∀ g,g≠w.heap.size+1→(W8.setCell ⟨w.heap.size+1,0,none⟩ (.int .i64 (i:Int))).heap[g]? = W8.heap[g]?:=fun g hg=>Below.heap_setCell _ _ _ _ hg;have hK9:=hK8.set (g:=w.heap.size+1) (.inr (.inl rfl)) 0 (.int .i64 (i:Int));generalize hWg:World.setCell W8 ⟨w.heap.size+1,0,none⟩ _=W9 at e5 o5 hK9 ⊢
    have hz9:W9.heap.size=W8.heap.size:=by rw[←hWg]; simp
    clear hWg;have h69:=(o5 _ (by omega)).trans h68;have e6:=Go.heap_setCell_same W9 (w.heap.size+2) 0 _ _ (.int .i64 12) h69;have o6 : ∀ g,g≠w.heap.size+2→(W9.setCell ⟨w.heap.size+2,0,none⟩ (.int .i64 12)).heap[g]? = W9.heap[g]?:=fun g hg=>Below.heap_setCell _ _ _ _ hg;have hK10:=hK9.set (g:=w.heap.size+2) (.inr (.inr rfl)) 0 (.int .i64 12);generalize hWh:World.setCell W9 ⟨w.heap.size+2,0,none⟩ _=W10 at e6 o6 hK10 ⊢
    have hz10:W10.heap.size=W9.heap.size:=by rw[←hWh]; simp
    clear hWh;have h48:=(o6 _ (by omega)).trans ((o5 _ (by omega)).trans hA);have h58:=(o6 _ (by omega)).trans e5;have h68:=e6;simp only[List.setIfInBounds_toArray,List.set_cons_zero] at h58 h68;refine leaves_cons (f:=36) (args:=#[.pointer (some ⟨w.heap.size,0,none⟩),.pointer (some ⟨w.heap.size+1,0,none⟩),.pointer (some ⟨w.heap.size+2,0,none⟩)]) (by simp) (by simp[go_sem]) ?_;refine (aIm).mono ?_;rintro e u' w9 ⟨rfl,rfl,hB9⟩;have k4:=(hB9.block _ (by omega)).trans h48;have k5:=(hB9.block _ (by omega)).trans h58;have k6:=(hB9.block _ (by omega)).trans h68;obtain⟨y0,y1,y2,y3,y4,y5,y6,y7,y8,y9,y10,_⟩:=aAf k4
    have p5:w9.cell? ⟨w.heap.size+1,0,none⟩=some (.int .i64 (i:Int)):=by simp[World.cell?,k5]
    have p6:w9.cell? ⟨w.heap.size+1+1,0,none⟩=some (.int .i64 12):=by simp[World.cell?,k6]
    simp[Leaves,settle,results,Tryz.results23,go_sem,y0,y1,y2,y3,y4,y5,y6,y7,y8,y9,y10,p5,p6]
    have hR:aBc l i=(nulX,i,12):=by unfold aBc; rw[hr]; simp only; rw[hdp,if_pos hd]
    rw[hR];exact⟨aDS (X':=X) (GX.mk' (.nil none)) (fun b hb=>hb),aHn hB4 hk (hK10.below hB9) (by omega) (fun b hb h=>by omega)⟩
  · go_wp2_with fail;have hH0:aO1 w.heap.size (xA k op v0 v1 v2 tb nm sl nt ds (.slice sa args.length sc)) (w.heap.size+3) l la lc j w7 false w7.drew:=⟨KeepG.refl.drew,h47,h57,h67,h77⟩;rw[←wpIn_wide (n:=0)]
    refine aAt (by kernel_rfl) (fun _=>trivial) rfl (fun f args w R h=>callsIn_wide.2 h) (by kernel_rfl)
     (fun (r:Unit) q=>match q with | 0=>.agg (xA k op v0 v1 v2 tb nm sl nt ds (.slice sa args.length sc)) | 1=>.pointer (some ⟨w.heap.size+3,0,none⟩) | 2=>.pointer (some ⟨w.heap.size+3,0,none⟩) | 3=>.pointer (some ⟨w.heap.size+3,1,none⟩) | 4=>.int .i64 (j:Int) | _=>undef)
     (fun r D w'=>aO1 w.heap.size (xA k op v0 v1 v2 tb nm sl nt ds (.slice sa args.length sc)) (w.heap.size+3) l la lc j w7 (D 6) w') () hH0 ?steps ?rdone
    case steps =>
     intro DD q o r aa W3 hop hDq hcl hdep hA hH;have hq:q<8:=(Array.getElem?_eq_some_iff.1 hop).1
     have:q=0∨q=1∨q=2∨q=3∨q=4∨q=5∨q=6∨q=7:=by omega
     rcases this with rfl | rfl | rfl | rfl | rfl | rfl | rfl | rfl
     all_goals (simp only[List.getElem?_toArray,List.getElem?_cons_zero,List.getElem?_cons_succ,Option.some.injEq] at hop; subst hop)
     · have e4:=hA.keep 4 (by kernel_rfl);obtain⟨z0,z1,z2,z3,z4,z5,z6,z7,z8,z9,z10,_⟩:=aAf hH.2.1;exact .inl (.inl ⟨r,W3,by simp,(by simp[execOp,go_sem,e4,z0,z1,z2,z3,z4,z5,z6,z7,z8,z9,z10]),fun _ _=>rfl,hH⟩)
     · have e7:=hA.keep 7 (by kernel_rfl);exact .inl (.inl ⟨r,W3,by simp,(by simp[execOp,go_sem,e7]),fun _ _=>rfl,hH⟩)
     · have e31:=hA.was 1 31 rfl (hdep ⟨1,.data⟩ (by simp) rfl) (by simp);exact .inl (.inl ⟨r,W3,by simp,(by simp[execOp,go_sem,e31]),fun _ _=>rfl,hH⟩)
     · have e32:=hA.was 2 32 rfl (hdep ⟨2,.data⟩ (by simp) rfl) (by simp);exact .inl (.inl ⟨r,W3,by simp,(by simp[execOp,go_sem,e32]),fun _ _=>rfl,hH⟩)
     · have e33:=hA.was 3 33 rfl (hdep ⟨3,.data⟩ (by simp) rfl) (by simp)
       have z7:W3.cell? ⟨w.heap.size+3,1,none⟩=some (.int .i64 (j:Int)):=by simp[World.cell?,hH.2.2.2.2]
       exact .inl (.inl ⟨r,W3,by simp,(by simp[execOp,go_sem,e33,z7]),fun _ _=>rfl,hH⟩)
     · have e4:=hA.keep 4 (by kernel_rfl);have e30:=hA.was 0 30 rfl (hdep ⟨0,.data⟩ (by simp) rfl) (by simp);obtain⟨hK,g4,g5,g6,g7⟩:=hH;obtain⟨z0,z1,z2,z3,z4,z5,z6,z7,z8,z9,z10,zf⟩:=aAf g4;refine .inr (.inl ⟨_,rfl,by simp,(by simp[execOp,go_sem,e4,e30,z0,z1,z2,z3,z4,z5,z6,z7,z8,z9,z10,zf]; rfl),?_⟩);have hA:=aBD g4 (.int .i64 k) (.string (bs op)) (.int .i64 v0) (.int .i64 v1) (.string (bs v2)) (.string (bs tb)) (.string (bs nm)) (.int .i64 sl) (.bool nt) (.bool ds) (.slice sa args.length sc);have hB:=fun (g:Nat) (hg:g≠w.heap.size)=>aAw (w:=W3) hg (.int .i64 k) (.string (bs op)) (.int .i64 v0) (.int .i64 v1) (.string (bs v2)) (.string (bs tb)) (.string (bs nm)) (.int .i64 sl) (.bool nt) (.bool ds) (.slice sa args.length sc);exact⟨hK.set11 (S:=(fun b=>b=w.heap.size∨b=w.heap.size+1∨b=w.heap.size+2)) (.inl rfl) (.int .i64 k) (.string (bs op)) (.int .i64 v0) (.int .i64 v1) (.string (bs v2)) (.string (bs tb)) (.string (bs nm)) (.int .i64 sl) (.bool nt) (.bool ds) (.slice sa args.length sc),hA,(hB _ (by omega)).trans g5,(hB _ (by omega)).trans g6,(hB _ (by omega)).trans g7⟩
     · have e5:=hA.keep 5 (by kernel_rfl);have e34:=hA.was 4 34 rfl (hdep ⟨4,.data⟩ (by simp) rfl) (by simp);obtain⟨hK,g4,g5,g6,g7⟩:=hH;rw[hDq] at g5
       have z0:W3.cell? ⟨w.heap.size+1,0,none⟩=some (.int .i64 0):=by simp[World.cell?,g5]
       have zf : ∀ o,W3.frozen? ⟨w.heap.size+1,o,none⟩=false:=fun o=>by simp[World.frozen?,g5]
       refine .inr (.inl ⟨_,rfl,by simp,(by simp[execOp,go_sem,e5,e34,z0,zf]; rfl),?_⟩);have hB : ∀ g,g≠w.heap.size+1→(W3.setCell ⟨w.heap.size+1,0,none⟩ (.int .i64 (j:Int))).heap[g]? = W3.heap[g]?:=fun g hg=>Below.heap_setCell _ _ _ _ hg;have hA:=Go.heap_setCell_same W3 (w.heap.size+1) 0 _ _ (.int .i64 (j:Int)) g5;show aO1 w.heap.size _ (w.heap.size+3) l la lc j w7 true _;exact⟨hK.set (S:=(fun b=>b=w.heap.size∨b=w.heap.size+1∨b=w.heap.size+2)) (.inr (.inl rfl)) _ _,(hB _ (by omega)).trans g4,by simpa using hA,(hB _ (by omega)).trans g6,(hB _ (by omega)).trans g7⟩
     · have e6:=hA.keep 6 (by kernel_rfl);obtain⟨hK,g4,g5,g6,g7⟩:=hH
       have z0:W3.cell? ⟨w.heap.size+2,0,none⟩=some (.int .i64 0):=by simp[World.cell?,g6]
       have zf : ∀ o,W3.frozen? ⟨w.heap.size+2,o,none⟩=false:=fun o=>by simp[World.frozen?,g6]
       refine .inr (.inl ⟨_,rfl,by simp,(by simp[execOp,go_sem,e6,z0,zf]; rfl),?_⟩);have hB : ∀ g,g≠w.heap.size+2→(W3.setCell ⟨w.heap.size+2,0,none⟩ (.int .i64 0)).heap[g]? = W3.heap[g]?:=fun g hg=>Below.heap_setCell _ _ _ _ hg;have hA:=Go.heap_setCell_same W3 (w.heap.size+2) 0 _ _ (.int .i64 0) g6;exact⟨hK.set (S:=(fun b=>b=w.heap.size∨b=w.heap.size+1∨b=w.heap.size+2)) (.inr (.inr rfl)) _ _,(hB _ (by omega)).trans g4,(hB _ (by omega)).trans g5,by simpa using hA,(hB _ (by omega)).trans g7⟩
    case rdone =>
     intro DD r aa W4 hall hA hH;have ha:=hA.eq (goodR.apart (by kernel_rfl)) hall;simp only[aCS,Act.put,List.setIfInBounds_toArray,List.set_cons_zero,List.set_cons_succ] at ha;subst ha;rw[hall 6 (by decide)] at hH;obtain⟨hKr,h48,h58,h68,h78⟩:=hH;simp only at h58;clear hA hall;have hz8:=hKr.size;gi_wp2;go_wp2_with fail;refine leaves_cons (f:=36) (args:=#[.pointer (some ⟨w.heap.size,0,none⟩),.pointer (some ⟨w.heap.size+1,0,none⟩),.pointer (some ⟨w.heap.size+2,0,none⟩)]) (by simp) (by simp[go_sem]) ?_;refine (aIm).mono ?_;rintro e u' w9 ⟨rfl,rfl,hB9⟩;have k4:=(hB9.block _ (by omega)).trans h48;have k5:=(hB9.block _ (by omega)).trans h58;have k6:=(hB9.block _ (by omega)).trans h68;obtain⟨y0,y1,y2,y3,y4,y5,y6,y7,y8,y9,y10,_⟩:=aAf k4
     have p5:w9.cell? ⟨w.heap.size+1,0,none⟩=some (.int .i64 (j:Int)):=by simp[World.cell?,k5]
     have p6:w9.cell? ⟨w.heap.size+1+1,0,none⟩=some (.int .i64 0):=by simp[World.cell?,k6]
     simp[Leaves,settle,results,Tryz.results23,go_sem,y0,y1,y2,y3,y4,y5,y6,y7,y8,y9,y10,p5,p6]
     have hR:aBc l i=(.mk k op (v0,v1,v2) tb nm sl nt ds args,j,0):=by unfold aBc; rw[hr]; simp only; rw[hdp,if_neg (by omega)]
     rw[hR];have hx9:=hx7.step (X':=fun b=>b<w.heap.size+4) (((hKr.below hB9).stays (fun b hb=>by omega) (fun b hb=>.inl hb)));exact⟨aDS (X:=X) hx9 (fun b hb=>by have:=hX b hb; show b<w.heap.size+4; omega),aHn hB4 hk (hK7.trans (hKr.below hB9)) (by omega) (fun b hb h=>by omega)⟩
end
end Go.Proofs.YtcdeimjlgpfjiaaGreatDoor
