/- The parser's calls. Condition: what its expressions come to. -/
import Derived.Test.YtcdeimjlgpfjiaaGreatDoorG19
set_option linter.unusedSimpArgs false
set_option linter.unusedVariables false
namespace Go.Proofs.YtcdeimjlgpfjiaaGreatDoor
section
open Go.RowKit Go.IntWalk
attribute [local go_sem] Oper.semAt_some
section
variable {l:List Tok} {pb:Nat} {la:Option Addr} {lc:Nat}
set_option maxHeartbeats 16000000 in
set_option maxRecDepth 100000 in
theorem aKV {ex:Nat→PR Xp} (hex:aAY l pb la lc 37 ex) (hgt : ∀ i e j,ex i = .ok e j→i<j):aJk l pb la lc 155 (aFA l ex):=by
 intro W i op hP hsm hR;generalize hRR:aFA l ex op i=R at hR ⊢;unfold aFA at hRR;have HRR:=Lib.hid hRR;clear hRR;obtain⟨W1,hW1⟩ : ∃ W1,W1=W.alloc (.cells z11 26):=⟨_,rfl⟩
 have hK1:KeepP pb W W1:=by rw[hW1]; exact (KeepP.refl pb W).alloc _
 have hP1:PW l pb la lc W1 i:=by rw[hW1]; exact hP.alloc _
 have hz1:W1.heap.size=W.heap.size+1:=by rw[hW1]; simp
 have hpl:=hP.lt
 have hb1:W1.heap[W.heap.size]? = some (.cells z11 26 (0,0)):=by rw[hW1]; exact aAl _ _
 by_cases hag:op=[99,111,117,110,116]∨op=[115,117,109]∨op=[109,105,110]∨op=[109,97,120]∨op=[97,118,103]∨op=[116,111,116,97,108]
 · obtain⟨W2,hW2,hk2,hP2,hb2,hn2,hz2⟩:=aAJ hP1 hb1 #[.int .i64 11,.string (bs op),.int .i64 0,.int .i64 0,.string ⟨#[]⟩,.string ⟨#[]⟩,.string ⟨#[]⟩,.int .i64 0,.bool false,.bool false,.slice none 0 0] 26;rw[hz1] at hn2;have hK2:=hK1.trans hk2;by_cases hcn:op=[99,111,117,110,116]
   · have f0:((bs op).toList==[99,111,117,110,116])=true:=by rw[aAh,hcn]; rfl
     have HCN:=Lib.hid hcn;have HAG:=Lib.hid hag;clear hcn hag;have hT:=aCk hP2 [42];obtain⟨b,hb⟩ : ∃ b,b=isP l i 4 [42]:=⟨_,rfl⟩;rw[←hb] at hT;have HB3:=Lib.hid hb;clear hb
     go_enter Tryz.func155,Tryz.ntmps155
     go_wp2_with fail;rw[←hW1,←hW2];clear hW1 hW2;refine Calls.mono hT ?_;rintro e w3 ⟨rfl,hk3,hP3⟩;have hb3:=aAd hk3 hb2 (by omega);have hz3:=hk3.size;have hK3:=hK2.trans hk3;clear hT
     cases b with
     | true =>
      have hP3:PW l pb la lc w3 (i+1):=hP3;have hn3:=aAd hk3 hn2 (by omega)
      have hRe:R=(aAB l 4 [41] (i+1)).bind fun _ j=>.ok (.mk 11 op nul [] [] 0 false false []) j:=by rw[←HRR.out,if_pos HAG.out,if_pos ⟨HCN.out,HB3.out.symm⟩]
      have HRe:=Lib.hid hRe;clear hRe;have hM:=aAK hP3 4 [41];go_wp2_with fail
      cases hm:aAB l 4 [41] (i+1) with
      | out =>
       unfold aAB at hm;split at hm <;> cases hm
      | stop q =>
       rw[hm] at hM;refine Calls.mono hM ?_;rintro e w23 ⟨rfl,hk23⟩;refine⟨rfl,?_⟩;rw[HRe.out,hm];exact⟨rfl,hK3.trans hk23⟩
      | ok u q =>
       rw[hm] at hM;refine Calls.mono hM ?_;rintro e w23 ⟨⟨v,rfl,hv⟩,hk23,hP23⟩;subst hv;have hb23:=aAd hk23 hb3 (by omega);have hn23:=aAd hk23 hn3 (by omega);have hz23:=hk23.size;obtain⟨r0,r1,r2,r3,r4,r5,r6,r7,r8,r9,r10,_⟩:=aAf hn23;have hg:GX (fun b=>b≤W.heap.size) (.mk 11 op (0,0,[]) [] [] 0 false false []) (.agg (xA 11 op 0 0 [] [] [] 0 false false (.slice none 0 0))) w23:=GX.mk' (.nil none);obtain⟨p0,p1,p2,p3,p4,p5,p6,p7,p8,p9,p10,pf⟩:=aAf hb23;go_wp2_with fail
       exact aAF hb23 (fun _ y0 y1 y2 y3 y4 y5 y6 y7 y8 y9 y10=>by simp[results,Tryz.results155,go_sem,y0,y1,y2,y3,y4,y5,y6,y7,y8,y9,y10]) rfl hP (hK3.trans hk23) hP23 (hg) (by
        rw[HRe.out,hm]
        try rfl)
     | false =>
      have hP3:PW l pb la lc w3 i:=hP3;have hn3:=aAd hk3 hn2 (by omega);have hT:=aA4 hP3 [100,105,115,116,105,110,99,116];obtain⟨b,hb⟩ : ∃ b,b=isP l i 2 [100,105,115,116,105,110,99,116]:=⟨_,rfl⟩;rw[←hb] at hT;have HB4:=Lib.hid hb;clear hb;go_wp2_with fail;refine Calls.mono hT ?_;rintro e w4 ⟨rfl,hk4,hP4⟩;have hb4:=aAd hk4 hb3 (by omega);have hz4:=hk4.size;have hK4:=hK3.trans hk4;clear hT;have hn4:=aAd hk4 hn3 (by omega)
      have hRe:R=(ex (nx i b)).bind fun e j=>(aAB l 4 [41] j).bind fun _ k=>.ok (.mk 11 op nul [] [] 0 false b [e]) k:=by
       rw[←HRR.out,if_pos HAG.out,if_neg (fun e=>(by rw[←HB3.out] at e; exact absurd e.2 (by decide))),←HB4.out];rfl
      have HRe:=Lib.hid hRe;clear hRe;obtain⟨W5,hW5⟩ : ∃ W5,W5=w4.setCell ⟨(W.heap.size+1),9,none⟩ (.bool b):=⟨_,rfl⟩
      have hn5:W5.heap[(W.heap.size+1)]? = some (.cells (#[.int .i64 11,.string (bs op),.int .i64 0,.int .i64 0,.string ⟨#[]⟩,.string ⟨#[]⟩,.string ⟨#[]⟩,.int .i64 0,.bool false,.bool b,.slice none 0 0]) 26 (0,0)):=by
       have:=Go.heap_setCell_same w4 (W.heap.size+1) 9 _ _ (.bool b) hn4
       rw[hW5];simpa using this
      have hK5:KeepP pb W W5:=by rw[hW5]; exact hK4.set (by omega) _ _
      have ho5 : ∀ b,b≠(W.heap.size+1)→W5.heap[b]? = w4.heap[b]?:=fun b hb=>by rw[hW5]; exact Below.heap_setCell _ _ _ _ hb
      have hz5:W5.heap.size=w4.heap.size:=by rw[hW5]; simp
      have hP5:PW l pb la lc W5 (nx i b):=hP.kept hK5 ((ho5 pb (by omega)).trans hP4.cell) hP4.le;have hb5:=(ho5 W.heap.size (by omega)).trans hb4;obtain⟨u0,u1,u2,u3,u4,u5,u6,u7,u8,u9,u10,uf⟩:=aAf hn4;have hC:=hex W5 (nx i b) hP5;go_wp2_with fail;rw[←hW5];clear hW5 u0 u1 u2 u3 u4 u5 u6 u7 u8 u9 u10 uf
      cases hr:ex (nx i b) with
      | out=>exact absurd (by rw[HRe.out,hr]; rfl) hR
      | stop j =>
       rw[hr] at hC;refine Calls.mono (hC (fun h=>by cases h)) ?_;rintro e w20 ⟨rfl,hk⟩;refine⟨rfl,?_⟩;rw[HRe.out,hr];exact⟨rfl,hK5.trans hk⟩
      | ok e j =>
       rw[hr] at hC;refine Calls.mono (hC (fun h=>by cases h)) ?_;rintro e' w20 ⟨⟨v,rfl,hx⟩,hk20,hP20⟩;obtain⟨k,op2,⟨v0,v1,v2⟩,tb,nm,sl,nt,ds,args⟩:=e;obtain⟨sa,sc,rfl,hs⟩:=hx.form;have hb20:=aAd hk20 hb5 (by omega);have hn20:=aAd hk20 hn5 (by omega);have hz20:=hk20.size;have hK20:=hK5.trans hk20;obtain⟨W21,hW21,hk21,hP21,hb21,hc21,hz21⟩:=aAJ hP20 hb20 (xA k op2 v0 v1 v2 tb nm sl nt ds (.slice sa args.length sc)) 26;have hK21:=hK20.trans hk21;have hn21:=aAd hk21 hn20 (by omega);obtain⟨W22,hW22⟩ : ∃ W22,W22=W21.setCell ⟨(W.heap.size+1),10,none⟩ (.slice (some ⟨w20.heap.size,0,none⟩) 1 1):=⟨_,rfl⟩
       have hn22:W22.heap[(W.heap.size+1)]? = some (.cells (#[.int .i64 11,.string (bs op),.int .i64 0,.int .i64 0,.string ⟨#[]⟩,.string ⟨#[]⟩,.string ⟨#[]⟩,.int .i64 0,.bool false,.bool b,.slice (some ⟨w20.heap.size,0,none⟩) 1 1]) 26 (0,0)):=by
        have:=Go.heap_setCell_same W21 (W.heap.size+1) 10 _ _ (.slice (some ⟨w20.heap.size,0,none⟩) 1 1) hn21
        rw[hW22];simpa using this
       have hK22:KeepP pb W W22:=by rw[hW22]; exact hK21.set (by omega) _ _
       have ho22 : ∀ b,b≠(W.heap.size+1)→W22.heap[b]? = W21.heap[b]?:=fun b hb=>by rw[hW22]; exact Below.heap_setCell _ _ _ _ hb
       have hz22:W22.heap.size=W21.heap.size:=by rw[hW22]; simp
       have hP22:PW l pb la lc W22 (j):=hP.kept hK22 ((ho22 pb (by omega)).trans hP21.cell) hP21.le;have hb22:=(ho22 W.heap.size (by omega)).trans hb21;obtain⟨u0,u1,u2,u3,u4,u5,u6,u7,u8,u9,u10,uf⟩:=aAf hn21
       have hcv:CVR W22 (fun b=>b≤(W.heap.size+1)) (.vs (xcs [.mk k op2 (v0,v1,v2) tb nm sl nt ds args])) (.slice (some ⟨w20.heap.size,0,none⟩) 1 1) :=
        aBp (l:=[.mk k op2 (v0,v1,v2) tb nm sl nt ds args]) ((ho22 _ (by omega)).trans hc21) (by omega) (by
         rw[List.flatMap_cons,List.flatMap_nil,List.append_nil];exact aAy (X':=fun b=>b≤(W.heap.size+1)) ⟨fun b hn hlt=>(ho22 b (by omega)).trans (hk21.heap b hlt (by omega)),fun b hb=>.inl (by omega),by omega⟩ hx.cells)
       have hM:=aAK hP22 4 [41];subst hW21;go_wp2_with fail;rw[←hW22];clear hW22 u0 u1 u2 u3 u4 u5 u6 u7 u8 u9 u10 uf
       cases hm:aAB l 4 [41] j with
       | out =>
        unfold aAB at hm;split at hm <;> cases hm
       | stop q =>
        rw[hm] at hM;refine Calls.mono hM ?_;rintro e w23 ⟨rfl,hk23⟩;refine⟨rfl,?_⟩;rw[HRe.out,hr];simp only[PR.bind,hm];exact⟨rfl,hK22.trans hk23⟩
       | ok u q =>
        rw[hm] at hM;refine Calls.mono hM ?_;rintro e w23 ⟨⟨v,rfl,hv⟩,hk23,hP23⟩;subst hv;have hb23:=aAd hk23 hb22 (by omega);have hn23:=aAd hk23 hn22 (by omega);have hz23:=hk23.size;obtain⟨r0,r1,r2,r3,r4,r5,r6,r7,r8,r9,r10,_⟩:=aAf hn23
        have hg:GX (fun b=>b≤W.heap.size) (.mk 11 op (0,0,[]) [] [] 0 false b [.mk k op2 (v0,v1,v2) tb nm sl nt ds args]) (.agg (xA 11 op 0 0 [] [] [] 0 false b (.slice (some ⟨w20.heap.size,0,none⟩) 1 1))) w23 :=
         (GX.mk' hcv).step ⟨fun b hn hlt=>hk23.heap b hlt (by omega),fun b hb=>.inl (by omega),hz23⟩
        obtain⟨p0,p1,p2,p3,p4,p5,p6,p7,p8,p9,p10,pf⟩:=aAf hb23;go_wp2_with fail
        exact aAF hb23 (fun _ y0 y1 y2 y3 y4 y5 y6 y7 y8 y9 y10=>by simp[results,Tryz.results155,go_sem,y0,y1,y2,y3,y4,y5,y6,y7,y8,y9,y10]) rfl hP (hK22.trans hk23) hP23 (hg) (by
         rw[HRe.out,hr];simp only[PR.bind,hm]
         try rfl)
   · have hag2:op=[115,117,109]∨op=[109,105,110]∨op=[109,97,120]∨op=[97,118,103]∨op=[116,111,116,97,108]:=by
      rcases hag with h | h
      · exact absurd h hcn
      · exact h
     rcases hag2 with h | h | h | h | h
     all_goals
      first
      | (have f0:((bs op).toList==[99,111,117,110,116])=true:=by rw[aAh,h]; rfl)
      | (have f0:((bs op).toList==[99,111,117,110,116])=false:=by rw[aAh,h]; rfl)
      first
      | (have f1:((bs op).toList==[115,117,109])=true:=by rw[aAh,h]; rfl)
      | (have f1:((bs op).toList==[115,117,109])=false:=by rw[aAh,h]; rfl)
      first
      | (have f2:((bs op).toList==[109,105,110])=true:=by rw[aAh,h]; rfl)
      | (have f2:((bs op).toList==[109,105,110])=false:=by rw[aAh,h]; rfl)
      first
      | (have f3:((bs op).toList==[109,97,120])=true:=by rw[aAh,h]; rfl)
      | (have f3:((bs op).toList==[109,97,120])=false:=by rw[aAh,h]; rfl)
      first
      | (have f4:((bs op).toList==[97,118,103])=true:=by rw[aAh,h]; rfl)
      | (have f4:((bs op).toList==[97,118,103])=false:=by rw[aAh,h]; rfl)
      first
      | (have f5:((bs op).toList==[116,111,116,97,108])=true:=by rw[aAh,h]; rfl)
      | (have f5:((bs op).toList==[116,111,116,97,108])=false:=by rw[aAh,h]; rfl)
      have HCN:=Lib.hid hcn;have HAG:=Lib.hid hag;clear h hcn hag;have hT:=aA4 hP2 [100,105,115,116,105,110,99,116];obtain⟨b,hb⟩ : ∃ b,b=isP l i 2 [100,105,115,116,105,110,99,116]:=⟨_,rfl⟩;rw[←hb] at hT;have HB3:=Lib.hid hb;clear hb
      go_enter Tryz.func155,Tryz.ntmps155
      go_wp2_with fail;rw[←hW1,←hW2];clear hW1 hW2;refine Calls.mono hT ?_;rintro e w3 ⟨rfl,hk3,hP3⟩;have hb3:=aAd hk3 hb2 (by omega);have hz3:=hk3.size;have hK3:=hK2.trans hk3;clear hT;have hn3:=aAd hk3 hn2 (by omega)
      have hRe:R=(ex (nx i b)).bind fun e j=>(aAB l 4 [41] j).bind fun _ k=>.ok (.mk 11 op nul [] [] 0 false b [e]) k:=by
       rw[←HRR.out,if_pos HAG.out,if_neg (fun e=>HCN.out e.1),←HB3.out];rfl
      have HRe:=Lib.hid hRe;clear hRe;obtain⟨W4,hW4⟩ : ∃ W4,W4=w3.setCell ⟨(W.heap.size+1),9,none⟩ (.bool b):=⟨_,rfl⟩
      have hn4:W4.heap[(W.heap.size+1)]? = some (.cells (#[.int .i64 11,.string (bs op),.int .i64 0,.int .i64 0,.string ⟨#[]⟩,.string ⟨#[]⟩,.string ⟨#[]⟩,.int .i64 0,.bool false,.bool b,.slice none 0 0]) 26 (0,0)):=by
       have:=Go.heap_setCell_same w3 (W.heap.size+1) 9 _ _ (.bool b) hn3
       rw[hW4];simpa using this
      have hK4:KeepP pb W W4:=by rw[hW4]; exact hK3.set (by omega) _ _
      have ho4 : ∀ b,b≠(W.heap.size+1)→W4.heap[b]? = w3.heap[b]?:=fun b hb=>by rw[hW4]; exact Below.heap_setCell _ _ _ _ hb
      have hz4:W4.heap.size=w3.heap.size:=by rw[hW4]; simp
      have hP4:PW l pb la lc W4 (nx i b):=hP.kept hK4 ((ho4 pb (by omega)).trans hP3.cell) hP3.le;have hb4:=(ho4 W.heap.size (by omega)).trans hb3;obtain⟨u0,u1,u2,u3,u4,u5,u6,u7,u8,u9,u10,uf⟩:=aAf hn3;have hC:=hex W4 (nx i b) hP4;go_wp2_with fail;rw[←hW4];clear hW4 u0 u1 u2 u3 u4 u5 u6 u7 u8 u9 u10 uf
      cases hr:ex (nx i b) with
      | out=>exact absurd (by rw[HRe.out,hr]; rfl) hR
      | stop j =>
       rw[hr] at hC;refine Calls.mono (hC (fun h=>by cases h)) ?_;rintro e w20 ⟨rfl,hk⟩;refine⟨rfl,?_⟩;rw[HRe.out,hr];exact⟨rfl,hK4.trans hk⟩
      | ok e j =>
       rw[hr] at hC;refine Calls.mono (hC (fun h=>by cases h)) ?_;rintro e' w20 ⟨⟨v,rfl,hx⟩,hk20,hP20⟩;obtain⟨k,op2,⟨v0,v1,v2⟩,tb,nm,sl,nt,ds,args⟩:=e;obtain⟨sa,sc,rfl,hs⟩:=hx.form;have hb20:=aAd hk20 hb4 (by omega);have hn20:=aAd hk20 hn4 (by omega);have hz20:=hk20.size;have hK20:=hK4.trans hk20;obtain⟨W21,hW21,hk21,hP21,hb21,hc21,hz21⟩:=aAJ hP20 hb20 (xA k op2 v0 v1 v2 tb nm sl nt ds (.slice sa args.length sc)) 26;have hK21:=hK20.trans hk21;have hn21:=aAd hk21 hn20 (by omega);obtain⟨W22,hW22⟩ : ∃ W22,W22=W21.setCell ⟨(W.heap.size+1),10,none⟩ (.slice (some ⟨w20.heap.size,0,none⟩) 1 1):=⟨_,rfl⟩
       have hn22:W22.heap[(W.heap.size+1)]? = some (.cells (#[.int .i64 11,.string (bs op),.int .i64 0,.int .i64 0,.string ⟨#[]⟩,.string ⟨#[]⟩,.string ⟨#[]⟩,.int .i64 0,.bool false,.bool b,.slice (some ⟨w20.heap.size,0,none⟩) 1 1]) 26 (0,0)):=by
        have:=Go.heap_setCell_same W21 (W.heap.size+1) 10 _ _ (.slice (some ⟨w20.heap.size,0,none⟩) 1 1) hn21
        rw[hW22];simpa using this
       have hK22:KeepP pb W W22:=by rw[hW22]; exact hK21.set (by omega) _ _
       have ho22 : ∀ b,b≠(W.heap.size+1)→W22.heap[b]? = W21.heap[b]?:=fun b hb=>by rw[hW22]; exact Below.heap_setCell _ _ _ _ hb
       have hz22:W22.heap.size=W21.heap.size:=by rw[hW22]; simp
       have hP22:PW l pb la lc W22 (j):=hP.kept hK22 ((ho22 pb (by omega)).trans hP21.cell) hP21.le;have hb22:=(ho22 W.heap.size (by omega)).trans hb21;obtain⟨u0,u1,u2,u3,u4,u5,u6,u7,u8,u9,u10,uf⟩:=aAf hn21
       have hcv:CVR W22 (fun b=>b≤(W.heap.size+1)) (.vs (xcs [.mk k op2 (v0,v1,v2) tb nm sl nt ds args])) (.slice (some ⟨w20.heap.size,0,none⟩) 1 1) :=
        aBp (l:=[.mk k op2 (v0,v1,v2) tb nm sl nt ds args]) ((ho22 _ (by omega)).trans hc21) (by omega) (by
         rw[List.flatMap_cons,List.flatMap_nil,List.append_nil];exact aAy (X':=fun b=>b≤(W.heap.size+1)) ⟨fun b hn hlt=>(ho22 b (by omega)).trans (hk21.heap b hlt (by omega)),fun b hb=>.inl (by omega),by omega⟩ hx.cells)
       have hM:=aAK hP22 4 [41];subst hW21;go_wp2_with fail;rw[←hW22];clear hW22 u0 u1 u2 u3 u4 u5 u6 u7 u8 u9 u10 uf
       cases hm:aAB l 4 [41] j with
       | out =>
        unfold aAB at hm;split at hm <;> cases hm
       | stop q =>
        rw[hm] at hM;refine Calls.mono hM ?_;rintro e w23 ⟨rfl,hk23⟩;refine⟨rfl,?_⟩;rw[HRe.out,hr];simp only[PR.bind,hm];exact⟨rfl,hK22.trans hk23⟩
       | ok u q =>
        rw[hm] at hM;refine Calls.mono hM ?_;rintro e w23 ⟨⟨v,rfl,hv⟩,hk23,hP23⟩;subst hv;have hb23:=aAd hk23 hb22 (by omega);have hn23:=aAd hk23 hn22 (by omega);have hz23:=hk23.size;obtain⟨r0,r1,r2,r3,r4,r5,r6,r7,r8,r9,r10,_⟩:=aAf hn23
        have hg:GX (fun b=>b≤W.heap.size) (.mk 11 op (0,0,[]) [] [] 0 false b [.mk k op2 (v0,v1,v2) tb nm sl nt ds args]) (.agg (xA 11 op 0 0 [] [] [] 0 false b (.slice (some ⟨w20.heap.size,0,none⟩) 1 1))) w23 :=
         (GX.mk' hcv).step ⟨fun b hn hlt=>hk23.heap b hlt (by omega),fun b hb=>.inl (by omega),hz23⟩
        obtain⟨p0,p1,p2,p3,p4,p5,p6,p7,p8,p9,p10,pf⟩:=aAf hb23;go_wp2_with fail
        exact aAF hb23 (fun _ y0 y1 y2 y3 y4 y5 y6 y7 y8 y9 y10=>by simp[results,Tryz.results155,go_sem,y0,y1,y2,y3,y4,y5,y6,y7,y8,y9,y10]) rfl hP (hK22.trans hk23) hP23 (hg) (by
         rw[HRe.out,hr];simp only[PR.bind,hm]
         try rfl)
 · have f0:((bs op).toList==[99,111,117,110,116])=false:=by rw[aAh]; exact beq_false_of_ne (fun e=>hag (.inl e))
   have f1:((bs op).toList==[115,117,109])=false:=by rw[aAh]; exact beq_false_of_ne (fun e=>hag (.inr (.inl e)))
   have f2:((bs op).toList==[109,105,110])=false:=by rw[aAh]; exact beq_false_of_ne (fun e=>hag (.inr (.inr (.inl e))))
   have f3:((bs op).toList==[109,97,120])=false:=by rw[aAh]; exact beq_false_of_ne (fun e=>hag (.inr (.inr (.inr (.inl e)))))
   have f4:((bs op).toList==[97,118,103])=false:=by rw[aAh]; exact beq_false_of_ne (fun e=>hag (.inr (.inr (.inr (.inr (.inl e))))))
   have f5:((bs op).toList==[116,111,116,97,108])=false:=by rw[aAh]; exact beq_false_of_ne (fun e=>hag (.inr (.inr (.inr (.inr (.inr (e)))))))
   have HAG:=Lib.hid hag;clear hag;obtain⟨W2,hW2,hk2,hP2,hb2,hn2,hz2⟩:=aAJ hP1 hb1 #[.int .i64 10,.string (bs op),.int .i64 0,.int .i64 0,.string ⟨#[]⟩,.string ⟨#[]⟩,.string ⟨#[]⟩,.int .i64 0,.bool false,.bool false,.slice none 0 0] 26;rw[hz1] at hn2;have hK2:=hK1.trans hk2;have hT:=aCk hP2 [41];obtain⟨b,hb⟩ : ∃ b,b=isP l i 4 [41]:=⟨_,rfl⟩;rw[←hb] at hT;have HB3:=Lib.hid hb;clear hb
   go_enter Tryz.func155,Tryz.ntmps155
   go_wp2_with fail;rw[←hW1,←hW2];clear hW1 hW2;refine Calls.mono hT ?_;rintro e w3 ⟨rfl,hk3,hP3⟩;have hb3:=aAd hk3 hb2 (by omega);have hz3:=hk3.size;have hK3:=hK2.trans hk3;clear hT
   cases b with
   | true =>
    have hP3:PW l pb la lc w3 (i+1):=hP3;have hn3:=aAd hk3 hn2 (by omega);obtain⟨r0,r1,r2,r3,r4,r5,r6,r7,r8,r9,r10,_⟩:=aAf hn3
    have hRe:R = .ok (.mk 10 op nul [] [] 0 false false []) (i+1):=by rw[←HRR.out,if_neg HAG.out,←HB3.out]; rfl
    have HRe:=Lib.hid hRe;clear hRe;have hg:GX (fun b=>b≤W.heap.size) (.mk 10 op (0,0,[]) [] [] 0 false false []) (.agg (xA 10 op 0 0 [] [] [] 0 false false (.slice none 0 0))) w3:=GX.mk' (.nil none);obtain⟨p0,p1,p2,p3,p4,p5,p6,p7,p8,p9,p10,pf⟩:=aAf hb3;go_wp2_with fail
    exact aAF hb3 (fun _ y0 y1 y2 y3 y4 y5 y6 y7 y8 y9 y10=>by simp[results,Tryz.results155,go_sem,y0,y1,y2,y3,y4,y5,y6,y7,y8,y9,y10]) rfl hP (hK3) hP3 (hg) (by
     rw[HRe.out]
     try rfl)
   | false =>
    have hP3:PW l pb la lc w3 i:=hP3;have hn3:=aAd hk3 hn2 (by omega)
    have hRe:R=(aCw l ex i).bind fun L j=>.ok (.mk 10 op nul [] [] 0 false false L) j:=by rw[←HRR.out,if_neg HAG.out,←HB3.out]; rfl
    have HRe:=Lib.hid hRe;clear hRe;go_wp2_with fail
    cases hr:aCw l ex i with
    | out=>exact absurd (by rw[HRe.out,hr]; rfl) hR
    | stop j =>
     have hC:=aEw hex hgt w3 i hP3 (by rw[hr]; exact fun h=>by cases h);rw[hr] at hC;refine Calls.mono hC ?_;rintro e w20 ⟨rfl,hk⟩;refine⟨rfl,?_⟩;rw[HRe.out,hr];exact⟨rfl,hK3.trans hk⟩
    | ok L j =>
     have hC:=aEw hex hgt w3 i hP3 (by rw[hr]; exact fun h=>by cases h);rw[hr] at hC;refine Calls.mono hC ?_;rintro e' w20 ⟨⟨v,rfl,hx⟩,hk20,hP20⟩;obtain⟨sa,sc,rfl⟩:=aCl hx;rw[aEc] at hx ⊢;have hb20:=aAd hk20 hb3 (by omega);have hn20:=aAd hk20 hn3 (by omega);have hz20:=hk20.size;have hK20:=hK3.trans hk20;obtain⟨W22,hW22⟩ : ∃ W22,W22=w20.setCell ⟨(W.heap.size+1),10,none⟩ (.slice sa L.length sc):=⟨_,rfl⟩
     have hn22:W22.heap[(W.heap.size+1)]? = some (.cells (#[.int .i64 10,.string (bs op),.int .i64 0,.int .i64 0,.string ⟨#[]⟩,.string ⟨#[]⟩,.string ⟨#[]⟩,.int .i64 0,.bool false,.bool false,.slice sa L.length sc]) 26 (0,0)):=by
      have:=Go.heap_setCell_same w20 (W.heap.size+1) 10 _ _ (.slice sa L.length sc) hn20
      rw[hW22];simpa using this
     have hK22:KeepP pb W W22:=by rw[hW22]; exact hK20.set (by omega) _ _
     have ho22 : ∀ b,b≠(W.heap.size+1)→W22.heap[b]? = w20.heap[b]?:=fun b hb=>by rw[hW22]; exact Below.heap_setCell _ _ _ _ hb
     have hz22:W22.heap.size=w20.heap.size:=by rw[hW22]; simp
     have hP22:PW l pb la lc W22 (j):=hP.kept hK22 ((ho22 pb (by omega)).trans hP20.cell) hP20.le;have hb22:=(ho22 W.heap.size (by omega)).trans hb20;obtain⟨u0,u1,u2,u3,u4,u5,u6,u7,u8,u9,u10,uf⟩:=aAf hn20;obtain⟨r0,r1,r2,r3,r4,r5,r6,r7,r8,r9,r10,_⟩:=aAf hn22
     have hg:GX (fun b=>b≤W.heap.size) (.mk 10 op (0,0,[]) [] [] 0 false false L) (.agg (xA 10 op 0 0 [] [] [] 0 false false (.slice sa L.length sc))) W22 :=
      (GX.mk' hx).step ⟨fun b hn hlt=>ho22 b (by omega),fun b hb=>.inl (by omega),by omega⟩
     subst hW22;obtain⟨p0,p1,p2,p3,p4,p5,p6,p7,p8,p9,p10,pf⟩:=aAf hb22;go_wp2_with fail
     exact aAF hb22 (fun _ y0 y1 y2 y3 y4 y5 y6 y7 y8 y9 y10=>by simp[results,Tryz.results155,go_sem,y0,y1,y2,y3,y4,y5,y6,y7,y8,y9,y10]) rfl hP (hK22) hP22 (hg) (by
      rw[HRe.out,hr]
      try rfl)
end
end
end Go.Proofs.YtcdeimjlgpfjiaaGreatDoor
