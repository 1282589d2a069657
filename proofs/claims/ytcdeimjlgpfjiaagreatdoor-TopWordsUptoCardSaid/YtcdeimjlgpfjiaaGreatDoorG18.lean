/- The parser's plain expressions. Condition: what their parts come to. -/
import Derived.Test.YtcdeimjlgpfjiaaGreatDoorG17
set_option linter.unusedSimpArgs false
set_option linter.unusedVariables false
namespace Go.Proofs.YtcdeimjlgpfjiaaGreatDoor
section
open Go.RowKit Go.IntWalk
attribute [local go_sem] Oper.semAt_some
section
variable {l:List Tok} {pb:Nat} {la:Option Addr} {lc:Nat}
def aJk (l:List Tok) (pb:Nat) (la:Option Addr) (lc:Nat) (g:Nat) (r:List UInt8→Nat→PR Xp):Prop :=
 ∀ (W:World) (i:Nat) (s:List UInt8),PW l pb la lc W i→Sm s→r s i≠.out→Calls Tryz.prog g #[.pointer (some ⟨pb,0,none⟩),.string (bs s)] W (aDJ l pb la lc W (GX (fun b=>b<W.heap.size)) (r s i))
set_option maxHeartbeats 8000000 in
set_option maxRecDepth 100000 in
theorem aKm {ex:Nat→PR Xp} (htx : ∀ i,Sm (l.getD i default).tx) (hex:aAY l pb la lc 37 ex) (hnm:aJk l pb la lc 152 (aCZ l ex)) (hcs:aAY l pb la lc 153 (aC6 l ex)) (hct:aAY l pb la lc 154 (aFr l ex)) :
 aAY l pb la lc 150 (aEn l ex):=by
 intro W i hP hR;generalize hRR:aEn l ex i=R at hR ⊢;unfold aEn at hRR;have HRR:=Lib.hid hRR;clear hRR;obtain⟨W1,hW1⟩ : ∃ W1,W1=W.alloc (.cells z11 26):=⟨_,rfl⟩
 have hK1:KeepP pb W W1:=by rw[hW1]; exact (KeepP.refl pb W).alloc _
 have hP1:PW l pb la lc W1 i:=by rw[hW1]; exact hP.alloc _
 have hz1:W1.heap.size=W.heap.size+1:=by rw[hW1]; simp
 have hpl:=hP.lt
 have hb1:W1.heap[W.heap.size]? = some (.cells z11 26 (0,0)):=by rw[hW1]; exact aAl _ _
 go_enter Tryz.func150,Tryz.ntmps150
 go_wp2_with fail;rw[←hW1];clear hW1;have hT:=aFj hP1 3;obtain⟨b,hb⟩ : ∃ b,b=aBg l 3 i:=⟨_,rfl⟩;rw[←hb] at hT;have HB:=Lib.hid hb;clear hb;refine Calls.mono hT ?_;rintro e w2 ⟨rfl,hk2,hP2⟩;have hb2:=aAd hk2 hb1 (by omega);have hz2:=hk2.size;have hK2:=hK1.trans hk2;clear hT hk2 hb1 hP1 hK1
 cases b with
 | true =>
  have hRe:R = .ok (.mk 1 [] (l.getD i default).vl [] [] 0 false false []) (i+1):=by rw[←HRR.out,←HB.out]; rfl
  obtain⟨⟨kd,tx,⟨v0,v1,v2⟩,pl⟩,ht⟩ : ∃ t,t=l.getD i default:=⟨_,rfl⟩;rw[←ht] at hRe ⊢;clear ht;have HRe:=Lib.hid hRe;clear hRe;have hP2:PW l pb la lc w2 (i+1):=hP2;obtain⟨W3,hW3⟩ : ∃ W3,W3=w2.alloc (.cells #[.int .i64 kd,.string (bs tx),.int .i64 v0,.int .i64 v1,.string (bs v2),.int .i64 pl] 40):=⟨_,rfl⟩
  have hk3:KeepP pb w2 W3:=by rw[hW3]; exact (KeepP.refl pb w2).alloc _
  have hP3:PW l pb la lc W3 (i+1):=by rw[hW3]; exact hP2.alloc _
  have hb3:=aAd hk3 hb2 (by omega)
  have hn3:W3.heap[w2.heap.size]? = some (.cells #[.int .i64 kd,.string (bs tx),.int .i64 v0,.int .i64 v1,.string (bs v2),.int .i64 pl] 40 (0,0)):=by rw[hW3]; exact aAl _ _
  have m2:W3.cell? ⟨w2.heap.size,2,none⟩=some (.int .i64 v0):=by simp[World.cell?,hn3]
  have m3:W3.cell? ⟨w2.heap.size,3,none⟩=some (.int .i64 v1):=by simp[World.cell?,hn3]
  have m4:W3.cell? ⟨w2.heap.size,4,none⟩=some (.string (bs v2)):=by simp[World.cell?,hn3]
  have hz3:=hk3.size;have hg:GX (fun b=>b≤W.heap.size) (.mk 1 [] (v0,v1,v2) [] [] 0 false false []) (.agg (xA 1 [] v0 v1 v2 [] [] 0 false false (.slice none 0 0))) W3:=GX.mk' (.nil none);have hK3:=hK2.trans hk3;subst hW3;simp only[tokV,if_true];obtain⟨p0,p1,p2,p3,p4,p5,p6,p7,p8,p9,p10,pf⟩:=aAf hb3;go_wp2_with fail
  exact aAF hb3 (fun _ y0 y1 y2 y3 y4 y5 y6 y7 y8 y9 y10=>by simp[results,Tryz.results150,go_sem,y0,y1,y2,y3,y4,y5,y6,y7,y8,y9,y10]) rfl hP (hK3) hP3 (hg) (by
   rw[HRe.out]
   try rfl)
 | false =>
  have hP2:PW l pb la lc w2 i:=hP2;have ht0:tokV default = .agg zTok:=rfl;obtain⟨W3,hW3⟩ : ∃ W3,W3=w2.alloc (.cells zTok 40):=⟨_,rfl⟩
  have hk3:KeepP pb w2 W3:=by rw[hW3]; exact (KeepP.refl pb w2).alloc _
  have hP3:PW l pb la lc W3 i:=by rw[hW3]; exact hP2.alloc _
  have hb3:=aAd hk3 hb2 (by omega);have hz3:=hk3.size;have hK3:=hK2.trans hk3;have hT:=aFj hP3 1;obtain⟨b,hb⟩ : ∃ b,b=aBg l 1 i:=⟨_,rfl⟩;rw[←hb] at hT;have HB2:=Lib.hid hb;clear hb;simp only[Bool.false_eq_true,if_false,ht0];go_wp2_with fail;rw[←hW3];clear hW3;refine Calls.mono hT ?_;rintro e w4 ⟨rfl,hk4,hP4⟩;have hb4:=aAd hk4 hb3 (by omega);have hz4:=hk4.size;have hK4:=hK3.trans hk4;clear hT hk4 hk3
  cases b with
  | true =>
   obtain⟨⟨kd,tx,⟨v0,v1,v2⟩,pl⟩,ht⟩ : ∃ t,t=l.getD i default:=⟨_,rfl⟩
   have hRe:R=aCZ l ex tx (i+1):=by rw[←HRR.out,←HB.out,←HB2.out,←ht]; rfl
   have HRe:=Lib.hid hRe
   have hsm:Sm tx:=by
    have:=htx i
    rw[←ht] at this;exact this
   rw[←ht];clear hRe ht;have hP4:PW l pb la lc w4 (i+1):=hP4;obtain⟨W5,hW5⟩ : ∃ W5,W5=w4.alloc (.cells #[.int .i64 kd,.string (bs tx),.int .i64 v0,.int .i64 v1,.string (bs v2),.int .i64 pl] 40):=⟨_,rfl⟩
   have hk5:KeepP pb w4 W5:=by rw[hW5]; exact (KeepP.refl pb w4).alloc _
   have hP5:PW l pb la lc W5 (i+1):=by rw[hW5]; exact hP4.alloc _
   have hb5:=aAd hk5 hb4 (by omega);have hz5:=hk5.size
   have hn5:W5.heap[w4.heap.size]? = some (.cells #[.int .i64 kd,.string (bs tx),.int .i64 v0,.int .i64 v1,.string (bs v2),.int .i64 pl] 40 (0,0)):=by rw[hW5]; exact aAl _ _
   have m1:(w4.alloc (.cells #[.int .i64 kd,.string (bs tx),.int .i64 v0,.int .i64 v1,.string (bs v2),.int .i64 pl] 40)).cell? ⟨w4.heap.size,1,none⟩=some (.string (bs tx)):=by rw[←hW5]; simp[World.cell?,hn5]
   have hK5:=hK4.trans hk5;have hC:=hnm W5 (i+1) tx hP5 hsm;simp only[tokV,if_true];go_wp2_with fail;rw[←hW5];clear hW5 m1
   cases hr:aCZ l ex tx (i+1) with
   | out=>exact absurd (by rw[HRe.out,hr]) hR
   | stop j =>
    rw[hr] at hC;refine Calls.mono (hC (fun h=>by cases h)) ?_;rintro e w9 ⟨rfl,hk⟩;refine⟨rfl,?_⟩;rw[HRe.out,hr];exact⟨rfl,(hK5).trans hk⟩
   | ok e j =>
    rw[hr] at hC;refine Calls.mono (hC (fun h=>by cases h)) ?_;rintro e' w9 ⟨⟨v,rfl,hx⟩,hk,hP9⟩;obtain⟨k,op,⟨v0,v1,v2⟩,tb,nm,sl,nt,ds,args⟩:=e;obtain⟨sa,sc,rfl,hs⟩:=hx.form;have hb9:=aAd hk hb5 (by omega);have hz9:=hk.size;have hx2:=hx.mono (X':=fun b=>b≤W.heap.size) (fun b hb=>by omega);obtain⟨p0,p1,p2,p3,p4,p5,p6,p7,p8,p9,p10,pf⟩:=aAf hb9;go_wp2_with fail
    exact aAF hb9 (fun _ y0 y1 y2 y3 y4 y5 y6 y7 y8 y9 y10=>by simp[results,Tryz.results150,go_sem,y0,y1,y2,y3,y4,y5,y6,y7,y8,y9,y10]) rfl hP ((hK5).trans hk) hP9 (hx2) (by
     rw[HRe.out,hr]
     try rfl)
  | false =>
   have hP4:PW l pb la lc w4 i:=hP4;obtain⟨W5,hW5⟩ : ∃ W5,W5=w4.alloc (.cells zTok 40):=⟨_,rfl⟩
   have hk5:KeepP pb w4 W5:=by rw[hW5]; exact (KeepP.refl pb w4).alloc _
   have hP5:PW l pb la lc W5 i:=by rw[hW5]; exact hP4.alloc _
   have hb5:=aAd hk5 hb4 (by omega);have hz5:=hk5.size;have hK5:=hK4.trans hk5;simp only[Bool.false_eq_true,if_false,ht0];have hT:=aA4 hP5 [110,117,108,108];obtain⟨b,hb⟩ : ∃ b,b=isP l i 2 [110,117,108,108]:=⟨_,rfl⟩;rw[←hb] at hT;have HB6:=Lib.hid hb;clear hb;go_wp2_with fail;rw[←hW5];clear hW5;refine Calls.mono hT ?_;rintro e w6 ⟨rfl,hk6,hP6⟩;have hb6:=aAd hk6 hb5 (by omega);have hz6:=hk6.size;have hK6:=hK5.trans hk6;clear hT
   cases b with
   | true =>
    have hP6:PW l pb la lc w6 (i+1):=hP6
    have hRe:R = .ok (.mk 1 [] nul [] [] 0 false false []) (i+1):=by rw[←HRR.out,←HB.out,←HB2.out,←HB6.out]; rfl
    have HRe:=Lib.hid hRe;clear hRe;have hg:GX (fun b=>b≤W.heap.size) (.mk 1 [] (0,0,[]) [] [] 0 false false []) (.agg (xA 1 [] 0 0 [] [] [] 0 false false (.slice none 0 0))) w6:=GX.mk' (.nil none);obtain⟨p0,p1,p2,p3,p4,p5,p6,p7,p8,p9,p10,pf⟩:=aAf hb6;go_wp2_with fail
    exact aAF hb6 (fun _ y0 y1 y2 y3 y4 y5 y6 y7 y8 y9 y10=>by simp[results,Tryz.results150,go_sem,y0,y1,y2,y3,y4,y5,y6,y7,y8,y9,y10]) rfl hP (hK6) hP6 (hg) (by
     rw[HRe.out]
     try rfl)
   | false =>
    have hP6:PW l pb la lc w6 i:=hP6;have hT:=aA4 hP6 [99,97,115,101];obtain⟨b,hb⟩ : ∃ b,b=isP l i 2 [99,97,115,101]:=⟨_,rfl⟩;rw[←hb] at hT;have HB7:=Lib.hid hb;clear hb;go_wp2_with fail;refine Calls.mono hT ?_;rintro e w7 ⟨rfl,hk7,hP7⟩;have hb7:=aAd hk7 hb6 (by omega);have hz7:=hk7.size;have hK7:=hK6.trans hk7;clear hT
    cases b with
    | true =>
     have hP7:PW l pb la lc w7 (i+1):=hP7
     have hRe:R=aC6 l ex (i+1):=by rw[←HRR.out,←HB.out,←HB2.out,←HB6.out,←HB7.out]; rfl
     have HRe:=Lib.hid hRe;clear hRe;have hC:=hcs w7 (i+1) hP7;go_wp2_with fail
     cases hr:aC6 l ex (i+1) with
     | out=>exact absurd (by rw[HRe.out,hr]) hR
     | stop j =>
      rw[hr] at hC;refine Calls.mono (hC (fun h=>by cases h)) ?_;rintro e w9 ⟨rfl,hk⟩;refine⟨rfl,?_⟩;rw[HRe.out,hr];exact⟨rfl,(hK7).trans hk⟩
     | ok e j =>
      rw[hr] at hC;refine Calls.mono (hC (fun h=>by cases h)) ?_;rintro e' w9 ⟨⟨v,rfl,hx⟩,hk,hP9⟩;obtain⟨k,op,⟨v0,v1,v2⟩,tb,nm,sl,nt,ds,args⟩:=e;obtain⟨sa,sc,rfl,hs⟩:=hx.form;have hb9:=aAd hk hb7 (by omega);have hz9:=hk.size;have hx2:=hx.mono (X':=fun b=>b≤W.heap.size) (fun b hb=>by omega);obtain⟨p0,p1,p2,p3,p4,p5,p6,p7,p8,p9,p10,pf⟩:=aAf hb9;go_wp2_with fail
      exact aAF hb9 (fun _ y0 y1 y2 y3 y4 y5 y6 y7 y8 y9 y10=>by simp[results,Tryz.results150,go_sem,y0,y1,y2,y3,y4,y5,y6,y7,y8,y9,y10]) rfl hP ((hK7).trans hk) hP9 (hx2) (by
       rw[HRe.out,hr]
       try rfl)
    | false =>
     have hP7:PW l pb la lc w7 i:=hP7;have hT:=aA4 hP7 [99,97,115,116];obtain⟨b,hb⟩ : ∃ b,b=isP l i 2 [99,97,115,116]:=⟨_,rfl⟩;rw[←hb] at hT;have HB8:=Lib.hid hb;clear hb;go_wp2_with fail;refine Calls.mono hT ?_;rintro e w8 ⟨rfl,hk8,hP8⟩;have hb8:=aAd hk8 hb7 (by omega);have hz8:=hk8.size;have hK8:=hK7.trans hk8;clear hT
     cases b with
     | true =>
      have hP8:PW l pb la lc w8 (i+1):=hP8
      have hRe:R=aFr l ex (i+1):=by rw[←HRR.out,←HB.out,←HB2.out,←HB6.out,←HB7.out,←HB8.out]; rfl
      have HRe:=Lib.hid hRe;clear hRe;have hC:=hct w8 (i+1) hP8;go_wp2_with fail
      cases hr:aFr l ex (i+1) with
      | out=>exact absurd (by rw[HRe.out,hr]) hR
      | stop j =>
       rw[hr] at hC;refine Calls.mono (hC (fun h=>by cases h)) ?_;rintro e w9 ⟨rfl,hk⟩;refine⟨rfl,?_⟩;rw[HRe.out,hr];exact⟨rfl,(hK8).trans hk⟩
      | ok e j =>
       rw[hr] at hC;refine Calls.mono (hC (fun h=>by cases h)) ?_;rintro e' w9 ⟨⟨v,rfl,hx⟩,hk,hP9⟩;obtain⟨k,op,⟨v0,v1,v2⟩,tb,nm,sl,nt,ds,args⟩:=e;obtain⟨sa,sc,rfl,hs⟩:=hx.form;have hb9:=aAd hk hb8 (by omega);have hz9:=hk.size;have hx2:=hx.mono (X':=fun b=>b≤W.heap.size) (fun b hb=>by omega);obtain⟨p0,p1,p2,p3,p4,p5,p6,p7,p8,p9,p10,pf⟩:=aAf hb9;go_wp2_with fail
       exact aAF hb9 (fun _ y0 y1 y2 y3 y4 y5 y6 y7 y8 y9 y10=>by simp[results,Tryz.results150,go_sem,y0,y1,y2,y3,y4,y5,y6,y7,y8,y9,y10]) rfl hP ((hK8).trans hk) hP9 (hx2) (by
        rw[HRe.out,hr]
        try rfl)
     | false =>
      have hP8:PW l pb la lc w8 i:=hP8;have hT:=aCk hP8 [40];obtain⟨b,hb⟩ : ∃ b,b=isP l i 4 [40]:=⟨_,rfl⟩;rw[←hb] at hT;have HB10:=Lib.hid hb;clear hb;go_wp2_with fail;refine Calls.mono hT ?_;rintro e w10 ⟨rfl,hk10,hP10⟩;have hb10:=aAd hk10 hb8 (by omega);have hz10:=hk10.size;have hK10:=hK8.trans hk10;clear hT
      cases b with
      | true =>
       have hP10:PW l pb la lc w10 (i+1):=hP10
       have hRe:R=(ex (i+1)).bind fun e j=>(aAB l 4 [41] j).bind fun _ k=>.ok e k:=by rw[←HRR.out,←HB.out,←HB2.out,←HB6.out,←HB7.out,←HB8.out,←HB10.out]; rfl
       have HRe:=Lib.hid hRe;clear hRe;have hC:=hex w10 (i+1) hP10;go_wp2_with fail
       cases hr:ex (i+1) with
       | out=>exact absurd (by rw[HRe.out,hr]; rfl) hR
       | stop j =>
        rw[hr] at hC;refine Calls.mono (hC (fun h=>by cases h)) ?_;rintro e w9 ⟨rfl,hk⟩;refine⟨rfl,?_⟩;rw[HRe.out,hr];exact⟨rfl,hK10.trans hk⟩
       | ok e j =>
        rw[hr] at hC;refine Calls.mono (hC (fun h=>by cases h)) ?_;rintro e' w9 ⟨⟨v,rfl,hx⟩,hk,hP9⟩;obtain⟨k,op,⟨v0,v1,v2⟩,tb,nm,sl,nt,ds,args⟩:=e;obtain⟨sa,sc,rfl,hs⟩:=hx.form;have hb9:=aAd hk hb10 (by omega);have hz9:=hk.size;obtain⟨W11,hW11⟩ : ∃ W11,W11=w9.alloc (.cells (xA k op v0 v1 v2 tb nm sl nt ds (.slice sa args.length sc)) 26):=⟨_,rfl⟩
        have hk11:KeepP pb w9 W11:=by rw[hW11]; exact (KeepP.refl pb w9).alloc _
        have hP11:PW l pb la lc W11 j:=by rw[hW11]; exact hP9.alloc _
        have hn11:W11.heap[w9.heap.size]? = some (.cells (xA k op v0 v1 v2 tb nm sl nt ds (.slice sa args.length sc)) 26 (0,0)):=by rw[hW11]; exact aAl _ _
        have hz11:W11.heap.size=w9.heap.size+1:=by rw[hW11]; simp
        have hb11:=aAd hk11 hb9 (by omega);have hx11:GX (fun b=>b≤W.heap.size∨b=w9.heap.size) (.mk k op (v0,v1,v2) tb nm sl nt ds args) (.agg (xA k op v0 v1 v2 tb nm sl nt ds (.slice sa args.length sc))) W11:=hx.keep hk11 (by have:=hP10.lt; omega) (fun b hb=>by rcases hb with hb | rfl <;> omega);have hK11:=(hK10.trans hk).trans hk11;have hM:=aAK hP11 4 [41];go_wp2_with fail;rw[←hW11];clear hW11
        cases hm:aAB l 4 [41] j with
        | out =>
         unfold aAB at hm;split at hm <;> cases hm
        | stop q =>
         rw[hm] at hM;refine Calls.mono hM ?_;rintro e w12 ⟨rfl,hk12⟩;refine⟨rfl,?_⟩;rw[HRe.out,hr];simp only[PR.bind,hm];exact⟨rfl,hK11.trans hk12⟩
        | ok u q =>
         rw[hm] at hM;refine Calls.mono hM ?_;rintro e w12 ⟨⟨v,rfl,hv⟩,hk12,hP12⟩;subst hv;have hb12:=aAd hk12 hb11 (by omega);have hn12:=aAd hk12 hn11 (by have:=hP9.lt; omega);have hz12:=hk12.size;obtain⟨r0,r1,r2,r3,r4,r5,r6,r7,r8,r9,r10,_⟩:=aAf hn12;have hx12:GX (fun b=>b≤W.heap.size) (.mk k op (v0,v1,v2) tb nm sl nt ds args) (.agg (xA k op v0 v1 v2 tb nm sl nt ds (.slice sa args.length sc))) w12:=hx11.keep hk12 (.inl (by omega)) (fun b hb=>.inl (.inl hb));obtain⟨p0,p1,p2,p3,p4,p5,p6,p7,p8,p9,p10,pf⟩:=aAf hb12;go_wp2_with fail
         exact aAF hb12 (fun _ y0 y1 y2 y3 y4 y5 y6 y7 y8 y9 y10=>by simp[results,Tryz.results150,go_sem,y0,y1,y2,y3,y4,y5,y6,y7,y8,y9,y10]) rfl hP (hK11.trans hk12) hP12 (hx12) (by
          rw[HRe.out,hr];simp only[PR.bind,hm]
          try rfl)
      | false =>
       have hP10:PW l pb la lc w10 i:=hP10
       have hRe:R = .stop i:=by rw[←HRR.out,←HB.out,←HB2.out,←HB6.out,←HB7.out,←HB8.out,←HB10.out]; rfl
       go_wp2_with fail;refine Calls.mono (aBB hP10) ?_;rintro e w12 ⟨rfl,rfl⟩;refine⟨rfl,?_⟩;rw[hRe];exact⟨rfl,hK10⟩
end
end
end Go.Proofs.YtcdeimjlgpfjiaaGreatDoor
