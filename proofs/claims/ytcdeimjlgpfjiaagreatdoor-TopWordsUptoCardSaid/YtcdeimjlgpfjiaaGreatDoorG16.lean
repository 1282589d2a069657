/- The parser's five chains. Condition: what a part comes to. -/
import Derived.Test.YtcdeimjlgpfjiaaGreatDoorG15
set_option linter.unusedSimpArgs false
set_option linter.unusedVariables false
namespace Go.Proofs.YtcdeimjlgpfjiaaGreatDoor
section
open Go.RowKit Go.IntWalk
attribute [local go_sem] Oper.semAt_some
theorem aEB {w:World} {X:Nat→Prop} {ops:List (List UInt8)} {b:Nat} {a:Array Value} {t:TypeId} {fr:Nat×Nat} (h:w.heap[b]? = some (.cells a t fr)) (hX : ¬ X b) (ha:a.toList=ops.map fun s=>Value.string (bs s)):CVR w X (.vs (oc ops)) (.slice (some ⟨b,0,none⟩) ops.length ops.length):=by
 have hl:=aOW ops
 have e:(Value.slice (some ⟨b,0,none⟩) ops.length ops.length) = .slice (some ⟨b,0,none⟩) (oc ops).length ops.length:=by rw[hl]
 rw[e];refine .vs _ b 0 1 ops.length (fun i _=>a.getD i undef) (fun el hel=>?_) (by omega) (fun i el hi f cv hf=>?_) (fun i el hi f cv hf=>?_)
 · simp only[oc,List.mem_map] at hel;obtain⟨s,_,rfl⟩:=hel;rfl
 all_goals
  have hlt:i<ops.length:=by
   have:=(List.getElem?_eq_some_iff.1 hi).1
   rw[hl] at this;exact this
  have hel:el=[.v (.string (bs (ops.getD i [])))]:=by
   have:(oc ops)[i]? = some [.v (.string (bs (ops.getD i [])))]:=by simp[oc,hlt]
   rw[hi] at this;exact Option.some.inj this
  subst hel
  have hf0:f=0:=by
   have:=(List.getElem?_eq_some_iff.1 hf).1
   simp at this;exact this
  subst hf0
  have hr:a[i]? = some (.string (bs (ops.getD i []))):=by
   rw[←Array.getElem?_toList,ha];simp[hlt]
  have hg:a.getD i undef = .string (bs (ops.getD i [])):=by rw[Array.getD_eq_getD_getElem?,hr]; rfl
 · refine⟨hX,?_⟩;rw[hg];simp[World.cell?,h,hr]
 · have e4:cv = .v (.string (bs (ops.getD i []))):=by simpa using hf.symm
   rw[e4,hg];exact .v _ rfl
section
variable {l:List Tok} {pb:Nat} {la:Option Addr} {lc:Nat}
theorem aAd {pb:Nat} {w w':World} {b:Nat} {o:Obj} (h:KeepP pb w w') (hb:w.heap[b]? = some o) (hn:b≠pb):w'.heap[b]? = some o:=(h.heap b (Array.getElem?_eq_some_iff.1 hb).1 hn).trans hb
theorem aQR : ∀ (args:Array Value) (w:World),(callFunc 66 args).run Tryz.prog w = .ok (.enter 66 args) w:=canEnter_of Tryz.func66 (by kernel_rfl) (by kernel_rfl)
set_option maxHeartbeats 2000000 in
set_option maxRecDepth 100000 in
theorem aQm {part:Nat→PR Xp} (hpart:aAY l pb la lc 66 part) (hge : ∀ i e j,part i = .ok e j→i≤j):aAY l pb la lc 37 (aBt l part 2 [[111,114]]):=by
 intro W i hP hR
 have hmf : ∀ (fn:Fn) (first cap:Array Value) (w:World),(Instr.makeFunc fn first cap).run Tryz.prog w = .ok (.func fn first cap) w:=fun _ _ _ _=>rfl
 obtain⟨W2,hW2⟩ : ∃ W2,W2=(W.alloc (.cells z11 26)).alloc (.cells #[.string ⟨#[111,114]⟩] 9):=⟨_,rfl⟩
 have hK2:KeepP pb W W2:=by rw[hW2]; exact ((KeepP.refl pb W).alloc _).alloc _
 have hP2:PW l pb la lc W2 i:=by rw[hW2]; exact (hP.alloc _).alloc _
 have hz2:W2.heap.size=W.heap.size+2:=by rw[hW2]; simp
 have hpl:=hP.lt
 have h2:W2.heap[W.heap.size]? = some (.cells z11 26 (0,0)):=by rw[hW2]; exact (Below.heap_alloc _ _ _ (by simp)).trans (aAl _ _)
 have h3:W2.heap[W.heap.size+1]? = some (.cells #[.string ⟨#[111,114]⟩] 9 (0,0)):=by
  have:=aAl (W.alloc (.cells z11 26)) (.cells #[.string ⟨#[111,114]⟩] 9)
  rw[World.size_alloc] at this;rw[hW2]; exact this
 have ho:CVR W2 (fun b=>b=pb) (.vs (oc [[111,114]])) (.slice (some ⟨W.heap.size+1,0,none⟩) 1 1):=aEB (ops:=[[111,114]]) h3 (by omega) rfl;have hC:=aCo hP2 66 aQR hpart hge 2 [[111,114]] _ _ ho (by decide) hR;obtain⟨R,hRR⟩ : ∃ R,R=aBt l part 2 [[111,114]] i:=⟨_,rfl⟩;rw[←hRR] at hC hR ⊢;clear hRR
 go_enter Tryz.func37,Tryz.ntmps37
 go_wp2_with fail;rw[←hW2];clear hW2 h3 ho
 cases R with
 | out=>exact absurd rfl hR
 | stop j =>
  refine Calls.mono hC ?_;rintro e w3 ⟨rfl,hk⟩;exact⟨rfl,rfl,hK2.trans hk⟩
 | ok e j =>
  refine Calls.mono hC ?_;rintro e' w3 ⟨⟨v,rfl,hx⟩,hk,hP3⟩;obtain⟨k,op,⟨v0,v1,v2⟩,tb,nm,sl,nt,ds,args⟩:=e;obtain⟨sa,sc,rfl,hs⟩:=hx.form;have h4:=aAd hk h2 (by omega);obtain⟨p0,p1,p2,p3,p4,p5,p6,p7,p8,p9,p10,pf⟩:=aAf h4;go_wp2_with fail;have hA:=aBD h4 (.int .i64 k) (.string (bs op)) (.int .i64 v0) (.int .i64 v1) (.string (bs v2)) (.string (bs tb)) (.string (bs nm)) (.int .i64 sl) (.bool nt) (.bool ds) (.slice sa args.length sc);have hB:=fun (g:Nat) (hg:g≠W.heap.size)=>aAw (w:=w3) hg (.int .i64 k) (.string (bs op)) (.int .i64 v0) (.int .i64 v1) (.string (bs v2)) (.string (bs tb)) (.string (bs nm)) (.int .i64 sl) (.bool nt) (.bool ds) (.slice sa args.length sc);have hK:=aFS (hK2.trans hk) (Nat.le_refl W.heap.size) (.int .i64 k) (.string (bs op)) (.int .i64 v0) (.int .i64 v1) (.string (bs v2)) (.string (bs tb)) (.string (bs nm)) (.int .i64 sl) (.bool nt) (.bool ds) (.slice sa args.length sc);generalize hWf:World.setCell _ ⟨W.heap.size,10,none⟩ _=Wf at hA hB hK ⊢
  have hzf:Wf.heap.size=w3.heap.size:=by rw[←hWf]; simp
  clear hWf;obtain⟨y0,y1,y2,y3,y4,y5,y6,y7,y8,y9,y10,_⟩:=aAf hA;refine bodyPost_ret (v:=.agg (xA k op v0 v1 v2 tb nm sl nt ds (.slice sa args.length sc))) (by simp[results,Tryz.results37,go_sem,y0,y1,y2,y3,y4,y5,y6,y7,y8,y9,y10]) rfl ?_;exact⟨⟨_,rfl,hx.step ⟨fun b hn hlt=>hB b (by omega),fun b hb=>.inl (by omega),by omega⟩⟩,hK,hP.kept hK ((hB pb (by omega)).trans hP3.cell) hP3.le⟩
theorem aQ4 : ∀ (args:Array Value) (w:World),(callFunc 92 args).run Tryz.prog w = .ok (.enter 92 args) w:=canEnter_of Tryz.func92 (by kernel_rfl) (by kernel_rfl)
set_option maxHeartbeats 2000000 in
set_option maxRecDepth 100000 in
theorem aPD {part:Nat→PR Xp} (hpart:aAY l pb la lc 92 part) (hge : ∀ i e j,part i = .ok e j→i≤j):aAY l pb la lc 66 (aBt l part 2 [[97,110,100]]):=by
 intro W i hP hR
 have hmf : ∀ (fn:Fn) (first cap:Array Value) (w:World),(Instr.makeFunc fn first cap).run Tryz.prog w = .ok (.func fn first cap) w:=fun _ _ _ _=>rfl
 obtain⟨W2,hW2⟩ : ∃ W2,W2=(W.alloc (.cells z11 26)).alloc (.cells #[.string ⟨#[97,110,100]⟩] 9):=⟨_,rfl⟩
 have hK2:KeepP pb W W2:=by rw[hW2]; exact ((KeepP.refl pb W).alloc _).alloc _
 have hP2:PW l pb la lc W2 i:=by rw[hW2]; exact (hP.alloc _).alloc _
 have hz2:W2.heap.size=W.heap.size+2:=by rw[hW2]; simp
 have hpl:=hP.lt
 have h2:W2.heap[W.heap.size]? = some (.cells z11 26 (0,0)):=by rw[hW2]; exact (Below.heap_alloc _ _ _ (by simp)).trans (aAl _ _)
 have h3:W2.heap[W.heap.size+1]? = some (.cells #[.string ⟨#[97,110,100]⟩] 9 (0,0)):=by
  have:=aAl (W.alloc (.cells z11 26)) (.cells #[.string ⟨#[97,110,100]⟩] 9)
  rw[World.size_alloc] at this;rw[hW2]; exact this
 have ho:CVR W2 (fun b=>b=pb) (.vs (oc [[97,110,100]])) (.slice (some ⟨W.heap.size+1,0,none⟩) 1 1):=aEB (ops:=[[97,110,100]]) h3 (by omega) rfl;have hC:=aCo hP2 92 aQ4 hpart hge 2 [[97,110,100]] _ _ ho (by decide) hR;obtain⟨R,hRR⟩ : ∃ R,R=aBt l part 2 [[97,110,100]] i:=⟨_,rfl⟩;rw[←hRR] at hC hR ⊢;clear hRR
 go_enter Tryz.func66,Tryz.ntmps66
 go_wp2_with fail;rw[←hW2];clear hW2 h3 ho
 cases R with
 | out=>exact absurd rfl hR
 | stop j =>
  refine Calls.mono hC ?_;rintro e w3 ⟨rfl,hk⟩;exact⟨rfl,rfl,hK2.trans hk⟩
 | ok e j =>
  refine Calls.mono hC ?_;rintro e' w3 ⟨⟨v,rfl,hx⟩,hk,hP3⟩;obtain⟨k,op,⟨v0,v1,v2⟩,tb,nm,sl,nt,ds,args⟩:=e;obtain⟨sa,sc,rfl,hs⟩:=hx.form;have h4:=aAd hk h2 (by omega);obtain⟨p0,p1,p2,p3,p4,p5,p6,p7,p8,p9,p10,pf⟩:=aAf h4;go_wp2_with fail;have hA:=aBD h4 (.int .i64 k) (.string (bs op)) (.int .i64 v0) (.int .i64 v1) (.string (bs v2)) (.string (bs tb)) (.string (bs nm)) (.int .i64 sl) (.bool nt) (.bool ds) (.slice sa args.length sc);have hB:=fun (g:Nat) (hg:g≠W.heap.size)=>aAw (w:=w3) hg (.int .i64 k) (.string (bs op)) (.int .i64 v0) (.int .i64 v1) (.string (bs v2)) (.string (bs tb)) (.string (bs nm)) (.int .i64 sl) (.bool nt) (.bool ds) (.slice sa args.length sc);have hK:=aFS (hK2.trans hk) (Nat.le_refl W.heap.size) (.int .i64 k) (.string (bs op)) (.int .i64 v0) (.int .i64 v1) (.string (bs v2)) (.string (bs tb)) (.string (bs nm)) (.int .i64 sl) (.bool nt) (.bool ds) (.slice sa args.length sc);generalize hWf:World.setCell _ ⟨W.heap.size,10,none⟩ _=Wf at hA hB hK ⊢
  have hzf:Wf.heap.size=w3.heap.size:=by rw[←hWf]; simp
  clear hWf;obtain⟨y0,y1,y2,y3,y4,y5,y6,y7,y8,y9,y10,_⟩:=aAf hA;refine bodyPost_ret (v:=.agg (xA k op v0 v1 v2 tb nm sl nt ds (.slice sa args.length sc))) (by simp[results,Tryz.results66,go_sem,y0,y1,y2,y3,y4,y5,y6,y7,y8,y9,y10]) rfl ?_;exact⟨⟨_,rfl,hx.step ⟨fun b hn hlt=>hB b (by omega),fun b hb=>.inl (by omega),by omega⟩⟩,hK,hP.kept hK ((hB pb (by omega)).trans hP3.cell) hP3.le⟩
theorem aTx : ∀ (args:Array Value) (w:World),(callFunc 145 args).run Tryz.prog w = .ok (.enter 145 args) w:=canEnter_of Tryz.func145 (by kernel_rfl) (by kernel_rfl)
set_option maxHeartbeats 2000000 in
set_option maxRecDepth 100000 in
theorem aRx {part:Nat→PR Xp} (hpart:aAY l pb la lc 145 part) (hge : ∀ i e j,part i = .ok e j→i≤j):aAY l pb la lc 140 (aBt l part 4 [[43],[45]]):=by
 intro W i hP hR
 have hmf : ∀ (fn:Fn) (first cap:Array Value) (w:World),(Instr.makeFunc fn first cap).run Tryz.prog w = .ok (.func fn first cap) w:=fun _ _ _ _=>rfl
 obtain⟨W2,hW2⟩ : ∃ W2,W2=(W.alloc (.cells z11 26)).alloc (.cells #[.string ⟨#[43]⟩,.string ⟨#[45]⟩] 9):=⟨_,rfl⟩
 have hK2:KeepP pb W W2:=by rw[hW2]; exact ((KeepP.refl pb W).alloc _).alloc _
 have hP2:PW l pb la lc W2 i:=by rw[hW2]; exact (hP.alloc _).alloc _
 have hz2:W2.heap.size=W.heap.size+2:=by rw[hW2]; simp
 have hpl:=hP.lt
 have h2:W2.heap[W.heap.size]? = some (.cells z11 26 (0,0)):=by rw[hW2]; exact (Below.heap_alloc _ _ _ (by simp)).trans (aAl _ _)
 have h3:W2.heap[W.heap.size+1]? = some (.cells #[.string ⟨#[43]⟩,.string ⟨#[45]⟩] 9 (0,0)):=by
  have:=aAl (W.alloc (.cells z11 26)) (.cells #[.string ⟨#[43]⟩,.string ⟨#[45]⟩] 9)
  rw[World.size_alloc] at this;rw[hW2]; exact this
 have ho:CVR W2 (fun b=>b=pb) (.vs (oc [[43],[45]])) (.slice (some ⟨W.heap.size+1,0,none⟩) 2 2):=aEB (ops:=[[43],[45]]) h3 (by omega) rfl;have hC:=aCo hP2 145 aTx hpart hge 4 [[43],[45]] _ _ ho (by decide) hR;obtain⟨R,hRR⟩ : ∃ R,R=aBt l part 4 [[43],[45]] i:=⟨_,rfl⟩;rw[←hRR] at hC hR ⊢;clear hRR
 go_enter Tryz.func140,Tryz.ntmps140
 go_wp2_with fail;rw[←hW2];clear hW2 h3 ho
 cases R with
 | out=>exact absurd rfl hR
 | stop j =>
  refine Calls.mono hC ?_;rintro e w3 ⟨rfl,hk⟩;exact⟨rfl,rfl,hK2.trans hk⟩
 | ok e j =>
  refine Calls.mono hC ?_;rintro e' w3 ⟨⟨v,rfl,hx⟩,hk,hP3⟩;obtain⟨k,op,⟨v0,v1,v2⟩,tb,nm,sl,nt,ds,args⟩:=e;obtain⟨sa,sc,rfl,hs⟩:=hx.form;have h4:=aAd hk h2 (by omega);obtain⟨p0,p1,p2,p3,p4,p5,p6,p7,p8,p9,p10,pf⟩:=aAf h4;go_wp2_with fail;have hA:=aBD h4 (.int .i64 k) (.string (bs op)) (.int .i64 v0) (.int .i64 v1) (.string (bs v2)) (.string (bs tb)) (.string (bs nm)) (.int .i64 sl) (.bool nt) (.bool ds) (.slice sa args.length sc);have hB:=fun (g:Nat) (hg:g≠W.heap.size)=>aAw (w:=w3) hg (.int .i64 k) (.string (bs op)) (.int .i64 v0) (.int .i64 v1) (.string (bs v2)) (.string (bs tb)) (.string (bs nm)) (.int .i64 sl) (.bool nt) (.bool ds) (.slice sa args.length sc);have hK:=aFS (hK2.trans hk) (Nat.le_refl W.heap.size) (.int .i64 k) (.string (bs op)) (.int .i64 v0) (.int .i64 v1) (.string (bs v2)) (.string (bs tb)) (.string (bs nm)) (.int .i64 sl) (.bool nt) (.bool ds) (.slice sa args.length sc);generalize hWf:World.setCell _ ⟨W.heap.size,10,none⟩ _=Wf at hA hB hK ⊢
  have hzf:Wf.heap.size=w3.heap.size:=by rw[←hWf]; simp
  clear hWf;obtain⟨y0,y1,y2,y3,y4,y5,y6,y7,y8,y9,y10,_⟩:=aAf hA;refine bodyPost_ret (v:=.agg (xA k op v0 v1 v2 tb nm sl nt ds (.slice sa args.length sc))) (by simp[results,Tryz.results140,go_sem,y0,y1,y2,y3,y4,y5,y6,y7,y8,y9,y10]) rfl ?_;exact⟨⟨_,rfl,hx.step ⟨fun b hn hlt=>hB b (by omega),fun b hb=>.inl (by omega),by omega⟩⟩,hK,hP.kept hK ((hB pb (by omega)).trans hP3.cell) hP3.le⟩
theorem aRt : ∀ (args:Array Value) (w:World),(callFunc 148 args).run Tryz.prog w = .ok (.enter 148 args) w:=canEnter_of Tryz.func148 (by kernel_rfl) (by kernel_rfl)
set_option maxHeartbeats 2000000 in
set_option maxRecDepth 100000 in
theorem aPL {part:Nat→PR Xp} (hpart:aAY l pb la lc 148 part) (hge : ∀ i e j,part i = .ok e j→i≤j):aAY l pb la lc 145 (aBt l part 4 [[42],[47],[37]]):=by
 intro W i hP hR
 have hmf : ∀ (fn:Fn) (first cap:Array Value) (w:World),(Instr.makeFunc fn first cap).run Tryz.prog w = .ok (.func fn first cap) w:=fun _ _ _ _=>rfl
 obtain⟨W2,hW2⟩ : ∃ W2,W2=(W.alloc (.cells z11 26)).alloc (.cells #[.string ⟨#[42]⟩,.string ⟨#[47]⟩,.string ⟨#[37]⟩] 9):=⟨_,rfl⟩
 have hK2:KeepP pb W W2:=by rw[hW2]; exact ((KeepP.refl pb W).alloc _).alloc _
 have hP2:PW l pb la lc W2 i:=by rw[hW2]; exact (hP.alloc _).alloc _
 have hz2:W2.heap.size=W.heap.size+2:=by rw[hW2]; simp
 have hpl:=hP.lt
 have h2:W2.heap[W.heap.size]? = some (.cells z11 26 (0,0)):=by rw[hW2]; exact (Below.heap_alloc _ _ _ (by simp)).trans (aAl _ _)
 have h3:W2.heap[W.heap.size+1]? = some (.cells #[.string ⟨#[42]⟩,.string ⟨#[47]⟩,.string ⟨#[37]⟩] 9 (0,0)):=by
  have:=aAl (W.alloc (.cells z11 26)) (.cells #[.string ⟨#[42]⟩,.string ⟨#[47]⟩,.string ⟨#[37]⟩] 9)
  rw[World.size_alloc] at this;rw[hW2]; exact this
 have ho:CVR W2 (fun b=>b=pb) (.vs (oc [[42],[47],[37]])) (.slice (some ⟨W.heap.size+1,0,none⟩) 3 3):=aEB (ops:=[[42],[47],[37]]) h3 (by omega) rfl;have hC:=aCo hP2 148 aRt hpart hge 4 [[42],[47],[37]] _ _ ho (by decide) hR;obtain⟨R,hRR⟩ : ∃ R,R=aBt l part 4 [[42],[47],[37]] i:=⟨_,rfl⟩;rw[←hRR] at hC hR ⊢;clear hRR
 go_enter Tryz.func145,Tryz.ntmps145
 go_wp2_with fail;rw[←hW2];clear hW2 h3 ho
 cases R with
 | out=>exact absurd rfl hR
 | stop j =>
  refine Calls.mono hC ?_;rintro e w3 ⟨rfl,hk⟩;exact⟨rfl,rfl,hK2.trans hk⟩
 | ok e j =>
  refine Calls.mono hC ?_;rintro e' w3 ⟨⟨v,rfl,hx⟩,hk,hP3⟩;obtain⟨k,op,⟨v0,v1,v2⟩,tb,nm,sl,nt,ds,args⟩:=e;obtain⟨sa,sc,rfl,hs⟩:=hx.form;have h4:=aAd hk h2 (by omega);obtain⟨p0,p1,p2,p3,p4,p5,p6,p7,p8,p9,p10,pf⟩:=aAf h4;go_wp2_with fail;have hA:=aBD h4 (.int .i64 k) (.string (bs op)) (.int .i64 v0) (.int .i64 v1) (.string (bs v2)) (.string (bs tb)) (.string (bs nm)) (.int .i64 sl) (.bool nt) (.bool ds) (.slice sa args.length sc);have hB:=fun (g:Nat) (hg:g≠W.heap.size)=>aAw (w:=w3) hg (.int .i64 k) (.string (bs op)) (.int .i64 v0) (.int .i64 v1) (.string (bs v2)) (.string (bs tb)) (.string (bs nm)) (.int .i64 sl) (.bool nt) (.bool ds) (.slice sa args.length sc);have hK:=aFS (hK2.trans hk) (Nat.le_refl W.heap.size) (.int .i64 k) (.string (bs op)) (.int .i64 v0) (.int .i64 v1) (.string (bs v2)) (.string (bs tb)) (.string (bs nm)) (.int .i64 sl) (.bool nt) (.bool ds) (.slice sa args.length sc);generalize hWf:World.setCell _ ⟨W.heap.size,10,none⟩ _=Wf at hA hB hK ⊢
  have hzf:Wf.heap.size=w3.heap.size:=by rw[←hWf]; simp
  clear hWf;obtain⟨y0,y1,y2,y3,y4,y5,y6,y7,y8,y9,y10,_⟩:=aAf hA;refine bodyPost_ret (v:=.agg (xA k op v0 v1 v2 tb nm sl nt ds (.slice sa args.length sc))) (by simp[results,Tryz.results145,go_sem,y0,y1,y2,y3,y4,y5,y6,y7,y8,y9,y10]) rfl ?_;exact⟨⟨_,rfl,hx.step ⟨fun b hn hlt=>hB b (by omega),fun b hb=>.inl (by omega),by omega⟩⟩,hK,hP.kept hK ((hB pb (by omega)).trans hP3.cell) hP3.le⟩
theorem aRi : ∀ (args:Array Value) (w:World),(callFunc 149 args).run Tryz.prog w = .ok (.enter 149 args) w:=canEnter_of Tryz.func149 (by kernel_rfl) (by kernel_rfl)
set_option maxHeartbeats 2000000 in
set_option maxRecDepth 100000 in
theorem aP3 {part:Nat→PR Xp} (hpart:aAY l pb la lc 149 part) (hge : ∀ i e j,part i = .ok e j→i≤j):aAY l pb la lc 148 (aBt l part 4 [[124,124]]):=by
 intro W i hP hR
 have hmf : ∀ (fn:Fn) (first cap:Array Value) (w:World),(Instr.makeFunc fn first cap).run Tryz.prog w = .ok (.func fn first cap) w:=fun _ _ _ _=>rfl
 obtain⟨W2,hW2⟩ : ∃ W2,W2=(W.alloc (.cells z11 26)).alloc (.cells #[.string ⟨#[124,124]⟩] 9):=⟨_,rfl⟩
 have hK2:KeepP pb W W2:=by rw[hW2]; exact ((KeepP.refl pb W).alloc _).alloc _
 have hP2:PW l pb la lc W2 i:=by rw[hW2]; exact (hP.alloc _).alloc _
 have hz2:W2.heap.size=W.heap.size+2:=by rw[hW2]; simp
 have hpl:=hP.lt
 have h2:W2.heap[W.heap.size]? = some (.cells z11 26 (0,0)):=by rw[hW2]; exact (Below.heap_alloc _ _ _ (by simp)).trans (aAl _ _)
 have h3:W2.heap[W.heap.size+1]? = some (.cells #[.string ⟨#[124,124]⟩] 9 (0,0)):=by
  have:=aAl (W.alloc (.cells z11 26)) (.cells #[.string ⟨#[124,124]⟩] 9)
  rw[World.size_alloc] at this;rw[hW2]; exact this
 have ho:CVR W2 (fun b=>b=pb) (.vs (oc [[124,124]])) (.slice (some ⟨W.heap.size+1,0,none⟩) 1 1):=aEB (ops:=[[124,124]]) h3 (by omega) rfl;have hC:=aCo hP2 149 aRi hpart hge 4 [[124,124]] _ _ ho (by decide) hR;obtain⟨R,hRR⟩ : ∃ R,R=aBt l part 4 [[124,124]] i:=⟨_,rfl⟩;rw[←hRR] at hC hR ⊢;clear hRR
 go_enter Tryz.func148,Tryz.ntmps148
 go_wp2_with fail;rw[←hW2];clear hW2 h3 ho
 cases R with
 | out=>exact absurd rfl hR
 | stop j =>
  refine Calls.mono hC ?_;rintro e w3 ⟨rfl,hk⟩;exact⟨rfl,rfl,hK2.trans hk⟩
 | ok e j =>
  refine Calls.mono hC ?_;rintro e' w3 ⟨⟨v,rfl,hx⟩,hk,hP3⟩;obtain⟨k,op,⟨v0,v1,v2⟩,tb,nm,sl,nt,ds,args⟩:=e;obtain⟨sa,sc,rfl,hs⟩:=hx.form;have h4:=aAd hk h2 (by omega);obtain⟨p0,p1,p2,p3,p4,p5,p6,p7,p8,p9,p10,pf⟩:=aAf h4;go_wp2_with fail;have hA:=aBD h4 (.int .i64 k) (.string (bs op)) (.int .i64 v0) (.int .i64 v1) (.string (bs v2)) (.string (bs tb)) (.string (bs nm)) (.int .i64 sl) (.bool nt) (.bool ds) (.slice sa args.length sc);have hB:=fun (g:Nat) (hg:g≠W.heap.size)=>aAw (w:=w3) hg (.int .i64 k) (.string (bs op)) (.int .i64 v0) (.int .i64 v1) (.string (bs v2)) (.string (bs tb)) (.string (bs nm)) (.int .i64 sl) (.bool nt) (.bool ds) (.slice sa args.length sc);have hK:=aFS (hK2.trans hk) (Nat.le_refl W.heap.size) (.int .i64 k) (.string (bs op)) (.int .i64 v0) (.int .i64 v1) (.string (bs v2)) (.string (bs tb)) (.string (bs nm)) (.int .i64 sl) (.bool nt) (.bool ds) (.slice sa args.length sc);generalize hWf:World.setCell _ ⟨W.heap.size,10,none⟩ _=Wf at hA hB hK ⊢
  have hzf:Wf.heap.size=w3.heap.size:=by rw[←hWf]; simp
  clear hWf;obtain⟨y0,y1,y2,y3,y4,y5,y6,y7,y8,y9,y10,_⟩:=aAf hA;refine bodyPost_ret (v:=.agg (xA k op v0 v1 v2 tb nm sl nt ds (.slice sa args.length sc))) (by simp[results,Tryz.results148,go_sem,y0,y1,y2,y3,y4,y5,y6,y7,y8,y9,y10]) rfl ?_;exact⟨⟨_,rfl,hx.step ⟨fun b hn hlt=>hB b (by omega),fun b hb=>.inl (by omega),by omega⟩⟩,hK,hP.kept hK ((hB pb (by omega)).trans hP3.cell) hP3.le⟩
end
end
end Go.Proofs.YtcdeimjlgpfjiaaGreatDoor
