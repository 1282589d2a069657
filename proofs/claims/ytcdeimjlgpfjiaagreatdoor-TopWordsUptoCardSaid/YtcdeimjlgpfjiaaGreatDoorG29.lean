/- What Eval of package eval makes of any expression that is not large and any row of values that are not long. Printed by gen_yd.py. -/
import Derived.Test.YtcdeimjlgpfjiaaGreatDoorG26
import Derived.Test.YtcdeimjlgpfjiaaGreatDoorG28
import Derived.Defers
import Derived.Recover
set_option linter.unusedSimpArgs false
set_option linter.unusedVariables false
namespace Go.Proofs.YtcdeimjlgpfjiaaGreatDoor
section
open Go.RowKit Go.IntWalk
theorem Vs.sz {v:V3} (h:Vs v):Sz v.2.2:=by have:=h.2.2; unfold Sm at this; unfold Sz; omega
theorem aKy {n:Int} (h:I64 n):Vs (1,n,[]):=⟨aAm 1 (by decide),h,aAO⟩
theorem aFF (i k:Bool):Vs (truV i k):=by
 unfold truV;split
 · split <;> exact aKy (aAm _ (by decide))
 · exact aAC
theorem aT7 {r:V3×Int} (h:Vs r.1):Vs (finP r).1:=by
 unfold finP;split
 · exact aAC
 · exact h
theorem aD8 (s:Int):Vs (fitR s).1:=by
 unfold fitR;by_cases h:aEu s=true
 · rw[if_pos h];unfold aEu at h;exact aKy (by simpa[I64] using h)
 · rw[if_neg h]; exact aAC
theorem aMV (op:List UInt8) (a b:V3) (ha:I64 a.2.1) (hb:I64 b.2.1):Vs (aE0 op a b).1:=by
 unfold aE0;split
 · split
   · exact aAC
   · split
     · exact aAC
     · split
       · exact aD8 _
       · split
         · exact aD8 _
         · split
           · exact aD8 _
           · unfold divR;split
             · exact aAC
             · rename_i hy;split
               · refine aKy ?_;unfold I64 at hb ⊢
                 have h1:(Int.tmod a.2.1 b.2.1).natAbs<b.2.1.natAbs:=by rw[Int.natAbs_tmod]; exact Nat.mod_lt _ (by omega)
                 omega
               · exact aD8 _
 · exact aAC
theorem aTD {s:List UInt8} (h:s.length≤4096):Vs (2,0,s):=⟨aAm 2 (by decide),aAm 0 (by decide),by unfold Sm; exact Nat.le_trans h (by decide)⟩
theorem aUg (a b:V3):Vs (aHl a b).1:=by
 unfold aHl;split
 · exact aAC
 · split
   · exact aAC
   · split
     · exact aAC
     · refine aTD ?_;rw[List.length_append]; omega
theorem aTr (op:List UInt8) (a b:V3):Vs (aDt op a b):=aFF _ _
theorem aPw (a b:V3) (s:Bool):Vs (aGd a b s).1:=by
 unfold aGd;split
 · exact aAC
 · split
   · exact aAC
   · split <;> exact aFF _ _
theorem aVU (op:List UInt8) (v:V3) (h:I64 v.2.1):Vs (unV op v).1:=by
 unfold unV;split
 · exact aFF _ _
 · split
   · split
     · exact aAC
     · split
       · exact aAC
       · exact aMV _ _ _ (aAm _ (by decide)) h
   · split
     · split
       · exact aAC
       · split
         · exact aAC
         · exact aKy h
     · exact aAC
theorem aVC (op:List UInt8) (a b:V3) (ha:I64 a.2.1) (hb:I64 b.2.1):Vs (binV op a b).1:=by
 unfold binV;split
 · exact aUg a b
 · split
   · exact aMV op a b ha hb
   · split
     · exact aTr op a b
     · split
       · exact aPw a b false
       · split
         · exact aPw a b true
         · exact aAC
theorem aQs (v:V3) (n:Bool):Vs (aNX v n):=aFF _ _
theorem aTW {k:Int} (h:k=2∨k=3) {s:List UInt8} (hs:Sm s):Vs (k,0,s):=⟨by rcases h with rfl | rfl; exact aAm 2 (by decide); exact aAm 3 (by decide),aAm 0 (by decide),hs⟩
theorem aLa (v:V3) (ty:Int) (h:Vs v):Vs (aIL v ty).1:=by
 unfold aIL;split
 · exact aAC
 · rename_i h0;split
   · exact h
   · split
     · unfold aFi;split
       · exact h
       · split
         · split
           · exact aAC
           · exact aKy (aD6 _)
         · exact aAC
     · refine aTW (by omega) ?_;unfold aFx;split
       · have:=aDb v.2.1 h.2.1
         unfold Sm;omega
       · exact h.2.2
theorem aK3 {L:List V3} (h : ∀ v∈L,Vs v) (i:Nat):Vs (L.getD i nul):=by
 by_cases hi:i<L.length
 · rw[List.getD_eq_getElem?_getD,List.getElem?_eq_getElem hi];exact h _ (List.getElem_mem _)
 · rw[List.getD_eq_getElem?_getD,List.getElem?_eq_none (by omega)];exact aAC
theorem aM9 : ∀ {L:List V3},(∀ v∈L,Vs v)→Vs (aCA L)
 | [],_=>aAC
 | v::L,h=>by
  rw[aCA];split
  · exact aM9 fun u hu=>h u (by simp[hu])
  · exact h v (by simp)
theorem aPn (f:List UInt8) (L:List V3) (h : ∀ v∈L,Vs v):I64 (aLY f L).1.2.1:=by
 have z:I64 0:=aAm _ (by decide);have zt : ∀ s,I64 (txt s).1.2.1:=fun s=>z;have zn:I64 (nul:V3).2.1:=z;have g:=aK3 h;unfold aLY;split
 · exact zt _
 split
 · exact zt _
 split
 · unfold catR;split
   · exact zn
   · exact z
 split
 · exact (aM9 h).2.1
 split
 · by_cases hc:cmpV (L.getD 0 nul) (L.getD 1 nul) 0=0
   · simp only[if_pos hc]; exact zn
   · simp only[if_neg hc]; exact (g 0).2.1
 split
 · exact zn
 unfold sevV;have hr:=aBv (g 0);unfold Sm at hr;split
 · unfold aH7;split
   · have:=aJw (rawL (L.getD 0 nul)) (rawL (L.getD 1 nul)) 0
     show I64 (_+1);unfold I64; omega
   · exact zn
 split
 · unfold aHO;split
   · exact zn
   · exact zt _
 split
 · unfold aDy;split
   · split
     · exact z
     · exact zn
   · split
     · exact z
     · exact zn
   · exact zn
 split
 · unfold aNK;split
   · show I64 (if _ then _ else _)
     split <;> exact aAm _ (by decide)
   · exact zn
 unfold aJh;split
 · show I64 ((rawL (L.getD 0 nul)).length:Int);unfold I64; omega
 split
 · exact zt _
 split
 · have gi:=(g 0).2.1;unfold aLd;split
   · split
     · show I64 (if _ then _ else _)
       split
       · exact aAm _ (by decide)
       · split <;> exact aAm _ (by decide)
     · split
       · exact zn
       · show I64 (if (L.getD 0 nul).2.1<0 then -(L.getD 0 nul).2.1 else (L.getD 0 nul).2.1)
         unfold I64 at gi ⊢;split <;> omega
   · exact zn
 · unfold letV;split
   · exact zn
   · exact z
theorem aUv (op:List UInt8) (L:List V3) (h : ∀ v∈L,Vs v):Vs (resC op L).1:=by
 have h1:=aJM (aVi op L);refine⟨aJo h1.1,?_,by unfold Sm; omega⟩;unfold resC;split
 · split
   · unfold fitP;split
     · exact aAm 0 (by decide)
     · split
       · exact aPn _ _ h
       · exact aAm 0 (by decide)
   · exact aAm 0 (by decide)
 · exact aAm 0 (by decide)
theorem aTV (k:Int) (op:List UInt8) (v:V3) (sl:Int) (nt:Bool) (L row:List V3) (hv:Vs v) (hL : ∀ a∈L,Vs a) (hr : ∀ a∈row,Vs a):Vs (aOa k op v sl nt L row).1:=by
 have g:=aK3 hL;unfold aOa;split
 · exact hv
 split
 · split
   · exact aAC
   · exact aK3 hr _
 split
 · exact aVU op _ (g 0).2.1
 split
 · exact aVC op _ _ (g 0).2.1 (g 1).2.1
 split
 · exact aFF _ _
 split
 · exact aQs _ _
 split
 · exact aQs _ _
 split
 · unfold aKR;split
   · exact aAC
   · split
     · exact aAC
     · exact aFF _ _
 split
 · exact aUv op L hL
 · unfold aKC;split
   · exact aLa _ _ (g 0)
   · split
     · exact aLa _ _ (g 0)
     · split
       · exact aLa _ _ (g 0)
       · exact aAC
theorem aJi (base:Option V3) : ∀ (n:Nat) (X:List (V3×Int)),X.length≤n→(∀ x∈X,Vs x.1)→Vs (aC5 base X).1
 | _,[],_,_=>aAC
 | _,[x],_,h=>h x (by simp)
 | 0,_::_::_,hn,_=>by simp at hn
 | n+1,c::r::Y,hn,h=>by
  rw[aC5];split
  · exact aAC
  · split
    · exact h r (by simp)
    · exact aJi base n Y (by simp at hn; omega) fun x hx=>h x (by simp[hx])
theorem aUW (ds:Bool) (X:List (V3×Int)) (h : ∀ x∈X,Vs x.1):Vs (casV ds X).1:=by
 unfold casV;split
 · split
   · exact aAC
   · rename_i b Y;split
     · exact aAC
     · exact aJi _ _ Y (Nat.le_refl _) fun x hx=>h x (by simp[hx])
 · exact aJi _ _ X (Nat.le_refl _) h
theorem aVo (k:Int) (op:List UInt8) (v:V3) (sl:Int) (nt ds:Bool) (X:List (V3×Int)) (row:List V3) (hv:Vs v) (hX : ∀ x∈X,Vs x.1) (hr : ∀ a∈row,Vs a):Vs (topV k op v sl nt ds X row).1:=by
 unfold topV;split
 · split
   · exact aAC
   · exact aUW ds X hX
 · unfold aRM;split
   · exact aAC
   · split
     · exact aAC
     · refine aT7 (aTV k op v sl nt _ row hv (fun a ha=>?_) hr);obtain⟨x,hx,rfl⟩:=List.mem_map.1 ha;exact hX x hx
mutual
theorem aVO (row:List V3) (hr : ∀ a∈row,Vs a) : ∀ e:Xp,Fv e→Vs (evX row e).1
 | .mk k op v tb nm sl nt ds args,h=>by
  simp only[Fv] at h;rw[evX];exact aVo k op v sl nt ds _ row h.1.2.1 (aP8 row hr args h.2.2.2) hr
theorem aP8 (row:List V3) (hr : ∀ a∈row,Vs a) : ∀ l:List Xp,Fvs l→∀ x∈evXs row l,Vs x.1
 | [],_,x,h=>by cases h
 | e::l,hf,x,h=>by
  simp only[Fvs] at hf;rw[evXs] at h;rcases List.mem_cons.1 h with rfl | h
  · exact aVO row hr e hf.1
  · exact aP8 row hr l hf.2 x h
end
section
variable (k:Int) (op:List UInt8) (v:V3) (tb nm:List UInt8) (sl:Int) (nt ds:Bool) (args:List Xp) (row:List V3)
theorem aTv (L:List V3) (hk:k≠9) (hm:mayV k ds L.length=0) (hL : ∀ a∈L,Vs a) (hop:Sm op) (hl:L.length≤1000000):FnC Tryz.prog 32 [xD (.mk k op v tb nm sl nt ds args),.c (.vs (vc L)),.c (.vs (vc row))] (tupE (aOa k op v sl nt L row)):=by
 rcases aJq k ds hm with ⟨h1 | h1,h2⟩ | ⟨h1 | h1,h2⟩ | ⟨h1 | h1 | h1,h2⟩ | ⟨h1,h2⟩ | ⟨h1,h2⟩ | ⟨h1,h2⟩ | h1
 all_goals subst h1
 · rw[List.length_eq_zero_iff.1 h2]; exact aRW op v tb nm sl nt ds args row
 · rw[List.length_eq_zero_iff.1 h2]; exact aSk op v tb nm sl nt ds args row
 · obtain⟨a,rfl⟩:=len1 h2; exact aTh op v tb nm sl nt ds args row a (hL a (by simp)).2.1
 · obtain⟨a,rfl⟩:=len1 h2; exact aQg op v tb nm sl nt ds args row a (hL a (by simp)).2.1 (hL a (by simp)).sz
 · obtain⟨a,b,rfl⟩:=len2 h2; exact aRE op v tb nm sl nt ds args row a b (hL a (by simp)).2.1 (hL b (by simp)).2.1 (hL a (by simp)).sz (hL b (by simp)).sz
 · obtain⟨a,b,rfl⟩:=len2 h2; exact aTR op v tb nm sl nt ds args row a b (hL a (by simp)).sz (hL b (by simp)).sz
 · obtain⟨a,b,rfl⟩:=len2 h2; exact aOr op v tb nm sl nt ds args row a b (hL a (by simp)) (hL b (by simp))
 · match L,h2,hL,hl with
   | a::R,_,hL,hl=>exact aTC op v tb nm sl nt ds args row a R (hL a (by simp)).sz (fun x hx=>(hL x (by simp[hx])).sz) (by simp at hl; omega)
 · obtain⟨a,b,c,rfl⟩:=len3 h2; exact aKG op v tb nm sl nt ds args row a b c (hL a (by simp)).sz (hL b (by simp)).sz (hL c (by simp)).sz
 · exact absurd rfl hk
 · exact aTg op v tb nm sl nt ds args row L hop (by omega) hL
theorem aVA (X:List (V3×Int)) (hX:X.length=args.length) (hv:Vs v) (hop:Sm op) (hl:args.length≤1000000) (hG : ∀ x∈X,Vs x.1)
 (hA : ∀ i (h:i<args.length),EvR row args[i] (X.getD i (nul,0))):EvR row (.mk k op v tb nm sl nt ds args) (topV k op v sl nt ds X row):=by
 unfold topV;rw[hX];by_cases hk:k=9
 · subst hk;rw[if_pos rfl];have hm:=aSO 9 op v tb nm sl nt ds args;have hc:=fun h=>aUq row 9 op v tb nm sl nt ds args X hX (fun x hx=>(hG x hx).sz) h hA;unfold EvR;unfold xD at hm hc ⊢;simp only[Xp.cells] at hm hc ⊢;refine w13 9 (bs op) v.1 v.2.1 (bs v.2.2) (bs tb) (bs nm) sl nt ds (xcs args) (vc row) ⟨_,hm,fun h=>by rw[if_pos h]; rfl,fun h=>?_⟩;rw[if_neg h];refine⟨fun _=>⟨_,_,_,_,hc fun hd=>?_,rfl⟩,fun h=>absurd rfl h⟩
   have:=aJq 9 ds (Classical.not_not.1 h)
   unfold okN at this;rw[hd] at this;simp at this;omega
 · rw[if_neg hk]
   have hn:=aLy k op v tb nm sl nt ds args row hk (by omega) X hX (fun _=>hA) (aOa k op v sl nt (X.map (·.1)) row) (fun h1 h2=>aTv k op v tb nm sl nt ds args row (X.map (·.1)) hk (by rw[List.length_map,hX]; exact h1) (fun a ha=>by
    obtain⟨x,hx,rfl⟩:=List.mem_map.1 ha
    exact hG x hx) hop (by rw[List.length_map,hX]; exact hl))
   exact hn
end
mutual
theorem aRZ (row:List V3) (hr : ∀ a∈row,Vs a) : ∀ e:Xp,Fv e→EvR row e (evX row e)
 | .mk k op v tb nm sl nt ds args,h=>by
  simp only[Fv] at h;rw[evX];exact aVA k op v tb nm sl nt ds args row (evXs row args) (aMk row args) h.1.2.1 h.2.1.1 h.2.2.1 (aP8 row hr args h.2.2.2) (aSP row hr args h.2.2.2)
theorem aSP (row:List V3) (hr : ∀ a∈row,Vs a) : ∀ l:List Xp,Fvs l→∀ i (h:i<l.length),EvR row l[i] ((evXs row l).getD i (nul,0))
 | [],_,i,h=>absurd h (by simp)
 | e::l,hf,0,_=>by
  simp only[Fvs] at hf;exact aRZ row hr e hf.1
 | e::l,hf,i+1,h=>by
  simp only[Fvs] at hf;exact aSP row hr l hf.2 i (by simpa using h)
end
end
section
open Go.RowKit Go.IntWalk
attribute [local go_sem] Oper.semAt_some
section
variable {g4 g5 g6:Nat} {W:World}
def StopPh (g4 g5 g6:Nat) (zq:Nat) (W0:World) (d4 d5:Bool) (w':World):Prop :=
 KeepG (fun b=>b=g4∨b=g5∨b=g6) W0 w'∧w'.heap[g4]? = some (.cells z11 26 (0,0))∧w'.heap[g5]? = some (.cells #[.int .i64 (match d4 with | false=>0 | true=>(zq:Int))] 3 (0,0))∧w'.heap[g6]? = some (.cells #[.int .i64 (match d5 with | false=>0 | true=>20)] 32 (0,0))
def aUo (g4 g5 g6:Nat) (zq:Nat) (W w':World):Prop :=
 KeepG (fun b=>b=g4∨b=g5∨b=g6) W w'∧w'.heap[g4]? = some (.cells z11 26 (0,0))∧w'.heap[g5]? = some (.cells #[.int .i64 (zq:Int)] 3 (0,0))∧w'.heap[g6]? = some (.cells #[.int .i64 20] 32 (0,0))
theorem StopPh.stopW {zq:Nat} {o:Obj} {w':World} (h:StopPh g4 g5 g6 zq (W.alloc o) true true w'):aUo g4 g5 g6 zq W w' :=
 ⟨((KeepG.refl (S:=(fun b=>b=g4∨b=g5∨b=g6))).alloc o).trans h.1,h.2.1,h.2.2.1,h.2.2.2⟩
theorem aVk (w:World):(Instr.typeAssert Value.nilIface 20 71 true).run Tryz.prog w = .ok (.tuple #[.agg #[.int .i64 0],.bool false]) w:=by kernel_rfl
theorem aTf (q:Int) (w:World):(Instr.typeAssert (.iface 71 (.agg #[.int .i64 q])) 20 71 true).run Tryz.prog w = .ok (.tuple #[.agg #[.int .i64 q],.bool true]) w:=by kernel_rfl
set_option maxRecDepth 100000 in
theorem aIm:CallsD Tryz.prog 36 #[.pointer (some ⟨g4,0,none⟩),.pointer (some ⟨g5,0,none⟩),.pointer (some ⟨g6,0,none⟩)] .returning W fun e u' w'=>e = .returned (.tuple #[])∧u' = .returning∧Below W.heap.size W w':=by
 refine callsD_of_wpS Tryz.func36 rfl fun c₀ cs hu=>?_;apply wpS_seq;apply wpS_region;simp[wpOpsS,go_sem,recoverD,hu,Tryz.ntmps36,Exit.thenS,aVk];apply wpS_seq;apply wpS_region;simp[wpOpsS,go_sem,Exit.thenS];refine wpS_cond (t:=false) (by simp[Act.eval,Array.replicate]) ?_;simp only[Bool.false_eq_true,if_false];refine wpS_of_wp (wp_skip ?_);cases c₀;simp_all [bodyPostS,results,Tryz.results36];exact (Below.refl _ _).alloc (Nat.le_refl _) _
set_option maxHeartbeats 8000000 in
set_option maxRecDepth 100000 in
theorem aNO (zq:Nat) (older:List PanicEntry) (h45:g4<g5) (h56:g5<g6) (h4:W.heap[g4]? = some (.cells z11 26 (0,0))) (h5:W.heap[g5]? = some (.cells #[.int .i64 0] 3 (0,0))) (h6:W.heap[g6]? = some (.cells #[.int .i64 0] 32 (0,0))) :
 CallsD Tryz.prog 36 #[.pointer (some ⟨g4,0,none⟩),.pointer (some ⟨g5,0,none⟩),.pointer (some ⟨g6,0,none⟩)] (.panicking ({ v:=.iface 71 (.agg #[.int .i64 (zq:Int)]),recovered:=false }::older)) W fun e u' w'=>e = .returned (.tuple #[])∧u' = .panicking ({ v:=.iface 71 (.agg #[.int .i64 (zq:Int)]),recovered:=true }::older)∧aUo g4 g5 g6 zq W w':=by
 refine callsD_of_wpS Tryz.func36 rfl fun c₀ cs hu=>?_;apply wpS_seq;apply wpS_region;simp[wpOpsS,go_sem,recoverD,hu,Tryz.ntmps36,Exit.thenS,aTf];apply wpS_seq;apply wpS_region;simp[wpOpsS,go_sem,Exit.thenS];refine wpS_cond (t:=true) (by simp[Act.eval,Array.replicate]) ?_;simp only[if_true];refine wpS_of_wp ?_;have l4:=(Array.getElem?_eq_some_iff.1 h4).1;have l5:=(Array.getElem?_eq_some_iff.1 h5).1;have l6:=(Array.getElem?_eq_some_iff.1 h6).1;obtain⟨W0,hW0⟩ : ∃ W0,W0=W.alloc (.cells #[.int .i64 (zq:Int)] 71):=⟨_,rfl⟩
 have hB:Below W.heap.size W W0:=by rw[hW0]; exact (Below.refl _ _).alloc (Nat.le_refl _) _
 have hn0:W0.heap[W.heap.size]? = some (.cells #[.int .i64 (zq:Int)] 71 (0,0)):=by rw[hW0]; exact aAl _ _
 have hst : ∀ w',StopPh g4 g5 g6 zq W0 true true w'→aUo g4 g5 g6 zq W w':=fun w' h=>by rw[hW0] at h; exact h.stopW
 rw[←hW0];clear hW0;have hH0:StopPh g4 g5 g6 zq W0 false false W0.drew:=⟨KeepG.refl.drew,(hB.block _ l4).trans h4,(hB.block _ l5).trans h5,(hB.block _ l6).trans h6⟩;simp only[Array.replicate,List.reduceReplicate,List.setIfInBounds_toArray,List.set_cons_zero,List.set_cons_succ,List.append_toArray,List.cons_append,List.nil_append];rw[←wpIn_wide (n:=0)]
 refine aAt (by kernel_rfl) (fun _=>trivial) rfl (fun f args w R h=>callsIn_wide.2 h) (by kernel_rfl)
  (fun (r:Unit) q=>match q with | 0=>.agg z11 | 1=>.pointer (some ⟨W.heap.size,0,none⟩) | 2=>.int .i64 (zq:Int) | _=>undef)
  (fun r D w'=>StopPh g4 g5 g6 zq W0 (D 4) (D 5) w') () hH0 ?steps ?rdone
 case steps =>
  intro DD q o r aa W3 hop hDq hcl hdep hA hH;have hq:q<6:=(Array.getElem?_eq_some_iff.1 hop).1
  have:q=0∨q=1∨q=2∨q=3∨q=4∨q=5:=by omega
  rcases this with rfl | rfl | rfl | rfl | rfl | rfl
  all_goals (simp only[List.getElem?_toArray,List.getElem?_cons_zero,List.getElem?_cons_succ,Option.some.injEq] at hop; subst hop)
  · exact .inl (.inl ⟨r,W3,by simp,(by simp[execOp,go_sem]),fun _ _=>rfl,hH⟩)
  · have e3:=hA.keep 3 (by kernel_rfl);exact .inl (.inl ⟨r,W3,by simp,(by simp[execOp,go_sem,e3]),fun _ _=>rfl,hH⟩)
  · have e12:=hA.was 1 12 rfl (hdep ⟨1,.data⟩ (by simp) rfl) (by simp)
    have hld:W3.cell? ⟨W.heap.size,0,none⟩=some (.int .i64 (zq:Int)):=by
     have:=hH.1.keepLt hn0 (by omega)
     simp[World.cell?,this]
    exact .inl (.inl ⟨r,W3,by simp,(by simp[execOp,go_sem,e12,hld]),fun _ _=>rfl,hH⟩)
  · have e0:=hA.keep 0 (by kernel_rfl);have e11:=hA.was 0 11 rfl (hdep ⟨0,.data⟩ (by simp) rfl) (by simp);obtain⟨hK,h4,h5,h6⟩:=hH;obtain⟨p0,p1,p2,p3,p4,p5,p6,p7,p8,p9,p10,pf⟩:=aAf h4;refine .inr (.inl ⟨_,rfl,by simp,(by simp[execOp,go_sem,e0,e11,p0,p1,p2,p3,p4,p5,p6,p7,p8,p9,p10,pf]; rfl),?_⟩);have hA:=aBD h4 (.int .i64 0) (.string ⟨#[]⟩) (.int .i64 0) (.int .i64 0) (.string ⟨#[]⟩) (.string ⟨#[]⟩) (.string ⟨#[]⟩) (.int .i64 0) (.bool false) (.bool false) (.slice none 0 0);have hB:=fun (g:Nat) (hg:g≠g4)=>aAw (w:=W3) hg (.int .i64 0) (.string ⟨#[]⟩) (.int .i64 0) (.int .i64 0) (.string ⟨#[]⟩) (.string ⟨#[]⟩) (.string ⟨#[]⟩) (.int .i64 0) (.bool false) (.bool false) (.slice none 0 0);exact⟨hK.set11 (S:=(fun b=>b=g4∨b=g5∨b=g6)) (.inl rfl) _ _ _ _ _ _ _ _ _ _ _,hA,(hB _ (by omega)).trans h5,(hB _ (by omega)).trans h6⟩
  · have e1:=hA.keep 1 (by kernel_rfl);have e13:=hA.was 2 13 rfl (hdep ⟨2,.data⟩ (by simp) rfl) (by simp);obtain⟨hK,h4,h5,h6⟩:=hH;rw[hDq] at h5
    have p0:W3.cell? ⟨g5,0,none⟩=some (.int .i64 0):=by simp[World.cell?,h5]
    have pf : ∀ o,W3.frozen? ⟨g5,o,none⟩=false:=fun o=>by simp[World.frozen?,h5]
    refine .inr (.inl ⟨_,rfl,by simp,(by simp[execOp,go_sem,e1,e13,p0,pf]; rfl),?_⟩);have hB : ∀ g,g≠g5→(W3.setCell ⟨g5,0,none⟩ (.int .i64 (zq:Int))).heap[g]? = W3.heap[g]?:=fun g hg=>Below.heap_setCell _ _ _ _ hg;have hA:=Go.heap_setCell_same W3 g5 0 _ _ (.int .i64 (zq:Int)) h5;show StopPh g4 g5 g6 zq W0 true (DD 5) _;exact⟨hK.set (S:=(fun b=>b=g4∨b=g5∨b=g6)) (.inr (.inl rfl)) _ _,(hB _ (by omega)).trans h4,by simpa using hA,(hB _ (by omega)).trans h6⟩
  · have e2:=hA.keep 2 (by kernel_rfl);obtain⟨hK,h4,h5,h6⟩:=hH;rw[hDq] at h6
    have p0:W3.cell? ⟨g6,0,none⟩=some (.int .i64 0):=by simp[World.cell?,h6]
    have pf : ∀ o,W3.frozen? ⟨g6,o,none⟩=false:=fun o=>by simp[World.frozen?,h6]
    refine .inr (.inl ⟨_,rfl,by simp,(by simp[execOp,go_sem,e2,p0,pf]; rfl),?_⟩);have hB : ∀ g,g≠g6→(W3.setCell ⟨g6,0,none⟩ (.int .i64 20)).heap[g]? = W3.heap[g]?:=fun g hg=>Below.heap_setCell _ _ _ _ hg;have hA:=Go.heap_setCell_same W3 g6 0 _ _ (.int .i64 20) h6;show StopPh g4 g5 g6 zq W0 (DD 4) true _;exact⟨hK.set (S:=(fun b=>b=g4∨b=g5∨b=g6)) (.inr (.inr rfl)) _ _,(hB _ (by omega)).trans h4,(hB _ (by omega)).trans h5,by simpa using hA⟩
 case rdone =>
  intro DD r aa W4 hall hA hH;have ha:=hA.eq (goodR.apart (by kernel_rfl)) hall;simp only[aCS,Act.put,List.setIfInBounds_toArray,List.set_cons_zero,List.set_cons_succ] at ha;subst ha;rw[hall 4 (by decide),hall 5 (by decide)] at hH;have hS:=hst _ hH;clear hst hH hA hall hH0 hB hn0 h4 h5 h6;cases c₀;simp[bodyPostS,results,Tryz.results36];exact hS
end
end
end Go.Proofs.YtcdeimjlgpfjiaaGreatDoor
