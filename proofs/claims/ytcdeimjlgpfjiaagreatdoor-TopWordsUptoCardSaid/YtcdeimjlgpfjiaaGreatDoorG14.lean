/- A parser of expressions over tokens, as a plain function; the parser's own block in memory. No condition. -/
import Derived.Test.YtcdeimjlgpfjiaaGreatDoorG13
import Derived.Test.YtcdeimjlgpfjiaaGreatDoorG12
import Derived.WalkLawsBesides
import Derived.Test.YtcdeimjlgpfjiaaGreatDoorG08
import Derived.OrdersIn
import Derived.TacticsIn
import Derived.OwnWalkIn
set_option linter.unusedSimpArgs false
set_option linter.unusedVariables false
namespace Go.Proofs.YtcdeimjlgpfjiaaGreatDoor
section
open Go.RowKit Go.IntWalk
inductive PR (α:Type) where
 | ok (a:α) (at_:Nat)
 | stop (at_:Nat)
 | out
def PR.bind {α β:Type}:PR α→(α→Nat→PR β)→PR β
 | .ok a i,f=>f a i
 | .stop i,_=>.stop i
 | .out,_=>.out
abbrev nulX:Xp:=.mk 0 [] nul [] [] 0 false false []
def isP (l:List Tok) (i:Nat) (kind:Int) (s:List UInt8):Bool:=decide (i<l.length)&&(l.getD i default).kd==kind&&(l.getD i default).tx==s
def oneP (l:List Tok) (kind:Int) (i:Nat):List (List UInt8)→Option (List UInt8)
 | []=>none
 | s::r=>if isP l i kind s=true then some s else oneP l kind i r
def aAB (l:List Tok) (kind:Int) (s:List UInt8) (i:Nat):PR Unit:=if isP l i kind s=true then .ok () (i+1) else .stop i
def aBg (l:List Tok) (kind:Int) (i:Nat):Bool:=decide (i<l.length)&&(l.getD i default).kd==kind
def aDB (l:List Tok) (part:Nat→PR Xp) (kind:Int) (ops:List (List UInt8)):Nat→Xp→Nat→PR Xp
 | 0,e,i=>.out
 | n+1,e,i=>match oneP l kind i ops with
  | none=>.ok e i
  | some op=>(part (i+1)).bind fun b j=>aDB l part kind ops n (.mk 4 op nul [] [] 0 false false [e,b]) j
def aBt (l:List Tok) (part:Nat→PR Xp) (kind:Int) (ops:List (List UInt8)) (i:Nat):PR Xp:=(part i).bind fun e j=>aDB l part kind ops (l.length+1) e j
def aE9 (l:List Tok) (ex:Nat→PR Xp):Nat→List Xp→Nat→PR (List Xp)
 | 0,L,i=>.out
 | n+1,L,i=>if isP l i 4 [44]=true then (ex (i+1)).bind fun e j=>aE9 l ex n (L++[e]) j else (aAB l 4 [41] i).bind fun _ j=>.ok L j
def aCw (l:List Tok) (ex:Nat→PR Xp) (i:Nat):PR (List Xp):=(ex i).bind fun e j=>aE9 l ex (l.length+1) [e] j
inductive Sy where
 | expr | conj | neg | comp | sum | prod | join | sgn | plain
def aFA (l:List Tok) (ex:Nat→PR Xp) (op:List UInt8) (i:Nat):PR Xp :=
 if op=[99,111,117,110,116]∨op=[115,117,109]∨op=[109,105,110]∨op=[109,97,120]∨op=[97,118,103]∨op=[116,111,116,97,108] then
  (if op=[99,111,117,110,116]∧isP l i 4 [42]=true then (aAB l 4 [41] (i+1)).bind fun _ j=>.ok (.mk 11 op nul [] [] 0 false false []) j
  else (ex (if isP l i 2 [100,105,115,116,105,110,99,116]=true then i+1 else i)).bind fun e j=>(aAB l 4 [41] j).bind fun _ k=>.ok (.mk 11 op nul [] [] 0 false (isP l i 2 [100,105,115,116,105,110,99,116]) [e]) k)
 else if isP l i 4 [41]=true then .ok (.mk 10 op nul [] [] 0 false false []) (i+1)
 else (aCw l ex i).bind fun L j=>.ok (.mk 10 op nul [] [] 0 false false L) j
def aCZ (l:List Tok) (ex:Nat→PR Xp) (name:List UInt8) (i:Nat):PR Xp :=
 if isP l i 4 [46]=true then (if aBg l 1 (i+1)=true then .ok (.mk 2 [] nul name (l.getD (i+1) default).tx 0 false false []) (i+2) else .stop (i+1))
 else if isP l i 4 [40]=true then aFA l ex (aAn name) (i+1)
 else .ok (.mk 2 [] nul [] name 0 false false []) i
def aCa (l:List Tok) (ex:Nat→PR Xp) (ds:Bool):Nat→List Xp→Nat→PR Xp
 | 0,L,i=>.out
 | n+1,L,i=>(ex i).bind fun w j=>(aAB l 2 [116,104,101,110] j).bind fun _ k=>(ex k).bind fun t m =>
  if isP l m 2 [119,104,101,110]=true then aCa l ex ds n (L++[w,t]) (m+1)
  else (if isP l m 2 [101,108,115,101]=true then (ex (m+1)).bind fun e q=>.ok (L++[w,t]++[e]) q else .ok (L++[w,t]) m).bind fun L' q=>(aAB l 2 [101,110,100] q).bind fun _ r=>.ok (.mk 9 [] nul [] [] 0 false ds L') r
def aC6 (l:List Tok) (ex:Nat→PR Xp) (i:Nat):PR Xp :=
 (if isP l i 2 [119,104,101,110]=true then .ok ([],false) i else (ex i).bind fun e j=>.ok ([e],true) j).bind fun p j=>(aAB l 2 [119,104,101,110] j).bind fun _ k=>aCa l ex p.2 (l.length+1) p.1 k
def tyB (s:List UInt8):Bool:=s==[105,110,116]||s==[116,101,120,116]||s==[98,108,111,98]
def aFr (l:List Tok) (ex:Nat→PR Xp) (i:Nat):PR Xp :=
 (aAB l 4 [40] i).bind fun _ j=>(ex j).bind fun e k=>(aAB l 2 [97,115] k).bind fun _ m =>
  if (aBg l 2 m||aBg l 1 m)&&tyB (aAn (l.getD m default).tx)=true then (aAB l 4 [41] (m+1)).bind fun _ q=>.ok (.mk 12 (aAn (l.getD m default).tx) nul [] [] 0 false false [e]) q else .stop m
def aEn (l:List Tok) (ex:Nat→PR Xp) (i:Nat):PR Xp :=
 if aBg l 3 i=true then .ok (.mk 1 [] (l.getD i default).vl [] [] 0 false false []) (i+1)
 else if aBg l 1 i=true then aCZ l ex (l.getD i default).tx (i+1)
 else if isP l i 2 [110,117,108,108]=true then .ok (.mk 1 [] nul [] [] 0 false false []) (i+1)
 else if isP l i 2 [99,97,115,101]=true then aC6 l ex (i+1)
 else if isP l i 2 [99,97,115,116]=true then aFr l ex (i+1)
 else if isP l i 4 [40]=true then (ex (i+1)).bind fun e j=>(aAB l 4 [41] j).bind fun _ k=>.ok e k
 else .stop i
def aLX (n:Int):Int:=IntKind.wrap .i64 (-n)
def aHL (l:List Tok) (sg pl:Nat→PR Xp) (i:Nat):PR Xp:=match oneP l 4 i [[45],[43]] with
 | none=>pl i
 | some op=>if op=[45]∧aBg l 3 (i+1)=true∧(l.getD (i+1) default).vl.1=1 then .ok (.mk 1 [] ((l.getD (i+1) default).vl.1,aLX (l.getD (i+1) default).vl.2.1,(l.getD (i+1) default).vl.2.2) [] [] 0 false false []) (i+2)
  else (sg (i+1)).bind fun e j=>.ok (.mk 3 op nul [] [] 0 false false [e]) j
def aLt (l:List Tok) (sm ex:Nat→PR Xp) (i:Nat):PR Xp:=(sm i).bind fun e i=>match oneP l 4 i [[61],[60,62],[60],[60,61],[62],[62,61]] with
 | some op=>(sm (i+1)).bind fun b j=>.ok (.mk 4 op nul [] [] 0 false false [e,b]) j
 | none=>if isP l i 2 [105,115]=true then (sm (if isP l (i+1) 2 [110,111,116]=true then i+2 else i+1)).bind fun b j=>.ok (.mk 5 [] nul [] [] 0 (isP l (i+1) 2 [110,111,116]) false [e,b]) j
  else (fun (nt:Bool) (i:Nat) =>
   if isP l i 2 [105,110]=true then (aAB l 4 [40] (i+1)).bind fun _ j=>(aCw l ex j).bind fun L k=>.ok (.mk 6 [] nul [] [] 0 nt false (e::L)) k
   else if isP l i 2 [98,101,116,119,101,101,110]=true then (sm (i+1)).bind fun b j=>(aAB l 2 [97,110,100] j).bind fun _ k=>(sm k).bind fun c m=>.ok (.mk 7 [] nul [] [] 0 nt false [e,b,c]) m
   else if isP l i 2 [108,105,107,101]=true then (sm (i+1)).bind fun b j=>.ok (.mk 8 [] nul [] [] 0 nt false [e,b]) j
   else .ok e i) (isP l i 2 [110,111,116]&&(isP l (i+1) 2 [105,110]||isP l (i+1) 2 [98,101,116,119,101,101,110]||isP l (i+1) 2 [108,105,107,101]))
   (if (isP l i 2 [110,111,116]&&(isP l (i+1) 2 [105,110]||isP l (i+1) 2 [98,101,116,119,101,101,110]||isP l (i+1) 2 [108,105,107,101]))=true then i+1 else i)
def aVR (l:List Tok) (r:Sy→Nat→PR Xp):Sy→Nat→PR Xp
 | .expr=>aBt l (r .conj) 2 [[111,114]]
 | .conj=>aBt l (r .neg) 2 [[97,110,100]]
 | .neg=>fun i=>if isP l i 2 [110,111,116]=true then (r .neg (i+1)).bind fun e j=>.ok (.mk 3 [110,111,116] nul [] [] 0 false false [e]) j else r .comp i
 | .comp=>aLt l (r .sum) (r .expr)
 | .sum=>aBt l (r .prod) 4 [[43],[45]]
 | .prod=>aBt l (r .join) 4 [[42],[47],[37]]
 | .join=>aBt l (r .sgn) 4 [[124,124]]
 | .sgn=>aHL l (r .sgn) (r .plain)
 | .plain=>aEn l (r .expr)
def runP (l:List Tok):Nat→Sy→Nat→PR Xp
 | 0=>fun _ _=>.out
 | n+1=>aVR l (runP l n)
end
section
open Go.RowKit Go.IntWalk
attribute [local go_sem] Oper.semAt_some
theorem aVK (l:List Tok) : ∀ el∈tc l,el.length=6:=by
 intro el h;obtain⟨t,_,rfl⟩:=List.mem_map.1 h;rfl
structure PW (l:List Tok) (pb:Nat) (la:Option Addr) (lc:Nat) (W:World) (i:Nat):Prop where
 cell:W.heap[pb]? = some (.cells #[.slice la l.length lc,.int .i64 (i:Int)] 75 (0,0))
 toks:CVR W (fun b=>b=pb) (.vs (tc l)) (.slice la l.length lc)
 le:i≤l.length
 big:l.length≤100000
 glo:Glo W
 ng : ∀ g∈aEv,g≠pb
structure KeepP (pb:Nat) (w w':World):Prop where
 os:w'.os=w.os
 tape:w'.tape=w.tape
 output:w'.output=w.output
 size:w.heap.size≤w'.heap.size
 heap : ∀ b,b<w.heap.size→b≠pb→w'.heap[b]? = w.heap[b]?
theorem KeepP.refl (pb:Nat) (w:World):KeepP pb w w:=⟨rfl,rfl,rfl,Nat.le_refl _,fun _ _ _=>rfl⟩
theorem KeepP.trans {pb:Nat} {a b c:World} (h:KeepP pb a b) (g:KeepP pb b c):KeepP pb a c :=
 ⟨g.os.trans h.os,g.tape.trans h.tape,g.output.trans h.output,Nat.le_trans h.size g.size,fun x hx hn=>(g.heap x (Nat.lt_of_lt_of_le hx h.size) hn).trans (h.heap x hx hn)⟩
theorem aAo {pb:Nat} {w w':World} (h:Below w.heap.size w w'):KeepP pb w w':=⟨h.os,h.tape,h.output,h.size,fun b hb _=>h.block b hb⟩
theorem KeepP.cv {pb:Nat} {w w':World} {c:CV} {v:Value} (h:KeepP pb w w') (hc:CVR w (fun b=>b=pb) c v):CVR w' (fun b=>b=pb) c v :=
 hc.step ⟨fun b hn hlt=>h.heap b hlt hn,fun b hb=>.inl hb,h.size⟩
def nx (i:Nat) (b:Bool):Nat:=if b=true then i+1 else i
section
variable {l:List Tok} {pb:Nat} {la:Option Addr} {lc:Nat} {W W':World} {i:Nat}
theorem PW.lt (h:PW l pb la lc W i):pb<W.heap.size:=(Array.getElem?_eq_some_iff.1 h.cell).1
theorem PW.c0 (h:PW l pb la lc W i):W.cell? ⟨pb,0,none⟩=some (.slice la l.length lc):=by simp[World.cell?,h.cell]
theorem PW.c1 (h:PW l pb la lc W i):W.cell? ⟨pb,1,none⟩=some (.int .i64 (i:Int)):=by simp[World.cell?,h.cell]
theorem PW.fz (h:PW l pb la lc W i) (o:Nat):W.frozen? ⟨pb,o,none⟩=false:=by simp[World.frozen?,h.cell]
theorem PW.kept (h:PW l pb la lc W i) (hK:KeepP pb W W') {j:Nat} (hc:W'.heap[pb]? = some (.cells #[.slice la l.length lc,.int .i64 (j:Int)] 75 (0,0))) (hj:j≤l.length):PW l pb la lc W' j:=⟨hc,hK.cv h.toks,hj,h.big,fun g hg=>by
 obtain⟨m,hm⟩:=h.glo g hg;refine⟨m,?_⟩;have hb:=World.block_lt_of_cell? _ _ hm;rw[←hm];unfold World.cell?;rw[hK.heap _ hb (h.ng g hg)],h.ng⟩
theorem PW.below (h:PW l pb la lc W i) (hB:Below W.heap.size W W'):PW l pb la lc W' i:=h.kept (aAo hB) ((hB.block _ h.lt).trans h.cell) h.le
theorem PW.next (h:PW l pb la lc W i) (hi:i<l.length) {z:Int} (hz:z=((i+1:Nat):Int)):PW l pb la lc (W.setCell ⟨pb,1,none⟩ (.int .i64 z)) (i+1)∧KeepP pb W (W.setCell ⟨pb,1,none⟩ (.int .i64 z)):=by
 have hK:KeepP pb W (W.setCell ⟨pb,1,none⟩ (.int .i64 z)):=⟨rfl,rfl,rfl,by simp,fun b _ hn=>Below.heap_setCell _ _ _ _ hn⟩;refine⟨h.kept hK ?_ (by omega),hK⟩
 have:=Go.heap_setCell_same W pb 1 _ _ (.int .i64 z) h.cell
 subst hz;simpa using this
theorem PW.tok (h:PW l pb la lc W i) {j:Nat} (hj:j<l.length) : ∃ b o,la=some ⟨b,o,none⟩∧b≠pb∧b<W.heap.size∧l.length≤lc ∧
 W.cell? ⟨b,o+j*6,none⟩=some (.int .i64 (l.getD j default).kd)∧W.cell? ⟨b,o+j*6+1,none⟩=some (.string (bs (l.getD j default).tx))∧W.cell? ⟨b,o+j*6+2,none⟩=some (.int .i64 (l.getD j default).vl.1) ∧
 W.cell? ⟨b,o+j*6+3,none⟩=some (.int .i64 (l.getD j default).vl.2.1)∧W.cell? ⟨b,o+j*6+4,none⟩=some (.string (bs (l.getD j default).vl.2.2))∧W.cell? ⟨b,o+j*6+5,none⟩=some (.int .i64 (l.getD j default).pl):=by
 rcases aB6 h.toks with ⟨hnil,a,e⟩ | ⟨b,o,sz,c,g,e,hsz,hc,hcell,hval⟩
 · have:(tc l).length=0:=by rw[hnil]; rfl
   rw[aFT] at this;omega
 · injection e with e1 e2 e3;subst e1 e3
   have hel:(tc l)[j]? = some (l.getD j default).cells:=by simp[tc,hj]
   have h6:sz=6:=(hsz _ (List.mem_of_getElem? hel)).symm;subst h6
   have key : ∀ f v,(l.getD j default).cells[f]? = some (.v v)→W.cell? ⟨b,o+j*6+f,none⟩=some v:=fun f v hf=>by
    obtain⟨_,g2⟩:=hcell j _ hel f _ hf;have g3:=hval j _ hel f _ hf;cases g3;exact g2
   have k0:=key 0 _ rfl;obtain⟨hnb,_⟩:=hcell j _ hel 0 _ rfl;refine⟨b,o,rfl,hnb,World.block_lt_of_cell? _ _ k0,by rw[aFT] at hc; exact hc,k0,key 1 _ rfl,key 2 _ rfl,key 3 _ rfl,key 4 _ rfl,key 5 _ rfl⟩
set_option maxHeartbeats 1000000 in
theorem aEa (h:PW l pb la lc W i) (a:Nat) (ha:a≤1) (kind:Int) (s:List UInt8) :
 Calls Tryz.prog 139 #[.pointer (some ⟨pb,0,none⟩),.int .i64 (a:Int),.int .i64 kind,.string (bs s)] W fun e w'=>e = .returned (.bool (isP l (i+a) kind s))∧w'=W:=by
 have c0:=h.c0;have c1:=h.c1;have hle:=h.le;have hbig:=h.big
 have hw:IntKind.wrap .i64 ((i:Int)+(a:Int))=((i+a:Nat):Int):=by rw[i64_in _ (by omega)]; omega
 by_cases hlt:i+a<l.length
 · obtain⟨b,o,rfl,hnb,hbl,hcap,t0,t1,_⟩:=h.tok hlt
   have hlti:((i+a:Nat):Int)<(l.length:Int):=by omega
   obtain⟨I,hI⟩ : ∃ I,I=i+a:=⟨_,rfl⟩;rw[←hI] at hw hlti t0 t1 hlt ⊢;clear hI;by_cases hk:(l.getD I default).kd=kind
   · have e:isP l I kind s=((l.getD I default).tx==s):=by unfold isP; rw[hk]; simp[hlt]
     rw[e];generalize (l.getD I default).kd=kd at *;generalize (l.getD I default).tx=tx at *;subst hk
     go_enter Tryz.func139,Tryz.ntmps139
     go_wp2_with fail
     go_ret
     refine⟨?_,rfl⟩;show Ending.returned (.bool ((bs tx).toList==(bs s).toList))=_;rw[aVg]
   · have e:isP l I kind s=false:=by unfold isP; rw[beq_false_of_ne hk]; simp
     rw[e];generalize (l.getD I default).kd=kd at *;generalize bs (l.getD I default).tx=tx at *
     go_enter Tryz.func139,Tryz.ntmps139
     go_wp2_with fail
     go_ret
     exact⟨rfl,rfl⟩
 · have e:isP l (i+a) kind s=false:=by unfold isP; simp[hlt]
   have hlti : ¬ ((i+a:Nat):Int)<(l.length:Int):=by omega
   obtain⟨I,hI⟩ : ∃ I,I=i+a:=⟨_,rfl⟩;rw[←hI] at hw hlti e ⊢;rw[e];clear hI
   go_enter Tryz.func139,Tryz.ntmps139
   go_wp2_with fail
   go_ret
   exact⟨rfl,rfl⟩
theorem aEb (hP:PW l pb la lc W i) (kind:Int) (s:List UInt8) :
 Calls Tryz.prog 129 #[.pointer (some ⟨pb,0,none⟩),.int .i64 kind,.string (bs s)] W fun e w'=>e = .returned (.bool (isP l i kind s))∧KeepP pb W w'∧PW l pb la lc w' (nx i (isP l i kind s)):=by
 have hI:=aEa hP 0 (by omega) kind s;rw[Nat.add_zero] at hI;have c1:=hP.c1;have fz:=hP.fz 1;have hle:=hP.le;have hbig:=hP.big;obtain⟨b,hb⟩ : ∃ b,b=isP l i kind s:=⟨_,rfl⟩;rw[←hb] at hI ⊢;have HB:=Lib.hid hb;clear hb
 go_enter Tryz.func129,Tryz.ntmps129
 go_wp2_with fail;refine Calls.mono hI ?_;rintro e w1 ⟨rfl,rfl⟩
 cases b with
 | false =>
  go_wp2_with fail
  go_ret
  exact⟨rfl,KeepP.refl _ _,hP⟩
 | true =>
  have hlt:i<l.length:=by
   have hb:=HB.out.symm;unfold isP at hb;simp only[Bool.and_eq_true,decide_eq_true_eq] at hb;exact hb.1.1
  have hw:IntKind.wrap .i64 ((i:Int)+1)=(i:Int)+1:=i64_in _ (by omega);go_wp2_with fail
  go_ret
  obtain⟨g1,g2⟩:=hP.next hlt (z:=(i:Int)+1) (by omega);exact⟨rfl,g2,g1⟩
theorem aA4 (hP:PW l pb la lc W i) (s:List UInt8) :
 Calls Tryz.prog 130 #[.pointer (some ⟨pb,0,none⟩),.string (bs s)] W fun e w'=>e = .returned (.bool (isP l i 2 s))∧KeepP pb W w'∧PW l pb la lc w' (nx i (isP l i 2 s)):=by
 go_enter Tryz.func130,Tryz.ntmps130
 go_wp2_with fail;refine Calls.mono (aEb hP 2 s) ?_;rintro e w1 ⟨rfl,h1,h2⟩;go_wp2_with fail
 go_ret
 exact⟨rfl,h1,h2⟩
theorem aCk (hP:PW l pb la lc W i) (s:List UInt8) :
 Calls Tryz.prog 147 #[.pointer (some ⟨pb,0,none⟩),.string (bs s)] W fun e w'=>e = .returned (.bool (isP l i 4 s))∧KeepP pb W w'∧PW l pb la lc w' (nx i (isP l i 4 s)):=by
 go_enter Tryz.func147,Tryz.ntmps147
 go_wp2_with fail;refine Calls.mono (aEb hP 4 s) ?_;rintro e w1 ⟨rfl,h1,h2⟩;go_wp2_with fail
 go_ret
 exact⟨rfl,h1,h2⟩
abbrev aOE (i:Nat):Ending:=.panicked [{ v:=.iface 71 (.agg #[.int .i64 (i:Int)]),recovered:=false }]
theorem aBB (hP:PW l pb la lc W i):Calls Tryz.prog 146 #[.pointer (some ⟨pb,0,none⟩)] W fun e w'=>e=aOE i∧w'=W:=by
 have c1:=hP.c1
 go_enter Tryz.func146,Tryz.ntmps146
 go_wp2_with fail;exact⟨rfl,rfl,rfl⟩
def aDJ {α:Type} (l:List Tok) (pb:Nat) (la:Option Addr) (lc:Nat) (W:World) (good:α→Value→World→Prop) (r:PR α) (e:Ending) (w':World):Prop:=match r with
 | .ok x j=>(∃ v,e = .returned v∧good x v w')∧KeepP pb W w'∧PW l pb la lc w' j
 | .stop j=>e=aOE j∧KeepP pb W w'
 | .out=>True
theorem aAK (hP:PW l pb la lc W i) (kind:Int) (s:List UInt8) :
 Calls Tryz.prog 141 #[.pointer (some ⟨pb,0,none⟩),.int .i64 kind,.string (bs s)] W (aDJ l pb la lc W (fun _ v _=>v = .tuple #[]) (aAB l kind s i)):=by
 have hT:=aEb hP kind s;unfold aAB;obtain⟨b,hb⟩ : ∃ b,b=isP l i kind s:=⟨_,rfl⟩;rw[←hb] at hT ⊢;have HB:=Lib.hid hb;clear hb
 go_enter Tryz.func141,Tryz.ntmps141
 go_wp2_with fail;refine Calls.mono hT ?_;rintro e w1 ⟨rfl,h1,h2⟩
 cases b with
 | true =>
  go_wp2_with fail
  go_end0
  exact⟨⟨_,rfl,rfl⟩,h1,h2⟩
 | false =>
  go_wp2_with fail;refine Calls.mono (aBB h2) ?_;rintro e w2 ⟨rfl,rfl⟩;exact⟨rfl,rfl,h1⟩
def oc (ops:List (List UInt8)):List (List CV):=ops.map fun s=>[.v (.string (bs s))]
theorem aOW (ops:List (List UInt8)):(oc ops).length=ops.length:=by simp[oc]
theorem aVT {ops:List (List UInt8)} {X:Nat→Prop} {W:World} {oa:Option Addr} {n oc':Nat} (ho:CVR W X (.vs (oc ops)) (.slice oa n oc')) {k:Nat} (hk:k<ops.length) : ∃ b o,oa=some ⟨b,o,none⟩∧b<W.heap.size∧n=ops.length∧W.cell? ⟨b,o+k,none⟩=some (.string (bs (ops.getD k []))):=by
 rcases aB6 ho with ⟨hnil,a,e⟩ | ⟨b,o,sz,c,g,e,hsz,hc,hcell,hval⟩
 · have:(oc ops).length=0:=by rw[hnil]; rfl
   rw[aOW] at this;omega
 · injection e with e1 e2 e3;subst e1
   have hel:(oc ops)[k]? = some [.v (.string (bs (ops.getD k [])))]:=by simp[oc,hk]
   have h1:sz=1:=(hsz _ (List.mem_of_getElem? hel)).symm;subst h1;obtain⟨_,g2⟩:=hcell k _ hel 0 _ rfl;have g3:=hval k _ hel 0 _ rfl;generalize g k 0=x at g2 g3;cases g3;rw[Nat.mul_one,Nat.add_zero] at g2;exact⟨b,o,rfl,World.block_lt_of_cell? _ _ g2,by rw[e2,aOW],g2⟩
theorem aPr {kind:Int} {ops:List (List UInt8)} {k:Nat} (hk:k<ops.length):oneP l kind i (ops.drop k)=if isP l i kind (ops.getD k [])=true then some (ops.getD k []) else oneP l kind i (ops.drop (k+1)):=by
 rw[List.drop_eq_getElem_cons hk]
 have:ops.getD k []=ops[k]:=by simp[List.getD_eq_getElem?_getD,hk]
 rw[this];rfl
set_option maxHeartbeats 1000000 in
theorem aHa (hP:PW l pb la lc W i) (kind:Int) (ops:List (List UInt8)) (oa:Option Addr) (oc':Nat) (ho:CVR W (fun b=>b=pb) (.vs (oc ops)) (.slice oa ops.length oc')) (hn:ops.length≤100) :
 Calls Tryz.prog 91 #[.pointer (some ⟨pb,0,none⟩),.int .i64 kind,.slice oa ops.length oc'] W fun e w' =>
  e = .returned (.tuple #[.string (bs ((oneP l kind i ops).getD [])),.bool (oneP l kind i ops).isSome])∧KeepP pb W w'∧PW l pb la lc w' (nx i (oneP l kind i ops).isSome):=by
 obtain⟨R,hR⟩ : ∃ R,R=oneP l kind i ops:=⟨_,rfl⟩;rw[←hR];have HR:=Lib.hid hR;clear hR
 go_enter Tryz.func91,Tryz.ntmps91
 go_wp2_with fail
 go_loopw [12] (fun x wr=>∃ k:Nat,x = .int .i64 (k:Nat)∧k≤ops.length∧KeepP pb W wr∧PW l pb la lc wr i∧RowKit.Hid (R=oneP l kind i (ops.drop k))) (fun x _=>ops.length - (intOf x).toNat)
 case atStart=>exact⟨0,by simp,by omega,KeepP.refl _ _,hP,Lib.hid (by rw[List.drop_zero]; exact HR.out)⟩
 case round =>
  obtain⟨k,rfl,hk,hK,hQ,hH⟩:=hrel;by_cases hlt:k<ops.length
  · have hlti:(k:Int)<(ops.length:Int):=by omega
    obtain⟨b,o,rfl,hbl,_,hc⟩:=aVT (hK.cv ho) hlt;have hD:=aPr (l:=l) (i:=i) (kind:=kind) hlt;obtain⟨s,hs⟩ : ∃ s,s=ops.getD k []:=⟨_,rfl⟩;rw[←hs] at hc hD;have hT:=aEb hQ kind s;obtain⟨v,hv⟩ : ∃ v,v=isP l i kind s:=⟨_,rfl⟩;rw[←hv] at hT hD;have HD:=Lib.hid hD;clear hs hv hD;go_wp2_with fail;refine Calls.mono hT ?_;rintro e w1 ⟨rfl,h1,h2⟩
    cases v with
    | true =>
     go_wp2_with fail
     go_ret2
     have e:R=some s:=by rw[hH.out,HD.out]; rfl
     rw[e];exact⟨rfl,hK.trans h1,h2⟩
    | false =>
     have hw:IntKind.wrap .i64 ((k:Int)+1)=(k:Int)+1:=i64_in _ (by omega);go_wp2_with fail;exact⟨⟨k+1,by simp,by omega,hK.trans h1,h2,Lib.hid (by rw[hH.out,HD.out]; rfl)⟩,by simp[intOf]; omega⟩
  · have hlti : ¬ (k:Int)<(ops.length:Int):=by omega
    go_wp2_with fail
    go_ret2
    have e:R=none:=by
     have:k=ops.length:=by omega
     subst this;rw[hH.out,List.drop_length];rfl
    rw[e];exact⟨rfl,hK,hQ⟩
end
end
section
open Go.RowKit
def aEi (D:Nat→Bool) (i:Nat):Nat→Bool:=fun j=>j==i||D j
def aFm (ops:Array Oper) (D:Nat→Bool):Prop:=∀ (j:Nat) (o:Oper),D j=true→ops[j]? = some o→∀ e∈o.after,aAS e=true→D e.on=true
section
variable {F:Fence} {n:Nat} {P:Program} {ops:Array Oper} {Q:Exit→Act→World→Prop}
theorem aKt {I:(Nat→Bool)→Act→World→Prop} (hg : ∀ (D:Nat→Bool) (i:Nat) (o:Oper) a w,ops[i]? = some o→(∀ e∈o.after,aAS e=true→D e.on=true)→I D a w→Region.wanted o (yielded ops a.tmps)=true)
 (hlow : ∀ (i:Nat) (o:Oper),ops[i]? = some o→∀ e∈o.after,aAS e=true→e.on<i)
 (hstep : ∀ (D:Nat→Bool) (i:Nat) (o:Oper) a w,ops[i]? = some o→D i=false→aFm ops D→(∀ e∈o.after,aAS e=true→D e.on=true)→I D a w→o.wpIn F n P a w (I (aEi D i)) Q)
 (hdone : ∀ D a w,(∀ i,i<ops.size→D i=true)→I D a w→Q .normal a w) :
 ∀ (fuel:Nat) (L:Array Bool) (a:Act) (w:World),L.size=ops.size→L.count false≤fuel→aFm ops (fun j=>L.getD j false)→I (fun j=>L.getD j false) a w→wpAnyIn F n P .any ops Q fuel L a w
 | 0,L,a,w,hs,hc,hcl,hI=>by
  have hall : ∀ i,i<ops.size→L.getD i false=true:=fun i hi=>aEE L (by omega) i (by omega);exact⟨aFa hall,hdone _ _ _ hall hI⟩
 | fuel+1,L,a,w,hs,hc,hcl,hI=>by
  refine⟨fun hr=>?_,fun i hi=>?_⟩
  · refine hdone _ _ _ (fun j hj=>?_) hI;by_cases hjt:L.getD j false=true
    · exact hjt
    · exfalso
      have hjs:j<L.size:=by omega
      have hjf:L.getD j true=false:=by simpa[Array.getD_eq_getD_getElem?,hjs] using hjt
      obtain⟨m,hm,hmf,hml⟩:=aDc L ⟨j,hjs,hjf⟩;obtain⟨om,hom⟩ : ∃ om,ops[m]? = some om:=⟨ops[m]'(by omega),Array.getElem?_eq_getElem _⟩
      have:m∈Region.ready .any ops L:=mem_ready.2 ⟨hmf,om,hom,fun e he hb=>hml _ (hlow m om hom e he hb)⟩
      rw[hr] at this; cases this
  · obtain⟨hif,o,ho,hed⟩:=mem_ready.1 hi
    have hil:i<L.size:=by
     rw[hs];exact (Array.getElem?_eq_some_iff.1 ho).1
    have hif':L.getD i false=false:=by
     simp[Array.getD_eq_getD_getElem?,hil] at hif ⊢;exact hif
    have hD:(fun j=>(L.setIfInBounds i true).getD j false)=aEi (fun j=>L.getD j false) i:=by
     funext j
     unfold aEi
     have:=aCc L i j hil
     cases h1:(L.setIfInBounds i true).getD j false <;> cases h2:L.getD j false <;> simp_all
    have hcl':aFm ops (aEi (fun j=>L.getD j false) i):=by
     intro j oj hj hoj e he hb;unfold aEi at hj ⊢;simp only[Bool.or_eq_true,beq_iff_eq] at hj ⊢;rcases hj with rfl | hj
     · obtain rfl:oj=o:=Option.some.inj (hoj.symm.trans ho);exact .inr (hed e he hb)
     · exact .inr (hcl j oj hj hoj e he hb)
    unfold wpOpIn;rw[ho];have hw:Region.wanted o (yielded ops a.tmps)=true:=hg (fun j=>L.getD j false) i o a w ho hed hI;simp only[hw,if_true];refine Oper.wpIn_mono (fun a' w' hI'=>?_) (hstep _ i o a w ho hif' hcl hed hI);have hcs:=aFq L i hil hif;exact aKt hg hlow hstep hdone fuel _ a' w' (by simpa using hs) (by omega) (by rw[hD]; exact hcl') (by rw[hD]; exact hI')
def goodR (ops:Array Oper):Bool:=(List.range ops.size).all fun i=>match ops[i]? with
 | some o=>o.guard.isNone&&o.after.all (fun e=>!aAS e||decide (e.on<i))&&(List.range i).all fun j=>match ops[j]? with
  | some oj=>o.dst.isNone || !(oj.dst==o.dst)
  | none=>true
 | none=>true
theorem goodR.at {i:Nat} {o:Oper} (h:goodR ops=true) (ho:ops[i]? = some o):o.guard=none∧(∀ e∈o.after,aAS e=true→e.on<i)∧∀ j oj d,j<i→ops[j]? = some oj→o.dst=some d→oj.dst≠some d:=by
 have hi:=(Array.getElem?_eq_some_iff.1 ho).1;unfold goodR at h;rw[List.all_eq_true] at h;have h:=h i (List.mem_range.2 hi);simp only[ho,Bool.and_eq_true] at h;obtain⟨⟨h1,h2⟩,h3⟩:=h;refine⟨Option.isNone_iff_eq_none.1 h1,fun e he hb=>?_,fun j oj d hj hoj hd hdj=>?_⟩
 · rw[Array.all_eq_true'] at h2;have h2:=h2 e he;simpa[hb] using h2
 · rw[List.all_eq_true] at h3;have h3:=h3 j (List.mem_range.2 hj);simp only[hoj] at h3;simp[hd,hdj] at h3
theorem aKO {id:Nat} {a:Act} {w:World} (hm:P.follows .mixedOrders=true) (I:(Nat→Bool)→Act→World→Prop) (h0:I (fun _=>false) a w.drew)
 (hB:goodR ops=true)
 (hstep : ∀ (D:Nat→Bool) (i:Nat) (o:Oper) a w,ops[i]? = some o→D i=false→aFm ops D→(∀ e∈o.after,aAS e=true→D e.on=true)→I D a w→o.wpIn F n P a w (I (aEi D i)) Q)
 (hdone : ∀ D a w,(∀ i,i<ops.size→D i=true)→I D a w→Q .normal a w):(Code.region id ops true).wpIn F n P Q a w:=by
 have hD:(fun j=>(Array.replicate ops.size false).getD j false)=fun _=>false:=by
  funext j
  by_cases hj:j<ops.size <;> simp[Array.getD_eq_getD_getElem?,hj]
 refine wpIn_region_any hm (aKt (fun D i o a w h _ _=>by unfold Region.wanted; rw[(goodR.at hB h).1]) (fun i o h=>(goodR.at hB h).2.1) hstep hdone ops.size _ a _ (by simp) (by simp) ?_ ?_)
 · rw[hD]; intro j o hj; cases hj
 · rw[hD]; exact h0
theorem aN2 {o:Oper} {a:Act} {w w':World} {K:Act→World→Prop} {v:Value} (hF : ∀ f,F.fn f) (hnd : ∀ c,o.op≠.defer c) (h:(execOp a.eval o).run P w = .ok (.value v) w') (hk:K (a.put o.dst v) w'):o.wpIn F n P a w K Q:=by
 refine⟨fun f _=>hF f,?_⟩;rw[Oper.semAt_plain F _ _ hnd,h];exact hk
theorem aP2 {o:Oper} {a:Act} {w:World} {K:Act→World→Prop} {f:Nat} {args:Array Value} (hF : ∀ f,F.fn f) (hd:F.depth=none) (hnd : ∀ c,o.op≠.defer c) (h:(execOp a.eval o).run P w = .ok (.enter f args) w)
 (hc:CallsIn F (n - 1) P f args w fun e w'=>∃ v,e = .returned v∧K (a.put o.dst v) w'):o.wpIn F n P a w K Q:=by
 refine⟨fun f _=>hF f,?_⟩;rw[Oper.semAt_plain F _ _ hnd,h];refine⟨fun hs=>(by rw[hd] at hs; cases hs),CallsIn.mono hc ?_⟩;rintro e w' ⟨v,rfl,hk⟩;exact hk
def aJF (ops:Array Oper):Prop:=∀ (i j:Nat) (oi oj:Oper) (d:Tmp),ops[i]? = some oi→ops[j]? = some oj→oi.dst=some d→oj.dst=some d→i=j
theorem goodR.apart (h:goodR ops=true):aJF ops:=by
 intro i j oi oj d hi hj hdi hdj;rcases Nat.lt_trichotomy i j with e | e | e
 · exact absurd hdi ((goodR.at h hj).2.2 i oi d e hi hdj)
 · exact e
 · exact absurd hdj ((goodR.at h hi).2.2 j oj d e hj hdi)
structure AgreeR (ops:Array Oper) (vals:Nat→Value) (a0:Act) (D:Nat→Bool) (a:Act):Prop where
 size:a.tmps.size=a0.tmps.size
 defers:a.defers=a0.defers
 own : ∀ (i:Nat) (o:Oper) (d:Tmp),ops[i]? = some o→o.dst=some d→D i=true→d<a0.tmps.size→a.eval (.tmp d)=vals i
 rest : ∀ s,(∀ (i:Nat) (o:Oper),ops[i]? = some o→o.dst≠some s)→a.eval (.tmp s)=a0.eval (.tmp s)
theorem AgreeR.start {vals:Nat→Value} {a0:Act}:AgreeR ops vals a0 (fun _=>false) a0:=⟨rfl,rfl,fun _ _ _ _ _ h=>(by cases h),fun _ _=>rfl⟩
theorem AgreeR.put {vals vals':Nat→Value} {a0 a:Act} {D:Nat→Bool} (h:AgreeR ops vals a0 D a) (hap:aJF ops) {i:Nat} {o:Oper} (hi:ops[i]? = some o) {v:Value} (hv:vals' i=v) (hs : ∀ j,D j=true→vals' j=vals j) :
 AgreeR ops vals' a0 (aEi D i) (a.put o.dst v):=by
 have psz:(a.put o.dst v).tmps.size=a.tmps.size:=by cases o.dst <;> simp[Act.put]
 have pdf:(a.put o.dst v).defers=a.defers:=by cases o.dst <;> simp[Act.put]
 have pne : ∀ s,o.dst≠some s→(a.put o.dst v).eval (.tmp s)=a.eval (.tmp s):=fun s hs=>by
  cases ho:o.dst with
  | none=>rfl
  | some d =>
   have:d≠s:=fun e=>hs (by rw[ho,e])
   simp[Act.put,Act.eval,Array.getD_eq_getD_getElem?,Array.getElem?_setIfInBounds_ne this]
 refine⟨by rw[psz,h.size],by rw[pdf,h.defers],fun j oj d hj hjd hdj hsz=>?_,fun s hs2=>?_⟩
 · by_cases e:j=i
   · subst e;obtain rfl:oj=o:=Option.some.inj (hj.symm.trans hi);rw[hjd,hv]
     have:d<a.tmps.size:=by rw[h.size]; exact hsz
     simp[Act.put,Act.eval,Array.getD_eq_getD_getElem?,this]
   · have hne:o.dst≠some d:=fun e2=>e (hap j i oj o d hj hi hjd e2)
     have hDj:D j=true:=by
      unfold aEi at hdj;simp only[Bool.or_eq_true,beq_iff_eq] at hdj;exact hdj.resolve_left e
     rw[pne _ hne,hs j hDj];exact h.own j oj d hj hjd hDj hsz
 · rw[pne _ (hs2 i o hi)];exact h.rest s hs2
theorem AgreeR.keep {vals:Nat→Value} {a0 a:Act} {D:Nat→Bool} (h:AgreeR ops vals a0 D a) (s:Tmp) (hs:(ops.all fun o=>!(o.dst==some s))=true):a.tmps[s]?.getD undef=a0.tmps[s]?.getD undef:=by
 have:=h.rest s fun i o ho hd=>by
  rw[Array.all_eq_true'] at hs
  have:=hs o (Array.mem_of_getElem? ho)
  simp[hd] at this
 simpa[Act.eval,Array.getD_eq_getD_getElem?] using this
theorem AgreeR.was {vals:Nat→Value} {a0 a:Act} {D:Nat→Bool} (h:AgreeR ops vals a0 D a) (i:Nat) (d:Tmp) (ho:(ops[i]?.map (·.dst))=some (some d)) (hD:D i=true) (hsz:d<a0.tmps.size):a.tmps[d]?.getD undef=vals i:=by
 cases h1:ops[i]? with
 | none=>rw[h1] at ho; cases ho
 | some o =>
  rw[h1] at ho;simp only[Option.map_some,Option.some.injEq] at ho
  have:=h.own i o d h1 ho hD hsz
  simpa[Act.eval,Array.getD_eq_getD_getElem?] using this
def aCS (vals:Nat→Value):List Oper→Nat→Act→Act
 | [],_,a=>a
 | o::r,i,a=>aCS vals r (i+1) (a.put o.dst (vals i))
theorem aHq {vals:Nat→Value} {a0:Act} (hap:aJF ops) : ∀ (l:List Oper) (k:Nat) (a:Act),(∀ j,l[j]? = ops[k+j]?)→AgreeR ops vals a0 (fun j=>decide (j<k)) a→AgreeR ops vals a0 (fun j=>decide (j<k+l.length)) (aCS vals l k a)
 | [],k,a,_,h=>h
 | o::r,k,a,hl,h=>by
  have h0:ops[k]? = some o:=(hl 0).symm
  have e:aEi (fun j=>decide (j<k)) k=fun j=>decide (j<k+1):=by
   funext j
   unfold aEi;by_cases h1:j=k
   · subst h1; simp
   · have:(j<k+1)↔j<k:=by omega
     simp[h1,this]
  have:=h.put hap h0 (vals':=vals) rfl (fun _ _=>rfl)
  rw[e] at this;have fin:=aHq hap r (k+1) _ (fun j=>by have:=hl (j+1); simpa[Nat.add_assoc,Nat.add_comm 1 j] using this) this;rw[show k+(o::_).length=k+1+r.length by simp only[List.length_cons]; omega];exact fin
theorem AgreeR.eq {vals:Nat→Value} {a0 a:Act} {D:Nat→Bool} (h:AgreeR ops vals a0 D a) (hap:aJF ops) (hall : ∀ i,i<ops.size→D i=true):a=aCS vals ops.toList 0 a0:=by
 have g:=aHq (vals:=vals) (a0:=a0) hap ops.toList 0 a0 (fun j=>by simp) (by
  have e:(fun j:Nat=>decide (j<0))=fun _=>false:=by funext j; simp
  rw[e]; exact .start)
 obtain⟨b,hb⟩ : ∃ b,b=aCS vals ops.toList 0 a0:=⟨_,rfl⟩;rw[←hb] at g ⊢
 have key : ∀ s,a.eval (.tmp s)=b.eval (.tmp s):=fun s=>by
  by_cases hex : ∃ (i:Nat) (o:Oper),ops[i]? = some o∧o.dst=some s
  · obtain⟨i,o,hi,hd⟩:=hex;have hil:=(Array.getElem?_eq_some_iff.1 hi).1;by_cases hs:s<a0.tmps.size
    · rw[h.own i o s hi hd (hall i hil) hs,g.own i o s hi hd (by simpa using hil) hs]
    · have h1 : ¬ s<a.tmps.size:=by rw[h.size]; exact hs
      have h2 : ¬ s<b.tmps.size:=by rw[g.size]; exact hs
      simp[Act.eval,Array.getD_eq_getD_getElem?,Array.getElem?_eq_none (Nat.le_of_not_lt h1),Array.getElem?_eq_none (Nat.le_of_not_lt h2)]
  · rw[h.rest s (fun i o hi hd=>hex ⟨i,o,hi,hd⟩),g.rest s (fun i o hi hd=>hex ⟨i,o,hi,hd⟩)]
 have ht:a.tmps=b.tmps:=by
  apply Array.ext (by rw[h.size,g.size]);intro s h1 h2
  have:=key s
  simpa[Act.eval,Array.getD_eq_getD_getElem?,h1,h2] using this
 have hdf:a.defers=b.defers:=by rw[h.defers,g.defers]
 cases a; cases b;simp only at ht hdf;subst ht hdf;rfl
def aVQ {ρ:Type} (P:Program) (V:ρ→Nat→Value) (Ph:ρ→(Nat→Bool)→World→Prop) (D:Nat→Bool) (i:Nat) (o:Oper) (r:ρ) (a:Act) (w:World):Prop :=
 (∃ r' w',(∀ c,o.op≠.defer c)∧(execOp a.eval o).run P w = .ok (.value (V r' i)) w'∧(∀ j,D j=true→V r' j=V r j)∧Ph r' (aEi D i) w') ∨
 (∃ f args,(∀ c,o.op≠.defer c)∧(execOp a.eval o).run P w = .ok (.enter f args) w∧Calls P f args w fun e w'=>∃ r',e = .returned (V r' i)∧(∀ j,D j=true→V r' j=V r j)∧Ph r' (aEi D i) w')
def goodG (ops:Array Oper):Bool:=(List.range ops.size).all fun i=>match ops[i]? with
 | some o=>(match o.guard with
  | none=>true
  | some (g,_)=>decide (g<i)&&o.after.any (fun e=>aAS e&&e.on==g)&&((ops[g]?).bind (·.dst)).isSome)&&o.after.all (fun e=>!aAS e||decide (e.on<i))&&(List.range i).all fun j=>match ops[j]? with
  | some oj=>o.dst.isNone || !(oj.dst==o.dst)
  | none=>true
 | none=>true
theorem goodG.at {i:Nat} {o:Oper} (h:goodG ops=true) (ho:ops[i]? = some o):(∀ g b,o.guard=some (g,b)→(∃ e∈o.after,aAS e=true∧e.on=g)∧∃ og d,ops[g]? = some og∧og.dst=some d)∧(∀ e∈o.after,aAS e=true→e.on<i)∧∀ j oj d,j<i→ops[j]? = some oj→o.dst=some d→oj.dst≠some d:=by
 have hi:=(Array.getElem?_eq_some_iff.1 ho).1;unfold goodG at h;rw[List.all_eq_true] at h;have h:=h i (List.mem_range.2 hi);simp only[ho,Bool.and_eq_true] at h;obtain⟨⟨h1,h2⟩,h3⟩:=h;refine⟨fun g b hg=>?_,fun e he hb=>?_,fun j oj d hj hoj hd hdj=>?_⟩
 · rw[hg] at h1;simp only[Bool.and_eq_true] at h1;obtain⟨⟨_,k2⟩,k3⟩:=h1;rw[Array.any_eq_true'] at k2;obtain⟨e,he,hb⟩:=k2;simp only[Bool.and_eq_true,beq_iff_eq] at hb;refine⟨⟨e,he,hb.1,hb.2⟩,?_⟩
   cases hog:ops[g]? with
   | none=>rw[hog] at k3; cases k3
   | some og =>
    rw[hog] at k3
    cases hd:og.dst with
    | none=>simp[hd] at k3
    | some d=>exact⟨og,d,rfl,hd⟩
 · rw[Array.all_eq_true'] at h2;have h2:=h2 e he;simpa[hb] using h2
 · rw[List.all_eq_true] at h3;have h3:=h3 j (List.mem_range.2 hj);simp only[hoj] at h3;simp[hd,hdj] at h3
theorem goodG.apart (h:goodG ops=true):aJF ops:=by
 intro i j oi oj d hi hj hdi hdj;rcases Nat.lt_trichotomy i j with e | e | e
 · exact absurd hdi ((goodG.at h hj).2.2 i oi d e hi hdj)
 · exact e
 · exact absurd hdj ((goodG.at h hi).2.2 j oj d e hj hdi)
end
end
section
open Go.RowKit
theorem aAq {ops:Array Oper} {DD:Nat→Bool} (hcl:aFm ops DD) {k:Nat} {o:Oper} (ho:ops[k]? = some o) {e:_} (he:e∈o.after) (hb:aAS e=true) (h:DD e.on=false):DD k=false:=by
 cases hk:DD k with
 | false=>rfl
 | true =>
  have:=hcl k o hk ho e he hb
  rw[h] at this;cases this
theorem aQr {P:Program} {F:Fence} {n:Nat} {Q:Exit→Act→World→Prop} {o:Oper} {a:Act} {w w':World} {K:Act→World→Prop} (hF : ∀ f,F.fn f) (hdn:o.dst=none) (hnd : ∀ c,o.op≠.defer c) (h:(execOp a.eval o).run P w = .ok .skip w') (hk:K a w'):o.wpIn F n P a w K Q:=by
 refine⟨fun f _=>hF f,?_⟩;rw[Oper.semAt_plain F _ _ hnd,h];show K (a.put o.dst undef) w';rw[hdn];exact hk
theorem aNP {P:Program} {F:Fence} {n:Nat} {Q:Exit→Act→World→Prop} {o:Oper} {a:Act} {w:World} {K:Act→World→Prop} {f:Nat} {args:Array Value} (hF : ∀ f,F.fn f) (hd:F.depth=none) (hnd : ∀ c,o.op≠.defer c) (h:(execOp a.eval o).run P w = .ok (.enter f args) w)
 (hc:CallsIn F (n - 1) P f args w fun e w'=>(∃ v,e = .returned v∧K (a.put o.dst v) w')∨∃ ch,e = .panicked ch∧Q (.panic ch) a w'):o.wpIn F n P a w K Q:=by
 refine⟨fun f _=>hF f,?_⟩;rw[Oper.semAt_plain F _ _ hnd,h];refine⟨fun hs=>(by rw[hd] at hs; cases hs),CallsIn.mono hc ?_⟩;rintro e w' (⟨v,rfl,hk⟩ | ⟨ch,rfl,hq⟩)
 · exact hk
 · exact hq
def aVY {ρ:Type} (P:Program) (V:ρ→Nat→Value) (Ph:ρ→(Nat→Bool)→World→Prop) (Q:Exit→Act→World→Prop) (D:Nat→Bool) (i:Nat) (o:Oper) (r:ρ) (a:Act) (w:World):Prop :=
 (∃ w',o.dst=none∧(∀ c,o.op≠.defer c)∧(execOp a.eval o).run P w = .ok .skip w'∧Ph r (aEi D i) w') ∨
 ∃ f args,(∀ c,o.op≠.defer c)∧(execOp a.eval o).run P w = .ok (.enter f args) w∧Calls P f args w fun e w' =>
  (∃ r',e = .returned (V r' i)∧(∀ j,D j=true→V r' j=V r j)∧Ph r' (aEi D i) w')∨∃ ch,e = .panicked ch∧Q (.panic ch) a w'
theorem aAt {P:Program} {F:Fence} {n:Nat} {ops:Array Oper} {Q:Exit→Act→World→Prop} {ρ:Type} {id:Nat} {a0:Act} {w:World} (hm:P.follows .mixedOrders=true) (hF : ∀ f,F.fn f) (hd:F.depth=none) (hC : ∀ f args w R,Calls P f args w R→CallsIn F (n - 1) P f args w R) (hB:goodR ops=true)
 (V:ρ→Nat→Value) (Ph:ρ→(Nat→Bool)→World→Prop) (r0:ρ) (h0:Ph r0 (fun _=>false) w.drew)
 (hstep : ∀ (D:Nat→Bool) (i:Nat) (o:Oper) (r:ρ) (a:Act) (w:World),ops[i]? = some o→D i=false→aFm ops D→(∀ e∈o.after,aAS e=true→D e.on=true)→AgreeR ops (V r) a0 D a→Ph r D w→aVQ P V Ph D i o r a w∨aVY P V Ph Q D i o r a w)
 (hdone : ∀ (D:Nat→Bool) (r:ρ) (a:Act) (w:World),(∀ i,i<ops.size→D i=true)→AgreeR ops (V r) a0 D a→Ph r D w→Q .normal a w):(Code.region id ops true).wpIn F n P Q a0 w:=by
 refine aKO hm (fun D a w=>∃ r,AgreeR ops (V r) a0 D a∧Ph r D w) ⟨r0,.start,h0⟩ hB ?_ ?_
 · rintro D i o a w ho hDi hcl hdep ⟨r,hA,hP⟩;rcases hstep D i o r a w ho hDi hcl hdep hA hP with (⟨r',w',hnd,hx,hs,hP'⟩ | ⟨f,args,hnd,hx,hc⟩) | ⟨w',hdn,hnd,hx,hP'⟩ | ⟨f,args,hnd,hx,hc⟩
   · exact aN2 hF hnd hx ⟨r',hA.put (goodR.apart hB) ho rfl hs,hP'⟩
   · refine aP2 hF hd hnd hx (hC _ _ _ _ (hc.mono ?_));rintro e w' ⟨r',rfl,hs,hP'⟩;exact⟨_,rfl,r',hA.put (goodR.apart hB) ho rfl hs,hP'⟩
   · have hp:=hA.put (goodR.apart hB) ho (v:=V r i) rfl (fun _ _=>rfl);rw[hdn] at hp;exact aQr hF hdn hnd hx ⟨r,hp,hP'⟩
   · refine aNP hF hd hnd hx (hC _ _ _ _ (hc.mono ?_));rintro e w' (⟨r',rfl,hs,hP'⟩ | ⟨ch,rfl,hq⟩)
     · exact .inl ⟨_,rfl,r',hA.put (goodR.apart hB) ho rfl hs,hP'⟩
     · exact .inr ⟨ch,rfl,hq⟩
 · rintro D a w hall ⟨r,hA,hP⟩;exact hdone D r a w hall hA hP
theorem aBd (w:World) (n:Nat):Below w.heap.size w (w.drewN n):=below_drewN (Below.refl _ _) n
end
section
open Go.RowKit Go.IntWalk
attribute [local go_sem] Oper.semAt_some
section
variable {l:List Tok} {pb:Nat} {la:Option Addr} {lc:Nat} {W W':World} {i:Nat}
theorem KeepP.cell {pb:Nat} {w w':World} (h:KeepP pb w w') {p:Addr} (hb:p.block<w.heap.size) (hn:p.block≠pb):w'.cell? p=w.cell? p:=by
 unfold World.cell?;rw[h.heap p.block hb hn]
theorem KeepP.drewN {pb:Nat} {w w':World} (h:KeepP pb w w') (n:Nat):KeepP pb w (w'.drewN n) :=
 h.trans (aAo (aBd _ _))
theorem KeepP.alloc {pb:Nat} {w w':World} (h:KeepP pb w w') (o:Obj):KeepP pb w (w'.alloc o) :=
 h.trans (aAo ((Below.refl _ _).alloc (Nat.le_refl _) _))
theorem aMM {w:World} {g:Nat} {x0 x1 x2 x3 x4 x5:Value} {t:TypeId} (hg:w.heap[g]? = some (.cells #[x0,x1,x2,x3,x4,x5] t (0,0))) (v0 v1 v2 v3 v4 v5:Value) :
 ((((((w.setCell ⟨g,0,none⟩ v0).setCell ⟨g,1,none⟩ v1).setCell ⟨g,2,none⟩ v2).setCell ⟨g,3,none⟩ v3).setCell ⟨g,4,none⟩ v4).setCell ⟨g,5,none⟩ v5).heap[g]? = some (.cells #[v0,v1,v2,v3,v4,v5] t (0,0)):=by
 have h1:=Go.heap_setCell_same w g 0 _ t v0 hg;have h2:=Go.heap_setCell_same _ g 1 _ t v1 h1;have h3:=Go.heap_setCell_same _ g 2 _ t v2 h2;have h4:=Go.heap_setCell_same _ g 3 _ t v3 h3;have h5:=Go.heap_setCell_same _ g 4 _ t v4 h4;have h6:=Go.heap_setCell_same _ g 5 _ t v5 h5;simpa using h6
theorem aEm {w:World} {g b:Nat} (h:b≠g) (v0 v1 v2 v3 v4 v5:Value) (o0 o1 o2 o3 o4 o5:Nat) :
 ((((((w.setCell ⟨g,o0,none⟩ v0).setCell ⟨g,o1,none⟩ v1).setCell ⟨g,o2,none⟩ v2).setCell ⟨g,o3,none⟩ v3).setCell ⟨g,o4,none⟩ v4).setCell ⟨g,o5,none⟩ v5).heap[b]? = w.heap[b]? :=
 (Below.heap_setCell _ _ _ _ h).trans ((Below.heap_setCell _ _ _ _ h).trans ((Below.heap_setCell _ _ _ _ h).trans ((Below.heap_setCell _ _ _ _ h).trans ((Below.heap_setCell _ _ _ _ h).trans (Below.heap_setCell _ _ _ _ h)))))
theorem KeepP.set {pb:Nat} {w w':World} (h:KeepP pb w w') {g:Nat} (hg:w.heap.size≤g) (o:Nat) (v:Value):KeepP pb w (w'.setCell ⟨g,o,none⟩ v) :=
 ⟨h.os,h.tape,h.output,by rw[World.size_setCell]; exact h.size,fun b h1 h2=>(Below.heap_setCell _ _ _ _ (by show b≠g; omega)).trans (h.heap b h1 h2)⟩
def tokV (t:Tok):Value:=.agg #[.int .i64 t.kd,.string (bs t.tx),.int .i64 t.vl.1,.int .i64 t.vl.2.1,.string (bs t.vl.2.2),.int .i64 t.pl]
abbrev zTok:Array Value:=#[.int .i64 0,.string ⟨#[]⟩,.int .i64 0,.int .i64 0,.string ⟨#[]⟩,.int .i64 0]
theorem aUG (hP:PW l pb la lc W i) (nq:Nat):((((((((W.alloc (.cells zTok 40)).drewN nq).setCell ⟨W.heap.size,0,none⟩ (.int .i64 0)).setCell ⟨W.heap.size,1,none⟩ (.string ⟨#[]⟩)).setCell ⟨W.heap.size,2,none⟩ (.int .i64 0)).setCell ⟨W.heap.size,3,none⟩ (.int .i64 0)).setCell ⟨W.heap.size,4,none⟩ (.string ⟨#[]⟩)).setCell ⟨W.heap.size,5,none⟩ (.int .i64 0)).heap[W.heap.size]? = some (.cells zTok 40 (0,0))∧KeepP pb W ((((((((W.alloc (.cells zTok 40)).drewN nq).setCell ⟨W.heap.size,0,none⟩ (.int .i64 0)).setCell ⟨W.heap.size,1,none⟩ (.string ⟨#[]⟩)).setCell ⟨W.heap.size,2,none⟩ (.int .i64 0)).setCell ⟨W.heap.size,3,none⟩ (.int .i64 0)).setCell ⟨W.heap.size,4,none⟩ (.string ⟨#[]⟩)).setCell ⟨W.heap.size,5,none⟩ (.int .i64 0))∧PW l pb la lc ((((((((W.alloc (.cells zTok 40)).drewN nq).setCell ⟨W.heap.size,0,none⟩ (.int .i64 0)).setCell ⟨W.heap.size,1,none⟩ (.string ⟨#[]⟩)).setCell ⟨W.heap.size,2,none⟩ (.int .i64 0)).setCell ⟨W.heap.size,3,none⟩ (.int .i64 0)).setCell ⟨W.heap.size,4,none⟩ (.string ⟨#[]⟩)).setCell ⟨W.heap.size,5,none⟩ (.int .i64 0)) i:=by
 have hca:((W.alloc (.cells zTok 40)).drewN nq).heap[W.heap.size]? = some (.cells zTok 40 (0,0)):=aAl W _;have hpl:=hP.lt;have hK0:KeepP pb W ((W.alloc (.cells zTok 40)).drewN nq):=((KeepP.refl pb W).alloc _).drewN nq;have hK:=(((((hK0.set (Nat.le_refl _) 0 (.int .i64 0)).set (Nat.le_refl _) 1 (.string ⟨#[]⟩)).set (Nat.le_refl _) 2 (.int .i64 0)).set (Nat.le_refl _) 3 (.int .i64 0)).set (Nat.le_refl _) 4 (.string ⟨#[]⟩)).set (Nat.le_refl _) 5 (.int .i64 0);refine⟨aMM hca _ _ _ _ _ _,hK,hP.kept hK ((aEm (by omega) _ _ _ _ _ _ _ _ _ _ _ _).trans ?_) hP.le⟩;exact (Below.heap_alloc _ _ _ hpl).trans hP.cell
def aSW (l:List Tok) (pb:Nat) (la:Option Addr) (lc:Nat) (W:World) (i:Nat) (cs:Array Value) (d:Bool) (w':World):Prop :=
 PW l pb la lc w' i∧KeepP pb W w'∧w'.heap[W.heap.size]? = some (.cells (match d with | true=>cs | false=>zTok) 40 (0,0))
set_option maxHeartbeats 2000000 in
set_option maxRecDepth 100000 in
theorem aFj (hP:PW l pb la lc W i) (kind:Int) :
 Calls Tryz.prog 151 #[.pointer (some ⟨pb,0,none⟩),.int .i64 kind] W fun e w' =>
  e = .returned (.tuple #[tokV (if aBg l kind i=true then l.getD i default else default),.bool (aBg l kind i)])∧KeepP pb W w'∧PW l pb la lc w' (nx i (aBg l kind i)):=by
 have c0:=hP.c0;have c1:=hP.c1;have f1:=hP.fz 1;have hle:=hP.le;have hbig:=hP.big;have hpl:=hP.lt;by_cases hlt:i<l.length
 · obtain⟨b,o,rfl,hnb,hbl,hcap,t0,t1,t2,t3,t4,t5⟩:=hP.tok hlt
   have hlti : ¬ (l.length:Int)≤(i:Int):=by omega
   have hw:IntKind.wrap .i64 ((i:Int)+1)=(i:Int)+1:=i64_in _ (by omega);by_cases hk:(l.getD i default).kd=kind
   · have e:aBg l kind i=true:=by unfold aBg; rw[hk]; simp[hlt]
     rw[e];obtain⟨t,ht⟩ : ∃ t,t=l.getD i default:=⟨_,rfl⟩;rw[←ht] at t0 t1 t2 t3 t4 t5 hk ⊢;clear ht;obtain⟨kd,tx,⟨v0,v1,v2⟩,pl⟩:=t;simp only at t0 t1 t2 t3 t4 t5 hk;subst hk
     go_enter Tryz.func151,Tryz.ntmps151
     go_wp2_with (first | ((with_reducible refine aAP ?_); go_quiet (fail)))
     obtain⟨Wa,hWa⟩ : ∃ Wa,Wa=((W.alloc (.cells #[.int .i64 0,.string ⟨#[]⟩,.int .i64 0,.int .i64 0,.string ⟨#[]⟩,.int .i64 0] 40)).drewN nq):=⟨_,rfl⟩
     have hBa:Below W.heap.size W Wa:=by rw[hWa]; exact below_drewN ((Below.refl _ _).alloc (Nat.le_refl _) _) _
     have hca:Wa.heap[W.heap.size]? = some (.cells #[.int .i64 0,.string ⟨#[]⟩,.int .i64 0,.int .i64 0,.string ⟨#[]⟩,.int .i64 0] 40 (0,0)):=by rw[hWa]; exact aAl W _
     have hza:W.heap.size<Wa.heap.size:=by rw[hWa]; simp
     rw[←hWa];clear hWa;obtain⟨hN,hKN⟩:=(hP.below hBa).next hlt (z:=(i:Int)+1) (by omega);obtain⟨Wb,hWb⟩ : ∃ Wb,Wb=Wa.setCell ⟨pb,1,none⟩ (.int .i64 ((i:Int)+1)):=⟨_,rfl⟩;rw[←hWb] at hN hKN ⊢;have hcb:Wb.heap[W.heap.size]? = some (.cells #[.int .i64 0,.string ⟨#[]⟩,.int .i64 0,.int .i64 0,.string ⟨#[]⟩,.int .i64 0] 40 (0,0)):=(hKN.heap _ hza (by omega)).trans hca;have hKb:KeepP pb W Wb:=(aAo hBa).trans hKN;clear hWb hca hza hKN hBa
     have hw2:IntKind.wrap .i64 (((i+1:Nat):Int) - 1)=(i:Int):=by rw[i64_in _ (by omega)]; omega
     have hil:(i:Int)<(l.length:Int):=by omega
     have hw3:IntKind.wrap .i64 (i:Int)=(i:Int):=i64_in _ (by omega);rw[←wpIn_wide (n:=0)]
     refine aAt (by kernel_rfl) (fun _=>trivial) rfl (fun f args w R h=>callsIn_wide.2 h) (by kernel_rfl)
      (fun (_:Unit) j=>match j with | 2=>.pointer (some ⟨pb,0,none⟩) | 3=>.slice (some ⟨b,o,none⟩) l.length lc | 6=>.pointer (some ⟨pb,1,none⟩) | 7=>.int .i64 ((i+1:Nat):Int) | 8=>.int .i64 (i:Int) | 9=>.pointer (some ⟨b,o+i*6,none⟩) | 10=>.agg #[.int .i64 kd,.string (bs tx),.int .i64 v0,.int .i64 v1,.string (bs v2),.int .i64 pl] | 12=>.bool true | _=>.pointer (some ⟨pb,0,none⟩))
      (fun _ D w'=>aSW l pb (some ⟨b,o,none⟩) lc W (i+1) #[.int .i64 kd,.string (bs tx),.int .i64 v0,.int .i64 v1,.string (bs v2),.int .i64 pl] (D 11) w') ()
      ⟨hN.below (Below.refl _ _).drew,hKb.trans (aAo (Below.refl _ _).drew),hcb⟩ ?steps ?rdone
     case steps =>
      intro DD j op r aa W3 hop hDj hcl hdep hA hH;have hH0:=hH;obtain⟨hQ,hK,hC⟩:=hH0;have hj:j<13:=(Array.getElem?_eq_some_iff.1 hop).1;have q0:=hQ.c0;have q1:=hQ.c1;have s0:W3.cell? ⟨b,o+i*6,none⟩=some (.int .i64 kd):=(hK.cell (p:=⟨b,o+i*6,none⟩) hbl hnb).trans t0;have s1:W3.cell? ⟨b,o+i*6+1,none⟩=some (.string (bs tx)):=(hK.cell (p:=⟨b,o+i*6+1,none⟩) hbl hnb).trans t1;have s2:W3.cell? ⟨b,o+i*6+2,none⟩=some (.int .i64 v0):=(hK.cell (p:=⟨b,o+i*6+2,none⟩) hbl hnb).trans t2;have s3:W3.cell? ⟨b,o+i*6+3,none⟩=some (.int .i64 v1):=(hK.cell (p:=⟨b,o+i*6+3,none⟩) hbl hnb).trans t3;have s4:W3.cell? ⟨b,o+i*6+4,none⟩=some (.string (bs v2)):=(hK.cell (p:=⟨b,o+i*6+4,none⟩) hbl hnb).trans t4;have s5:W3.cell? ⟨b,o+i*6+5,none⟩=some (.int .i64 pl):=(hK.cell (p:=⟨b,o+i*6+5,none⟩) hbl hnb).trans t5
      have:j=0∨j=1∨j=2∨j=3∨j=4∨j=5∨j=6∨j=7∨j=8∨j=9∨j=10∨j=11∨j=12:=by omega
      rcases this with rfl | rfl | rfl | rfl | rfl | rfl | rfl | rfl | rfl | rfl | rfl | rfl | rfl
      all_goals (simp only[List.getElem?_toArray,List.getElem?_cons_zero,List.getElem?_cons_succ,Option.some.injEq] at hop; subst hop)
      · have k0:=hA.keep 0 (by kernel_rfl);exact .inl (.inl ⟨(),W3,by simp,(by simp[execOp,go_sem,k0]),fun _ _=>rfl,hH⟩)
      · have e0:=hA.was 0 39 rfl (hdep ⟨0,.data⟩ (by simp) rfl) (by simp);exact .inl (.inl ⟨(),W3,by simp,(by simp[execOp,go_sem,e0]),fun _ _=>rfl,hH⟩)
      · have e1:=hA.was 1 40 rfl (hdep ⟨1,.data⟩ (by simp) rfl) (by simp);exact .inl (.inl ⟨(),W3,by simp,(by simp[execOp,go_sem,e1]),fun _ _=>rfl,hH⟩)
      · have e2:=hA.was 2 41 rfl (hdep ⟨2,.data⟩ (by simp) rfl) (by simp);exact .inl (.inl ⟨(),W3,by simp,(by simp[execOp,go_sem,e2,q0]),fun _ _=>rfl,hH⟩)
      · have k0:=hA.keep 0 (by kernel_rfl);exact .inl (.inl ⟨(),W3,by simp,(by simp[execOp,go_sem,k0]),fun _ _=>rfl,hH⟩)
      · have e4:=hA.was 4 43 rfl (hdep ⟨4,.data⟩ (by simp) rfl) (by simp);exact .inl (.inl ⟨(),W3,by simp,(by simp[execOp,go_sem,e4]),fun _ _=>rfl,hH⟩)
      · have e5:=hA.was 5 44 rfl (hdep ⟨5,.data⟩ (by simp) rfl) (by simp);exact .inl (.inl ⟨(),W3,by simp,(by simp[execOp,go_sem,e5]),fun _ _=>rfl,hH⟩)
      · have e6:=hA.was 6 45 rfl (hdep ⟨6,.data⟩ (by simp) rfl) (by simp);exact .inl (.inl ⟨(),W3,by simp,(by simp[execOp,go_sem,e6,q1]),fun _ _=>rfl,hH⟩)
      · have e7:=hA.was 7 46 rfl (hdep ⟨7,.data⟩ (by simp) rfl) (by simp);exact .inl (.inl ⟨(),W3,by simp,(by simp only[Int.natCast_add,Int.natCast_one] at hw2 e7; simp[execOp,go_sem,e7,hw2,hw3]),fun _ _=>rfl,hH⟩)
      · have e3:=hA.was 3 42 rfl (hdep ⟨3,.data⟩ (by simp) rfl) (by simp);have e8:=hA.was 8 47 rfl (hdep ⟨8,.data⟩ (by simp) rfl) (by simp);exact .inl (.inl ⟨(),W3,by simp,(by simp[execOp,go_sem,e3,e8,hil]),fun _ _=>rfl,hH⟩)
      · have e9:=hA.was 9 48 rfl (hdep ⟨9,.data⟩ (by simp) rfl) (by simp);exact .inl (.inl ⟨(),W3,by simp,(by simp[execOp,go_sem,e9,s0,s1,s2,s3,s4,s5]),fun _ _=>rfl,hH⟩)
      · have e10:=hA.was 10 49 rfl (hdep ⟨10,.data⟩ (by simp) rfl) (by simp);have k4:=hA.keep 4 (by kernel_rfl);rw[hDj] at hC;simp only at hC
        have z0 : ∀ o,o<6→∃ v,W3.cell? ⟨W.heap.size,o,none⟩=some v:=fun o ho=>by
         have:o=0∨o=1∨o=2∨o=3∨o=4∨o=5:=by omega
         rcases this with rfl | rfl | rfl | rfl | rfl | rfl <;> exact⟨_,by simp[World.cell?,hC]; rfl⟩
        have x0:W3.cell? ⟨W.heap.size,0,none⟩=some (.int .i64 0):=by simp[World.cell?,hC]
        have x1:W3.cell? ⟨W.heap.size,1,none⟩=some (.string ⟨#[]⟩):=by simp[World.cell?,hC]
        have x2:W3.cell? ⟨W.heap.size,2,none⟩=some (.int .i64 0):=by simp[World.cell?,hC]
        have x3:W3.cell? ⟨W.heap.size,3,none⟩=some (.int .i64 0):=by simp[World.cell?,hC]
        have x4:W3.cell? ⟨W.heap.size,4,none⟩=some (.string ⟨#[]⟩):=by simp[World.cell?,hC]
        have x5:W3.cell? ⟨W.heap.size,5,none⟩=some (.int .i64 0):=by simp[World.cell?,hC]
        have xf : ∀ o,W3.frozen? ⟨W.heap.size,o,none⟩=false:=fun o=>by simp[World.frozen?,hC]
        refine .inr (.inl ⟨_,rfl,by simp,(by simp[execOp,go_sem,k4,e10,x0,x1,x2,x3,x4,x5,xf]; rfl),?_⟩);have hot:=fun (g:Nat) (hg:g≠W.heap.size)=>aEm (w:=W3) hg (.int .i64 kd) (.string (bs tx)) (.int .i64 v0) (.int .i64 v1) (.string (bs v2)) (.int .i64 pl) 0 1 2 3 4 5
        have hK4:KeepP pb W (((((((W3.setCell ⟨W.heap.size,0,none⟩ (.int .i64 kd)).setCell ⟨W.heap.size,1,none⟩ (.string (bs tx))).setCell ⟨W.heap.size,2,none⟩ (.int .i64 v0)).setCell ⟨W.heap.size,3,none⟩ (.int .i64 v1)).setCell ⟨W.heap.size,4,none⟩ (.string (bs v2))).setCell ⟨W.heap.size,5,none⟩ (.int .i64 pl))) :=
         (((((hK.set (Nat.le_refl _) 0 _).set (Nat.le_refl _) 1 _).set (Nat.le_refl _) 2 _).set (Nat.le_refl _) 3 _).set (Nat.le_refl _) 4 _).set (Nat.le_refl _) 5 _
        have fin:aSW l pb (some ⟨b,o,none⟩) lc W (i+1) #[.int .i64 kd,.string (bs tx),.int .i64 v0,.int .i64 v1,.string (bs v2),.int .i64 pl] true _:=⟨hP.kept hK4 ((hot pb (by omega)).trans hQ.cell) hQ.le,hK4,aMM hC _ _ _ _ _ _⟩;exact fin
      · exact .inl (.inl ⟨(),W3,by simp,(by simp[execOp,go_sem]),fun _ _=>rfl,hH⟩)
     case rdone =>
      intro DD r aa W4 hall hA ⟨hQ,hK,hC⟩;have ha:=hA.eq (goodR.apart (by kernel_rfl)) hall;simp only[aCS,Act.put,List.setIfInBounds_toArray,List.set_cons_zero,List.set_cons_succ] at ha;subst ha;rw[hall 11 (by decide)] at hC;simp only at hC;clear hA hall;gi_wp2;go_wp2_with fail
      have y0:W4.cell? ⟨W.heap.size,0,none⟩=some (.int .i64 kd):=by simp[World.cell?,hC]
      have y1:W4.cell? ⟨W.heap.size,1,none⟩=some (.string (bs tx)):=by simp[World.cell?,hC]
      have y2:W4.cell? ⟨W.heap.size,2,none⟩=some (.int .i64 v0):=by simp[World.cell?,hC]
      have y3:W4.cell? ⟨W.heap.size,3,none⟩=some (.int .i64 v1):=by simp[World.cell?,hC]
      have y4:W4.cell? ⟨W.heap.size,4,none⟩=some (.string (bs v2)):=by simp[World.cell?,hC]
      have y5:W4.cell? ⟨W.heap.size,5,none⟩=some (.int .i64 pl):=by simp[World.cell?,hC]
      refine bodyPost_ret (v:=.tuple #[.agg #[.int .i64 kd,.string (bs tx),.int .i64 v0,.int .i64 v1,.string (bs v2),.int .i64 pl],.bool true]) (by simp[results,Tryz.results151,go_sem,y0,y1,y2,y3,y4,y5]) rfl ⟨rfl,hK,hQ⟩
   · have e:aBg l kind i=false:=by unfold aBg; rw[beq_false_of_ne hk]; simp
     rw[e];generalize (l.getD i default).kd=kd at *
     go_enter Tryz.func151,Tryz.ntmps151
     go_wp2_with (first | ((with_reducible refine aAP ?_); go_quiet (fail)))
     obtain⟨hC,hK,hQ⟩:=aUG hP nq;generalize ((((((((W.alloc (.cells zTok 40)).drewN nq).setCell ⟨W.heap.size,0,none⟩ (.int .i64 0)).setCell ⟨W.heap.size,1,none⟩ (.string ⟨#[]⟩)).setCell ⟨W.heap.size,2,none⟩ (.int .i64 0)).setCell ⟨W.heap.size,3,none⟩ (.int .i64 0)).setCell ⟨W.heap.size,4,none⟩ (.string ⟨#[]⟩)).setCell ⟨W.heap.size,5,none⟩ (.int .i64 0))=W4 at hC hK hQ ⊢
     have y0:W4.cell? ⟨W.heap.size,0,none⟩=some (.int .i64 0):=by simp[World.cell?,hC]
     have y1:W4.cell? ⟨W.heap.size,1,none⟩=some (.string ⟨#[]⟩):=by simp[World.cell?,hC]
     have y2:W4.cell? ⟨W.heap.size,2,none⟩=some (.int .i64 0):=by simp[World.cell?,hC]
     have y3:W4.cell? ⟨W.heap.size,3,none⟩=some (.int .i64 0):=by simp[World.cell?,hC]
     have y4:W4.cell? ⟨W.heap.size,4,none⟩=some (.string ⟨#[]⟩):=by simp[World.cell?,hC]
     have y5:W4.cell? ⟨W.heap.size,5,none⟩=some (.int .i64 0):=by simp[World.cell?,hC]
     refine bodyPost_ret (v:=.tuple #[.agg zTok,.bool false]) (by simp[results,Tryz.results151,go_sem,y0,y1,y2,y3,y4,y5]) rfl ⟨rfl,hK,hQ⟩
 · have e:aBg l kind i=false:=by unfold aBg; simp[hlt]
   rw[e]
   have hlti:(l.length:Int)≤(i:Int):=by omega
   go_enter Tryz.func151,Tryz.ntmps151
   go_wp2_with (first | ((with_reducible refine aAP ?_); go_quiet (fail)))
   obtain⟨hC,hK,hQ⟩:=aUG hP nq;generalize ((((((((W.alloc (.cells zTok 40)).drewN nq).setCell ⟨W.heap.size,0,none⟩ (.int .i64 0)).setCell ⟨W.heap.size,1,none⟩ (.string ⟨#[]⟩)).setCell ⟨W.heap.size,2,none⟩ (.int .i64 0)).setCell ⟨W.heap.size,3,none⟩ (.int .i64 0)).setCell ⟨W.heap.size,4,none⟩ (.string ⟨#[]⟩)).setCell ⟨W.heap.size,5,none⟩ (.int .i64 0))=W4 at hC hK hQ ⊢
   have y0:W4.cell? ⟨W.heap.size,0,none⟩=some (.int .i64 0):=by simp[World.cell?,hC]
   have y1:W4.cell? ⟨W.heap.size,1,none⟩=some (.string ⟨#[]⟩):=by simp[World.cell?,hC]
   have y2:W4.cell? ⟨W.heap.size,2,none⟩=some (.int .i64 0):=by simp[World.cell?,hC]
   have y3:W4.cell? ⟨W.heap.size,3,none⟩=some (.int .i64 0):=by simp[World.cell?,hC]
   have y4:W4.cell? ⟨W.heap.size,4,none⟩=some (.string ⟨#[]⟩):=by simp[World.cell?,hC]
   have y5:W4.cell? ⟨W.heap.size,5,none⟩=some (.int .i64 0):=by simp[World.cell?,hC]
   refine bodyPost_ret (v:=.tuple #[.agg zTok,.bool false]) (by simp[results,Tryz.results151,go_sem,y0,y1,y2,y3,y4,y5]) rfl ⟨rfl,hK,hQ⟩
end
end
section
open Go.RowKit Go.IntWalk
theorem aAy {w w':World} {X X':Nat→Prop} (st:Stays X X' w w') : ∀ {cs:List CV} {vs:List Value},CVRs w X cs vs→CVRs w' X' cs vs
 | [],[],_=>trivial
 | c::cs,v::vs,h=>by
  simp only[CVRs] at h ⊢;exact⟨h.1.step st,aAy st h.2⟩
 | [],_::_,h=>by simp[CVRs] at h
 | _::_,[],h=>by simp[CVRs] at h
theorem aLQ {w:World} {X:Nat→Prop} : ∀ {cs:List CV} {vs:List Value} (_:CVRs w X cs vs) (f:Nat) (cv:CV),cs[f]? = some cv→∃ r,vs[f]? = some r∧CVR w X cv r
 | c::cs,v::vs,h,0,cv,hf=>by
  simp only[CVRs] at h;simp only[List.getElem?_cons_zero,Option.some.injEq] at hf;subst hf;exact⟨v,rfl,h.1⟩
 | c::cs,v::vs,h,f+1,cv,hf=>by
  simp only[CVRs] at h;exact aLQ h.2 f cv (by simpa using hf)
 | [],_,_,f,cv,hf=>by simp at hf
 | _::_,[],h,_,_,_=>by simp[CVRs] at h
def GX (X:Nat→Prop) (e:Xp) (v:Value) (W:World):Prop:=DVR W X (xD e) v
theorem GX.step {X X':Nat→Prop} {e:Xp} {v:Value} {w w':World} (h:GX X e v w) (st:Stays X X' w w'):GX X' e v w':=by
 unfold GX xD at *;simp only[DVR] at *;obtain⟨a,rfl,ha⟩:=h;exact⟨a,rfl,aAy st ha⟩
theorem GX.mono {X X':Nat→Prop} {e:Xp} {v:Value} {w:World} (h:GX X e v w) (hX : ∀ b,X' b→X b):GX X' e v w:=h.step ⟨fun _ _ _=>rfl,fun b hb=>.inl (hX b hb),Nat.le_refl _⟩
theorem GX.keep {pb:Nat} {X X':Nat→Prop} {e:Xp} {v:Value} {w w':World} (h:GX X e v w) (hK:KeepP pb w w') (hp:X pb) (hX : ∀ b,X' b→X b∨w.heap.size≤b):GX X' e v w' :=
 h.step ⟨fun b hn hlt=>hK.heap b hlt (fun e=>hn (e▸hp)),hX,hK.size⟩
theorem aCl {w:World} {X:Nat→Prop} {els:List (List CV)} {v:Value} (h:CVR w X (.vs els) v) : ∃ a c,v = .slice a els.length c:=by
 rcases aB6 h with ⟨rfl,a,rfl⟩ | ⟨b,o,sz,c,g,rfl,_⟩
 · exact⟨_,_,rfl⟩
 · exact⟨_,_,rfl⟩
theorem aEc : ∀ l:List Xp,(xcs l).length=l.length
 | []=>rfl
 | e::l=>by simp[xcs,aEc l]
abbrev xA (k:Int) (op:List UInt8) (v0 v1:Int) (v2 tb nm:List UInt8) (sl:Int) (nt ds:Bool) (s:Value):Array Value :=
 #[.int .i64 k,.string (bs op),.int .i64 v0,.int .i64 v1,.string (bs v2),.string (bs tb),.string (bs nm),.int .i64 sl,.bool nt,.bool ds,s]
theorem GX.form {X:Nat→Prop} {k:Int} {op:List UInt8} {v0 v1:Int} {v2 tb nm:List UInt8} {sl:Int} {nt ds:Bool} {args:List Xp} {v:Value} {w:World} (h:GX X (.mk k op (v0,v1,v2) tb nm sl nt ds args) v w) :
 ∃ sa sc,v = .agg (xA k op v0 v1 v2 tb nm sl nt ds (.slice sa args.length sc))∧CVR w X (.vs (xcs args)) (.slice sa args.length sc):=by
 unfold GX xD at h;simp only[DVR] at h;obtain⟨⟨a⟩,rfl,ha⟩:=h
 match a,ha with
 | [c0,c1,c2,c3,c4,c5,c6,c7,c8,c9,c10],ha =>
  simp only[Xp.cells,CVRs,and_true] at ha;obtain⟨h0,h1,h2,h3,h4,h5,h6,h7,h8,h9,h10⟩:=ha;cases h0; cases h1; cases h2; cases h3; cases h4; cases h5; cases h6; cases h7; cases h8; cases h9;obtain⟨sa,sc,rfl⟩:=aCl h10;rw[aEc] at h10 ⊢;exact⟨sa,sc,rfl,h10⟩
 | [],h=>simp[Xp.cells,CVRs] at h
 | [_],h=>simp[Xp.cells,CVRs] at h
 | [_,_],h=>simp[Xp.cells,CVRs] at h
 | [_,_,_],h=>simp[Xp.cells,CVRs] at h
 | [_,_,_,_],h=>simp[Xp.cells,CVRs] at h
 | [_,_,_,_,_],h=>simp[Xp.cells,CVRs] at h
 | [_,_,_,_,_,_],h=>simp[Xp.cells,CVRs] at h
 | [_,_,_,_,_,_,_],h=>simp[Xp.cells,CVRs] at h
 | [_,_,_,_,_,_,_,_],h=>simp[Xp.cells,CVRs] at h
 | [_,_,_,_,_,_,_,_,_],h=>simp[Xp.cells,CVRs] at h
 | [_,_,_,_,_,_,_,_,_,_],h=>simp[Xp.cells,CVRs] at h
 | _::_::_::_::_::_::_::_::_::_::_::_::_,h=>simp[Xp.cells,CVRs] at h
theorem GX.mk' {X:Nat→Prop} {k:Int} {op:List UInt8} {v0 v1:Int} {v2 tb nm:List UInt8} {sl:Int} {nt ds:Bool} {args:List Xp} {s:Value} {w:World} (h:CVR w X (.vs (xcs args)) s) :
 GX X (.mk k op (v0,v1,v2) tb nm sl nt ds args) (.agg (xA k op v0 v1 v2 tb nm sl nt ds s)) w:=by
 unfold GX xD;simp only[DVR];refine⟨_,rfl,?_⟩;simp only[Xp.cells,CVRs,and_true];exact⟨.v _ rfl,.v _ rfl,.v _ rfl,.v _ rfl,.v _ rfl,.v _ rfl,.v _ rfl,.v _ rfl,.v _ rfl,.v _ rfl,h⟩
theorem aET : ∀ (l:List Xp) (i:Nat) (el:List CV) (f:Nat) (cv:CV),(xcs l)[i]? = some el→el[f]? = some cv→el.length=11∧(l.flatMap Xp.cells)[i*11+f]? = some cv
 | [],i,el,f,cv,h,_=>by simp[xcs] at h
 | e::l,0,el,f,cv,h,hf=>by
  simp only[xcs,List.getElem?_cons_zero,Option.some.injEq] at h;subst h;have h11:=aBG e;have hlt:=(List.getElem?_eq_some_iff.1 hf).1;refine⟨h11,?_⟩;rw[List.flatMap_cons,List.getElem?_append_left (by omega)];simpa using hf
 | e::l,i+1,el,f,cv,h,hf=>by
  simp only[xcs,List.getElem?_cons_succ] at h;have ih:=aET l i el f cv h hf;have h11:=aBG e;refine⟨ih.1,?_⟩;rw[List.flatMap_cons,List.getElem?_append_right (by omega),h11,show (i+1)*11+f - 11=i*11+f by omega];exact ih.2
theorem aBp {w:World} {X:Nat→Prop} {l:List Xp} {b:Nat} {a:Array Value} {t:TypeId} {fr:Nat×Nat} (h:w.heap[b]? = some (.cells a t fr)) (hX : ¬ X b) (hc:CVRs w X (l.flatMap Xp.cells) a.toList):CVR w X (.vs (xcs l)) (.slice (some ⟨b,0,none⟩) l.length l.length):=by
 have hl:=aEc l
 have e:(Value.slice (some ⟨b,0,none⟩) l.length l.length) = .slice (some ⟨b,0,none⟩) (xcs l).length l.length:=by rw[hl]
 rw[e];refine .vs _ b 0 11 l.length (fun i f=>a.getD (i*11+f) undef) (fun el hel=>?_) (by omega) (fun i el hi f cv hf=>?_) (fun i el hi f cv hf=>?_)
 · obtain⟨i,hi⟩:=List.getElem?_of_mem hel
   cases el with
   | nil =>
    exfalso
    have : ∀ (l:List Xp),[] ∉ xcs l:=fun l=>by
     induction l with
     | nil=>simp[xcs]
     | cons e l ih =>
      simp only[xcs,List.mem_cons,not_or];refine⟨fun e'=>?_,ih⟩
      have:=aBG e
      rw[←e'] at this;cases this
    exact this l hel
   | cons c r=>exact (aET l i _ 0 c hi rfl).1
 all_goals
  obtain⟨_,h2⟩:=aET l i el f cv hi hf;obtain⟨r,hr,hv⟩:=aLQ hc _ cv h2;rw[Array.getElem?_toList] at hr
  have hg:a.getD (i*11+f) undef=r:=by rw[Array.getD_eq_getD_getElem?,hr]; rfl
  rw[hg]
 · refine⟨hX,?_⟩;simp[World.cell?,h,hr]
 · exact hv
theorem CVRs.app {w:World} {X:Nat→Prop} : ∀ {c d:List CV} {u v:List Value},CVRs w X c u→CVRs w X d v→CVRs w X (c++d) (u++v)
 | [],d,[],v,_,h=>h
 | c::cs,d,u::us,v,h1,h2=>by
  simp only[CVRs,List.cons_append] at h1 ⊢;exact⟨h1.1,h1.2.app h2⟩
 | [],_,_::_,_,h,_=>by simp[CVRs] at h
 | _::_,_,[],_,h,_=>by simp[CVRs] at h
theorem GX.cells {X:Nat→Prop} {e:Xp} {a:Array Value} {w:World} (h:GX X e (.agg a) w):CVRs w X e.cells a.toList:=by
 unfold GX xD at h;simp only[DVR] at h;obtain⟨b,e1,hb⟩:=h;injection e1 with e1;subst e1;exact hb
theorem aAf {w:World} {g:Nat} {c0 c1 c2 c3 c4 c5 c6 c7 c8 c9 c10:Value} {t:TypeId} (h:w.heap[g]? = some (.cells #[c0,c1,c2,c3,c4,c5,c6,c7,c8,c9,c10] t (0,0))) :
 w.cell? ⟨g,0,none⟩=some c0∧w.cell? ⟨g,1,none⟩=some c1∧w.cell? ⟨g,2,none⟩=some c2∧w.cell? ⟨g,3,none⟩=some c3∧w.cell? ⟨g,4,none⟩=some c4∧w.cell? ⟨g,5,none⟩=some c5∧w.cell? ⟨g,6,none⟩=some c6∧w.cell? ⟨g,7,none⟩=some c7∧w.cell? ⟨g,8,none⟩=some c8∧w.cell? ⟨g,9,none⟩=some c9∧w.cell? ⟨g,10,none⟩=some c10∧∀ o,w.frozen? ⟨g,o,none⟩=false:=by
 refine⟨?_,?_,?_,?_,?_,?_,?_,?_,?_,?_,?_,fun o=>by simp[World.frozen?,h]⟩ <;> simp[World.cell?,h]
theorem aBD {w:World} {g:Nat} {c0 c1 c2 c3 c4 c5 c6 c7 c8 c9 c10:Value} {t:TypeId} (hg:w.heap[g]? = some (.cells #[c0,c1,c2,c3,c4,c5,c6,c7,c8,c9,c10] t (0,0))) (v0 v1 v2 v3 v4 v5 v6 v7 v8 v9 v10:Value):(((((((((((w.setCell ⟨g,0,none⟩ v0).setCell ⟨g,1,none⟩ v1).setCell ⟨g,2,none⟩ v2).setCell ⟨g,3,none⟩ v3).setCell ⟨g,4,none⟩ v4).setCell ⟨g,5,none⟩ v5).setCell ⟨g,6,none⟩ v6).setCell ⟨g,7,none⟩ v7).setCell ⟨g,8,none⟩ v8).setCell ⟨g,9,none⟩ v9).setCell ⟨g,10,none⟩ v10).heap[g]? = some (.cells #[v0,v1,v2,v3,v4,v5,v6,v7,v8,v9,v10] t (0,0)):=by
 have h0:=Go.heap_setCell_same w g 0 _ t v0 hg;have h1:=Go.heap_setCell_same _ g 1 _ t v1 h0;have h2:=Go.heap_setCell_same _ g 2 _ t v2 h1;have h3:=Go.heap_setCell_same _ g 3 _ t v3 h2;have h4:=Go.heap_setCell_same _ g 4 _ t v4 h3;have h5:=Go.heap_setCell_same _ g 5 _ t v5 h4;have h6:=Go.heap_setCell_same _ g 6 _ t v6 h5;have h7:=Go.heap_setCell_same _ g 7 _ t v7 h6;have h8:=Go.heap_setCell_same _ g 8 _ t v8 h7;have h9:=Go.heap_setCell_same _ g 9 _ t v9 h8;have h10:=Go.heap_setCell_same _ g 10 _ t v10 h9;simpa using h10
theorem aAw {w:World} {g b:Nat} (hb:b≠g) (v0 v1 v2 v3 v4 v5 v6 v7 v8 v9 v10:Value):(((((((((((w.setCell ⟨g,0,none⟩ v0).setCell ⟨g,1,none⟩ v1).setCell ⟨g,2,none⟩ v2).setCell ⟨g,3,none⟩ v3).setCell ⟨g,4,none⟩ v4).setCell ⟨g,5,none⟩ v5).setCell ⟨g,6,none⟩ v6).setCell ⟨g,7,none⟩ v7).setCell ⟨g,8,none⟩ v8).setCell ⟨g,9,none⟩ v9).setCell ⟨g,10,none⟩ v10).heap[b]? = w.heap[b]? :=
 (Below.heap_setCell _ _ _ _ hb).trans ((Below.heap_setCell _ _ _ _ hb).trans ((Below.heap_setCell _ _ _ _ hb).trans ((Below.heap_setCell _ _ _ _ hb).trans ((Below.heap_setCell _ _ _ _ hb).trans ((Below.heap_setCell _ _ _ _ hb).trans ((Below.heap_setCell _ _ _ _ hb).trans ((Below.heap_setCell _ _ _ _ hb).trans ((Below.heap_setCell _ _ _ _ hb).trans ((Below.heap_setCell _ _ _ _ hb).trans (Below.heap_setCell _ _ _ _ hb))))))))))
theorem aFS {pb:Nat} {w0 w:World} (h:KeepP pb w0 w) {g:Nat} (hz:w0.heap.size≤g) (v0 v1 v2 v3 v4 v5 v6 v7 v8 v9 v10:Value):KeepP pb w0 (((((((((((w.setCell ⟨g,0,none⟩ v0).setCell ⟨g,1,none⟩ v1).setCell ⟨g,2,none⟩ v2).setCell ⟨g,3,none⟩ v3).setCell ⟨g,4,none⟩ v4).setCell ⟨g,5,none⟩ v5).setCell ⟨g,6,none⟩ v6).setCell ⟨g,7,none⟩ v7).setCell ⟨g,8,none⟩ v8).setCell ⟨g,9,none⟩ v9).setCell ⟨g,10,none⟩ v10):=(((((((((((h.set hz 0 _).set hz 1 _).set hz 2 _).set hz 3 _).set hz 4 _).set hz 5 _).set hz 6 _).set hz 7 _).set hz 8 _).set hz 9 _).set hz 10 _)
theorem aAF {P:Program} {F:Func} {a:Act} {l:List Tok} {pb:Nat} {la:Option Addr} {lc:Nat} {W w:World} {i j:Nat} {e:Xp} {R:PR Xp} {T:TypeId} {c0 c1 c2 c3 c4 c5 c6 c7 c8 c9 c10 v0 v1 v2 v3 v4 v5 v6 v7 v8 v9 v10:Value}
 (h4:w.heap[W.heap.size]? = some (.cells #[c0,c1,c2,c3,c4,c5,c6,c7,c8,c9,c10] T (0,0)))
 (hres : ∀ Wf:World,Wf.cell? ⟨W.heap.size,0,none⟩=some v0→Wf.cell? ⟨W.heap.size,1,none⟩=some v1→Wf.cell? ⟨W.heap.size,2,none⟩=some v2→Wf.cell? ⟨W.heap.size,3,none⟩=some v3→Wf.cell? ⟨W.heap.size,4,none⟩=some v4→Wf.cell? ⟨W.heap.size,5,none⟩=some v5→Wf.cell? ⟨W.heap.size,6,none⟩=some v6→Wf.cell? ⟨W.heap.size,7,none⟩=some v7→Wf.cell? ⟨W.heap.size,8,none⟩=some v8→Wf.cell? ⟨W.heap.size,9,none⟩=some v9→Wf.cell? ⟨W.heap.size,10,none⟩=some v10→(results F a.tmps).run P Wf = .ok (.agg #[v0,v1,v2,v3,v4,v5,v6,v7,v8,v9,v10]) Wf)
 (hd:a.defers=[]) (hP:PW l pb la lc W i) (hK:KeepP pb W w) (hP3:PW l pb la lc w j) (hx:GX (fun b=>b≤W.heap.size) e (.agg #[v0,v1,v2,v3,v4,v5,v6,v7,v8,v9,v10]) w) (hR:R = .ok e j) :
 bodyPost P F (aDJ l pb la lc W (GX (fun b=>b<W.heap.size)) R) .ret a (((((((((((w.setCell ⟨W.heap.size,0,none⟩ v0).setCell ⟨W.heap.size,1,none⟩ v1).setCell ⟨W.heap.size,2,none⟩ v2).setCell ⟨W.heap.size,3,none⟩ v3).setCell ⟨W.heap.size,4,none⟩ v4).setCell ⟨W.heap.size,5,none⟩ v5).setCell ⟨W.heap.size,6,none⟩ v6).setCell ⟨W.heap.size,7,none⟩ v7).setCell ⟨W.heap.size,8,none⟩ v8).setCell ⟨W.heap.size,9,none⟩ v9).setCell ⟨W.heap.size,10,none⟩ v10):=by
 have hA:=aBD h4 v0 v1 v2 v3 v4 v5 v6 v7 v8 v9 v10;have hB:=fun (g:Nat) (hg:g≠W.heap.size)=>aAw (w:=w) hg v0 v1 v2 v3 v4 v5 v6 v7 v8 v9 v10;have hK:=aFS hK (g:=W.heap.size) (by omega) v0 v1 v2 v3 v4 v5 v6 v7 v8 v9 v10;have hpl:=hP.lt;generalize hWf:World.setCell _ ⟨W.heap.size,10,none⟩ _=Wf at hA hB hK ⊢
 have hzf:Wf.heap.size=w.heap.size:=by rw[←hWf]; simp
 clear hWf;obtain⟨y0,y1,y2,y3,y4,y5,y6,y7,y8,y9,y10,_⟩:=aAf hA;refine bodyPost_ret (hres Wf y0 y1 y2 y3 y4 y5 y6 y7 y8 y9 y10) hd ?_;subst hR;exact⟨⟨_,rfl,hx.step ⟨fun b hn hlt=>hB b (by have : ¬ b≤W.heap.size:=hn; omega),fun b hb=>.inl (by have hb:b<W.heap.size:=hb; show b≤W.heap.size; omega),by omega⟩⟩,hK,hP.kept hK ((hB pb (by omega)).trans hP3.cell) hP3.le⟩
end
end Go.Proofs.YtcdeimjlgpfjiaaGreatDoor
