/- A symbolic run of Go code: functions that are handed a row of their caller's own. No condition. -/
import Derived.Test.YtcdeimjlgpfjiaaGreatDoorG09
import Derived.Test.YtcdeimjlgpfjiaaGreatDoorProg
import Derived.Test.YtcdeimjlgpfjiaaGreatDoorG02
set_option linter.unusedSimpArgs false
set_option linter.unusedVariables false
namespace Go.Proofs.YtcdeimjlgpfjiaaGreatDoor
section
open Go.RowKit
section
variable {P:Program} {T:Tab} {X:Nat→Prop}
def FinG (R:St→Option (List LV×List Need)) (res:DV) (ν:Nu) (_:Ex) (S:St):Prop :=
 match R S with
 | some (vs,ns)=>aAZ ν ns∧aNW ν vs=res
 | none=>False
theorem RowP.mono {w:World} {X Y:Nat→Prop} (h : ∀ b,Y b→X b) {at_:Option (Nat×Nat)} {c:List (List CV)} {e:TypeId} {sz:Nat} (hr:RowP w X at_ c e sz):RowP w Y at_ c e sz:=by
 obtain⟨h1,h2,h3⟩:=hr;refine⟨h1,h2,?_⟩;rcases h3 with h3 | ⟨b,cap,a,fr,g1,g2,g3,g4,g5,g6⟩
 · exact .inl h3
 · refine .inr ⟨b,cap,a,fr,g1,g2,g3,g4,g5,fun i el hi f cv hf=>?_⟩;obtain⟨r,hr,hv⟩:=g6 i el hi f cv hf;exact⟨r,hr,hv.mono h⟩
end
end
section
open Go.RowKit
def aAk (s:ByteArray) (i:Int):Int:=((s.data.getD i.toNat 0).toNat:Int)
def iteP (a b:E) (pc pa pb:Prop):Prop :=
 match a,b with
 | .bool true,_=>pc∨pb
 | _,.bool false=>pc∧pa
 | _,_=>(pc→pa)∧(¬ pc→pb)
def aC3 (ν:Nu):E→Prop
 | .bool b=>b=true
 | .lt a b=>denI ν a<denI ν b
 | .le a b=>denI ν a≤denI ν b
 | .eq a b=>denI ν a=denI ν b
 | .eqb a b=>denB ν a=denB ν b
 | .eqs a b=>denS ν a=denS ν b
 | .not a=>¬ aC3 ν a
 | .and a b=>aC3 ν a∧aC3 ν b
 | .ite c a b=>iteP a b (aC3 ν c) (aC3 ν a) (aC3 ν b)
 | e=>denB ν e=true
theorem aBI (ν:Nu) : ∀ (e:E),aC3 ν e↔denB ν e=true
 | .bool b=>by simp[aC3,denB]
 | .lt a b=>by simp[aC3,denB]
 | .le a b=>by simp[aC3,denB]
 | .eq a b=>by simp[aC3,denB]
 | .eqb a b=>by simp[aC3,denB]
 | .eqs a b=>by
  simp only[aC3,denB,beq_iff_eq]
  constructor
  · intro h; rw[h]
  · intro h;apply ByteArray.ext;apply Array.toList_inj.1;simpa[Lib.toList_data] using h
 | .not a=>by
  have:=aBI ν a
  simp only[aC3,denB,this]
  simp
 | .and a b=>by
  simp only[aC3,denB,aBI ν a,aBI ν b,Bool.and_eq_true]
 | .ite c a b=>by
  have hc:=aBI ν c;have ha:=aBI ν a;have hb:=aBI ν b;simp only[aC3,denB,hc,ha,hb];unfold iteP;split
  · simp only[denB];cases denB ν c <;> simp
  · simp only[denB];cases denB ν c <;> simp
  · cases denB ν c <;> simp
 | .var _ | .int _ | .str _ | .add _ _ | .sub _ _ | .mul _ _ | .quo _ _ | .rem _ _ | .wr _ _ | .lts _ _ | .len _ | .byte _ _ | .cat _ _ | .cut _ _ _ | .clen _ | .cell _ _ _ | .drop _ _ | .take _ _ | .sOf _ | .rune _ _ | .runeW _ _ | .mpos _ _ | .shr _ _ | .shl _ _ _ | .band _ _ _ | .bor _ _ _ | .shrv _ _ _ | .shlv _ _ _=>by
  simp only[aC3]
def aMx (ν:Nu) (g:E) (p:Prop):Prop :=
 match g with
 | .bool true=>p
 | g=>aC3 ν g→p
theorem aIy {ν:Nu} {g:E} {p:Prop} (h:aMx ν g p):denB ν g=true→p:=by
 unfold aMx at h;split at h
 · exact fun _=>h
 · exact fun hg=>h ((aBI ν _).2 hg)
def exD:List Srt→(Nu→Prop)→Prop
 | [],p=>p []
 | .i::r,p=>∃ z:Int,exD r fun l=>p (.i z::l)
 | .b::r,p=>∃ z:Bool,exD r fun l=>p (.b z::l)
 | .s::r,p=>∃ z:ByteArray,exD r fun l=>p (.s z::l)
 | .l::r,p=>∃ z:List (List CV),exD r fun l=>p (.l z::l)
def allD:List Srt→(Nu→Prop)→Prop
 | [],p=>p []
 | .i::r,p=>∀ z:Int,allD r fun l=>p (.i z::l)
 | .b::r,p=>∀ z:Bool,allD r fun l=>p (.b z::l)
 | .s::r,p=>∀ z:ByteArray,allD r fun l=>p (.s z::l)
 | .l::r,p=>∀ z:List (List CV),allD r fun l=>p (.l z::l)
def aNS:List Srt→Type
 | []=>Nat→Prop
 | .i::r=>Int→aNS r
 | .b::r=>Bool→aNS r
 | .s::r=>ByteArray→aNS r
 | .l::r=>List (List CV)→aNS r
def hdD:Nu→D
 | []=>.b false
 | d::_=>d
def tlD:Nu→Nu
 | []=>[]
 | _::r=>r
def apD:(ss:List Srt)→aNS ss→Nu→Nat→Prop
 | [],I,_,k=>I k
 | .i::r,I,ds,k=>apD r (I (hdD ds).int) (tlD ds) k
 | .b::r,I,ds,k=>apD r (I (hdD ds).bool) (tlD ds) k
 | .s::r,I,ds,k=>apD r (I (hdD ds).str) (tlD ds) k
 | .l::r,I,ds,k=>apD r (I (hdD ds).els) (tlD ds) k
def isD:List Srt→Nu→Prop
 | [],[]=>True
 | .i::r,.i _::l=>isD r l
 | .b::r,.b _::l=>isD r l
 | .s::r,.s _::l=>isD r l
 | .l::r,.l _::l=>isD r l
 | _,_=>False
theorem aH0 (ν:Nu) : ∀ (θ:List (Srt×E)),isD (θ.map (·.1)) (θ.map (mkD ν))
 | []=>trivial
 | (.i,_)::r=>aH0 ν r
 | (.b,_)::r=>aH0 ν r
 | (.s,_)::r=>aH0 ν r
 | (.l,_)::r=>aH0 ν r
theorem aKk : ∀ (ss:List Srt) (p:Nu→Prop),exD ss p→∃ ds:Nu,ds.length=ss.length∧p ds
 | [],p,h=>⟨[],rfl,h⟩
 | .i::r,p,⟨z,h⟩=>by
  obtain⟨ds,hl,hp⟩:=aKk r _ h;exact⟨_,by simp[hl],hp⟩
 | .b::r,p,⟨z,h⟩=>by
  obtain⟨ds,hl,hp⟩:=aKk r _ h;exact⟨_,by simp[hl],hp⟩
 | .s::r,p,⟨z,h⟩=>by
  obtain⟨ds,hl,hp⟩:=aKk r _ h;exact⟨_,by simp[hl],hp⟩
 | .l::r,p,⟨z,h⟩=>by
  obtain⟨ds,hl,hp⟩:=aKk r _ h;exact⟨_,by simp[hl],hp⟩
theorem aGQ : ∀ (ss:List Srt) (p:Nu→Prop),allD ss p→∀ ds,isD ss ds→p ds
 | [],p,h,[],_=>h
 | [],p,h,_::_,hd=>by simp[isD] at hd
 | .i::r,p,h,.i z::l,hd=>aGQ r (fun l=>p (.i z::l)) (h z) l hd
 | .b::r,p,h,.b z::l,hd=>aGQ r (fun l=>p (.b z::l)) (h z) l hd
 | .s::r,p,h,.s z::l,hd=>aGQ r (fun l=>p (.s z::l)) (h z) l hd
 | .l::r,p,h,.l z::l,hd=>aGQ r (fun l=>p (.l z::l)) (h z) l hd
 | _::_,p,h,[],hd=>by simp[isD] at hd
 | .i::_,p,h,.b _::_,hd | .i::_,p,h,.s _::_,hd | .i::_,p,h,.l _::_,hd=>by simp[isD] at hd
 | .b::_,p,h,.i _::_,hd | .b::_,p,h,.s _::_,hd | .b::_,p,h,.l _::_,hd=>by simp[isD] at hd
 | .s::_,p,h,.b _::_,hd | .s::_,p,h,.i _::_,hd | .s::_,p,h,.l _::_,hd=>by simp[isD] at hd
 | .l::_,p,h,.b _::_,hd | .l::_,p,h,.s _::_,hd | .l::_,p,h,.i _::_,hd=>by simp[isD] at hd
mutual
def srts:LV→List Srt
 | .b _=>[.b]
 | .i _ _=>[.i]
 | .s _=>[.s]
 | .vs _ | .o _=>[.l]
 | .agg cs | .tup cs=>aVs cs
 | _=>[]
def aVs:List LV→List Srt
 | []=>[]
 | v::r=>srts v++aVs r
end
def aTJ (ν:Nu):List Need→Prop→Prop
 | [],p=>p
 | n::r,p=>denN ν n∧aTJ ν r p
theorem aMh {ν:Nu} {p:Prop} : ∀ (l:List Need),aTJ ν l p→aAZ ν l∧p
 | [],h=>⟨fun n hn=>by simp at hn,h⟩
 | n::r,h=>by
  obtain⟨h1,h2⟩:=aMh r h.2;refine⟨fun m hm=>?_,h2⟩;rcases List.mem_cons.1 hm with rfl | hm
  · exact h.1
  · exact h1 m hm
def denT (P:Program) (R:St→Option (List LV×List Need)) (res:DV):(Nat→List Srt→Nu→Prop)→Nu→Tr→Prop
 | _,ν,.done _ S=>match R S with
  | some (vs,ns)=>aTJ ν ns (aNW ν vs=res)
  | none=>False
 | Ag,ν,.br c t f=>(aC3 ν c→denT P R res Ag ν t)∧(¬ aC3 ν c→denT P R res Ag ν f)
 | Ag,ν,.need g p t=>aMx ν g (denN ν p)∧denT P R res Ag ν t
 | Ag,ν,.letC d t=>∀ l,l=aBo ν d→denT P R res Ag (ν++[.l l]) t
 | Ag,ν,.nil c t f=>(denC ν c=[]→denT P R res Ag ν t)∧denT P R res Ag ν f
 | Ag,ν,.call md g f as_ sh n m t=>match Nat.beq (n+(srts sh).length) m with
  | true=>exD (srts sh) fun ds=>aMx ν g (CallOK P md f (aAX ν as_) (dvOf (ν++ds) sh))∧denT P R res Ag (ν++ds) t
  | false=>False
 | Ag,ν,.loop m θ t=>∃ I:aNS (θ.map (·.1)),(∃ k,apD _ I (θ.map (mkD ν)) k) ∧
  ∀ k,allD (θ.map (·.1)) fun ds=>apD _ I ds k→denT P R res (fun m' ss ds'=>match Nat.beq m' m with
   | true=>match decide (ss=θ.map (·.1)) with
    | true=>∃ k',k'<k∧apD _ I ds' k'
    | false=>False
   | false=>Ag m' ss ds') (ν++ds) t
 | Ag,ν,.again m θ=>Ag m (θ.map (·.1)) (θ.map (mkD ν))
 | _,_,.stop _ _=>False
 | _,_,.fail _=>False
theorem aCb {P:Program} {R:St→Option (List LV×List Need)} {res:DV} : ∀ (t:Tr) (Ag:Nat→List Srt→Nu→Prop) (Ag':Nu→Nat→List D→Prop) (ν:Nu),(∀ ν' m ss ds,isD ss ds→Ag m ss ds→Ag' ν' m ds) →
 denT P R res Ag ν t→den P (FinG R res) Ag' ν t
 | .done e S,Ag,Ag',ν,h,hd=>by
  simp only[denT] at hd;simp only[den];unfold FinG;split at hd
  · rename_i vs ns he
    try rw[he]
    exact aMh _ hd
  · exact hd.elim
 | .br c t f,Ag,Ag',ν,h,hd=>by
  simp only[denT] at hd;refine⟨fun hc=>aCb t Ag Ag' ν h (hd.1 ((aBI ν c).2 hc)),fun hc=>aCb f Ag Ag' ν h (hd.2 fun hp=>?_)⟩;rw[(aBI ν c).1 hp] at hc;cases hc
 | .need g p t,Ag,Ag',ν,h,hd=>⟨aIy hd.1,aCb t Ag Ag' ν h hd.2⟩
 | .letC d t,Ag,Ag',ν,h,hd=>fun l hl=>aCb t Ag Ag' _ h (hd l hl)
 | .nil c t f,Ag,Ag',ν,h,hd=>by
  simp only[denT] at hd;exact⟨fun hc=>aCb t Ag Ag' ν h (hd.1 hc),aCb f Ag Ag' ν h hd.2⟩
 | .call md g f as_ sh n m t,Ag,Ag',ν,h,hd=>by
  simp only[denT] at hd;split at hd
  · rename_i hb;obtain⟨ds,hl,h1,h2⟩:=aKk _ _ hd;exact⟨ds,by rw[hl]; exact Nat.eq_of_beq_eq_true hb,aIy h1,aCb t Ag Ag' _ h h2⟩
  · exact hd.elim
 | .loop m θ t,Ag,Ag',ν,h,hd=>by
  simp only[denT] at hd;obtain⟨I,⟨k0,hk0⟩,hI⟩:=hd;refine⟨fun ds k=>isD (θ.map (·.1)) ds∧apD _ I ds k,⟨k0,aH0 ν θ,hk0⟩,fun k ds hl hi=>?_⟩;refine aCb t _ _ _ (fun ν' m' ss ds' hs hag=>?_) (aGQ _ _ (hI k) ds hi.1 hi.2);split at hag
  · rename_i hb;rw[if_pos (Nat.eq_of_beq_eq_true hb)];split at hag
    · rename_i hss;simp only[decide_eq_true_eq] at hss;subst hss;obtain⟨k',hk',ha⟩:=hag;exact⟨k',hk',hs,ha⟩
    · exact hag.elim
  · rename_i hb;rw[if_neg (fun e=>by subst e; simp at hb)];exact h ν' m' ss ds' hs hag
 | .again m θ,Ag,Ag',ν,h,hd=>h _ _ _ _ (aH0 ν θ) hd
 | .stop _ _,Ag,Ag',ν,h,hd=>hd
 | .fail _,Ag,Ag',ν,h,hd=>hd
theorem aAs {P:Program} {T:Tab} (hT:TOK P T) (hm:P.follows .mixedOrders=true) {B:FuncId→Option Func} (hB : ∀ f fn,B f=some fn→P.funcs[f]? = some fn) {f:FuncId} {fn:Func} (hf:P.funcs[f]? = some fn) (hn:(fn.name == "runtime.NumGoroutine")=false) (n:Nat) (ν:Nu) (ps:List LV)
 (ok:(match fn.body with | some _=>ps.all aCW&&Nat.ble ps.length fn.ntmps | none=>false)=true) {res:DV} {as_:List DV} {G:Prop}
 (hd:(denT P (fun S=>aIe T S fn.results.toList) res (fun _ _ _=>False) ν (match fn.body with | some c=>runB T B n (aHe fn.results.toList) .done 0 [.code c] ⟨ps++List.replicate (fn.ntmps - ps.length) (.tup []),[],ν.length,[]⟩ | none=>.fail 0))=G)
 (ha:aAX ν ps=as_) (h:G):FnC P f as_ res:=by
 subst ha hd
 cases hb:fn.body with
 | none=>rw[hb] at ok; simp at ok
 | some c =>
  rw[hb] at ok h;simp only[Bool.and_eq_true] at ok;exact aU5 hT hm hB hf hn hb n ν ps ok.1 (by simpa using ok.2) (aCb _ _ _ _ (fun _ _ _ _ _ h=>h.elim) h)
end
section
def tt:Tab:=⟨
 (0,⟨.tuple #[],1,0,some (.tuple #[]),false⟩) ::
 (1,⟨.func #[] #[] false,1,8,some (.nilFunc),false⟩) ::
 (2,⟨.int .i64,1,8,some (.int .i64 0),false⟩) ::
 (3,⟨.int .i64,1,8,some (.int .i64 0),false⟩) ::
 (4,⟨.bool,1,1,some (.bool false),false⟩) ::
 (5,⟨.int .u8,1,1,some (.int .u8 0),false⟩) ::
 (6,⟨.int .u8,1,1,some (.int .u8 0),false⟩) ::
 (9,⟨.string,1,16,some (.string ⟨#[]⟩),false⟩) ::
 (10,⟨.string,1,16,some (.string ⟨#[]⟩),false⟩) ::
 (11,⟨.string,1,16,some (.string ⟨#[]⟩),false⟩) ::
 (12,⟨.int .u64,1,8,some (.int .u64 0),false⟩) ::
 (15,⟨.pointer 169,1,8,some (.pointer none),false⟩) ::
 (16,⟨.pointer 172,1,8,some (.pointer none),false⟩) ::
 (17,⟨.pointer 180,1,8,some (.pointer none),false⟩) ::
 (18,⟨.struct #[⟨ "typ",17,0,false,"",(aDh [105,110,116,101,114,110,97,108,47,114,117,110,116,105,109,101,47,109,97,112,115]),0⟩],1,8,some (.agg #[.pointer none]),false⟩) ::
 (19,⟨.struct #[⟨ "typ",17,0,false,"",(aDh [105,110,116,101,114,110,97,108,47,114,117,110,116,105,109,101,47,109,97,112,115]),0⟩],1,8,some (.agg #[.pointer none]),false⟩) ::
 (20,⟨.interface #[],1,16,some (.nilIface),false⟩) ::
 (21,⟨.int .i32,1,4,some (.int .i32 0),false⟩) ::
 (22,⟨.struct #[⟨ "Kind",3,0,false,"","",0⟩,⟨ "N",2,1,false,"","",8⟩,⟨ "S",9,2,false,"","",16⟩],3,32,some (.agg #[.int .i64 0,.int .i64 0,.string ⟨#[]⟩]),true⟩) ::
 (23,⟨.struct #[⟨ "Kind",3,0,false,"","",0⟩,⟨ "N",2,1,false,"","",8⟩,⟨ "S",9,2,false,"","",16⟩],3,32,some (.agg #[.int .i64 0,.int .i64 0,.string ⟨#[]⟩]),true⟩) ::
 (24,⟨.slice 26,1,24,some (.slice none 0 0),false⟩) ::
 (25,⟨.struct #[⟨ "Kind",3,0,false,"","",0⟩,⟨ "Op",9,1,false,"","",8⟩,⟨ "Val",23,2,false,"","",24⟩,⟨ "Table",9,5,false,"","",56⟩,⟨ "Name",9,6,false,"","",72⟩,⟨ "Slot",3,7,false,"","",88⟩,⟨ "Not",4,8,false,"","",96⟩,⟨ "Distinct",4,9,false,"","",97⟩,⟨ "Args",24,10,false,"","",104⟩],11,128,some (.agg #[.int .i64 0,.string ⟨#[]⟩,.int .i64 0,.int .i64 0,.string ⟨#[]⟩,.string ⟨#[]⟩,.string ⟨#[]⟩,.int .i64 0,.bool false,.bool false,.slice none 0 0]),false⟩) ::
 (26,⟨.struct #[⟨ "Kind",3,0,false,"","",0⟩,⟨ "Op",9,1,false,"","",8⟩,⟨ "Val",23,2,false,"","",24⟩,⟨ "Table",9,5,false,"","",56⟩,⟨ "Name",9,6,false,"","",72⟩,⟨ "Slot",3,7,false,"","",88⟩,⟨ "Not",4,8,false,"","",96⟩,⟨ "Distinct",4,9,false,"","",97⟩,⟨ "Args",24,10,false,"","",104⟩],11,128,some (.agg #[.int .i64 0,.string ⟨#[]⟩,.int .i64 0,.int .i64 0,.string ⟨#[]⟩,.string ⟨#[]⟩,.string ⟨#[]⟩,.int .i64 0,.bool false,.bool false,.slice none 0 0]),false⟩) ::
 (27,⟨.slice 23,1,24,some (.slice none 0 0),false⟩) ::
 (28,⟨.func #[26] #[3] false,1,8,some (.nilFunc),false⟩) ::
 (29,⟨.func #[] #[4] false,1,8,some (.nilFunc),false⟩) ::
 (30,⟨.func #[26] #[26] false,1,8,some (.nilFunc),false⟩) ::
 (31,⟨.func #[26] #[9] false,1,8,some (.nilFunc),false⟩) ::
 (32,⟨.int .i64,1,8,some (.int .i64 0),false⟩) ::
 (33,⟨.tuple #[26,3,32],1,0,some (.tuple #[.agg #[.int .i64 0,.string ⟨#[]⟩,.int .i64 0,.int .i64 0,.string ⟨#[]⟩,.string ⟨#[]⟩,.string ⟨#[]⟩,.int .i64 0,.bool false,.bool false,.slice none 0 0],.int .i64 0,.int .i64 0]),false⟩) ::
 (34,⟨.func #[9] #[26,3,32] false,1,8,some (.nilFunc),false⟩) ::
 (35,⟨.func #[26,26] #[4] false,1,8,some (.nilFunc),false⟩) ::
 (36,⟨.slice 40,1,24,some (.slice none 0 0),false⟩) ::
 (37,⟨.tuple #[36,3,32],1,0,some (.tuple #[.slice none 0 0,.int .i64 0,.int .i64 0]),false⟩) ::
 (38,⟨.func #[9] #[36,3,32] false,1,8,some (.nilFunc),false⟩) ::
 (39,⟨.struct #[⟨ "Kind",3,0,false,"","",0⟩,⟨ "S",9,1,false,"","",8⟩,⟨ "Val",23,2,false,"","",24⟩,⟨ "At",3,5,false,"","",56⟩],6,64,some (.agg #[.int .i64 0,.string ⟨#[]⟩,.int .i64 0,.int .i64 0,.string ⟨#[]⟩,.int .i64 0]),false⟩) ::
 (40,⟨.struct #[⟨ "Kind",3,0,false,"","",0⟩,⟨ "S",9,1,false,"","",8⟩,⟨ "Val",23,2,false,"","",24⟩,⟨ "At",3,5,false,"","",56⟩],6,64,some (.agg #[.int .i64 0,.string ⟨#[]⟩,.int .i64 0,.int .i64 0,.string ⟨#[]⟩,.int .i64 0]),false⟩) ::
 (41,⟨.tuple #[26,4],1,0,some (.tuple #[.agg #[.int .i64 0,.string ⟨#[]⟩,.int .i64 0,.int .i64 0,.string ⟨#[]⟩,.string ⟨#[]⟩,.string ⟨#[]⟩,.int .i64 0,.bool false,.bool false,.slice none 0 0],.bool false]),false⟩) ::
 (42,⟨.func #[26] #[26,4] false,1,8,some (.nilFunc),false⟩) ::
 (43,⟨.tuple #[23,32],1,0,some (.tuple #[.agg #[.int .i64 0,.int .i64 0,.string ⟨#[]⟩],.int .i64 0]),false⟩) ::
 (44,⟨.func #[26,27] #[23,32] false,1,8,some (.nilFunc),false⟩) ::
 (45,⟨.func #[26,27] #[4] false,1,8,some (.nilFunc),false⟩) ::
 (46,⟨.func #[2] #[9] false,1,8,some (.nilFunc),false⟩) ::
 (47,⟨.func #[23] #[9] false,1,8,some (.nilFunc),false⟩) ::
 (48,⟨.func #[26,3] #[9] false,1,8,some (.nilFunc),false⟩) ::
 (49,⟨.func #[26,9] #[9] false,1,8,some (.nilFunc),false⟩) ::
 (50,⟨.func #[24] #[9] false,1,8,some (.nilFunc),false⟩) ::
 (51,⟨.func #[26,3] #[26] false,1,8,some (.nilFunc),false⟩) ::
 (52,⟨.func #[3] #[3] false,1,8,some (.nilFunc),false⟩) ::
 (53,⟨.func #[36,3] #[26,3,32] false,1,8,some (.nilFunc),false⟩) ::
 (54,⟨.func #[9] #[9] false,1,8,some (.nilFunc),false⟩) ::
 (55,⟨.func #[9,9] #[4] false,1,8,some (.nilFunc),false⟩) ::
 (56,⟨.func #[24,24,35] #[4] false,1,8,some (.nilFunc),false⟩) ::
 (57,⟨.func #[9,3] #[3] false,1,8,some (.nilFunc),false⟩) ::
 (58,⟨.tuple #[40,3,32],1,0,some (.tuple #[.agg #[.int .i64 0,.string ⟨#[]⟩,.int .i64 0,.int .i64 0,.string ⟨#[]⟩,.int .i64 0],.int .i64 0,.int .i64 0]),false⟩) ::
 (59,⟨.func #[9,3] #[40,3,32] false,1,8,some (.nilFunc),false⟩) ::
 (60,⟨.tuple #[2,32],1,0,some (.tuple #[.int .i64 0,.int .i64 0]),false⟩) ::
 (61,⟨.func #[9] #[2,32] false,1,8,some (.nilFunc),false⟩) ::
 (62,⟨.func #[26] #[32] false,1,8,some (.nilFunc),false⟩) ::
 (63,⟨.func #[26,27,27] #[23,32] false,1,8,some (.nilFunc),false⟩) ::
 (64,⟨.int .u64,1,8,some (.int .u64 0),false⟩) ::
 (65,⟨.array 20 5,20,20,some (.agg #[.int .u8 0,.int .u8 0,.int .u8 0,.int .u8 0,.int .u8 0,.int .u8 0,.int .u8 0,.int .u8 0,.int .u8 0,.int .u8 0,.int .u8 0,.int .u8 0,.int .u8 0,.int .u8 0,.int .u8 0,.int .u8 0,.int .u8 0,.int .u8 0,.int .u8 0,.int .u8 0]),false⟩) ::
 (66,⟨.slice 5,1,24,some (.slice none 0 0),false⟩) ::
 (67,⟨.func #[9,9,9] #[9] false,1,8,some (.nilFunc),false⟩) ::
 (68,⟨.slice 9,1,24,some (.slice none 0 0),false⟩) ::
 (69,⟨.func #[68,9] #[9] false,1,8,some (.nilFunc),false⟩) ::
 (70,⟨.struct #[⟨ "at",3,0,false,"",(aDh [116,111,109,101,47,101,120,112,114]),0⟩],1,8,some (.agg #[.int .i64 0]),true⟩) ::
 (71,⟨.struct #[⟨ "at",3,0,false,"",(aDh [116,111,109,101,47,101,120,112,114]),0⟩],1,8,some (.agg #[.int .i64 0]),true⟩) ::
 (72,⟨.tuple #[71,4],1,0,some (.tuple #[.agg #[.int .i64 0],.bool false]),false⟩) ::
 (73,⟨.pointer 75,1,8,some (.pointer none),false⟩) ::
 (74,⟨.struct #[⟨ "l",36,0,false,"",(aDh [116,111,109,101,47,101,120,112,114]),0⟩,⟨ "at",3,1,false,"",(aDh [116,111,109,101,47,101,120,112,114]),24⟩],2,32,some (.agg #[.slice none 0 0,.int .i64 0]),false⟩) ::
 (75,⟨.struct #[⟨ "l",36,0,false,"",(aDh [116,111,109,101,47,101,120,112,114]),0⟩,⟨ "at",3,1,false,"",(aDh [116,111,109,101,47,101,120,112,114]),24⟩],2,32,some (.agg #[.slice none 0 0,.int .i64 0]),false⟩) ::
 (76,⟨.func #[] #[26] false,1,8,some (.nilFunc),false⟩) ::
 (77,⟨.func #[5] #[4] false,1,8,some (.nilFunc),false⟩) ::
 (78,⟨.tuple #[3,4],1,0,some (.tuple #[.int .i64 0,.bool false]),false⟩) ::
 (79,⟨.func #[9,3] #[3,4] false,1,8,some (.nilFunc),false⟩) ::
 (80,⟨.func #[9,3,3] #[40,3,32] false,1,8,some (.nilFunc),false⟩) ::
 (81,⟨.func #[9,3,77] #[3] false,1,8,some (.nilFunc),false⟩) ::
 (82,⟨.func #[9] #[4] false,1,8,some (.nilFunc),false⟩) ::
 (83,⟨.tuple #[9,4],1,0,some (.tuple #[.string ⟨#[]⟩,.bool false]),false⟩) ::
 (84,⟨.func #[9,9] #[9,4] false,1,8,some (.nilFunc),false⟩) ::
 (85,⟨.tuple #[4,32],1,0,some (.tuple #[.bool false,.int .i64 0]),false⟩) ::
 (86,⟨.func #[26,27,27] #[4,32] false,1,8,some (.nilFunc),false⟩) ::
 (87,⟨.func #[9,23] #[23,32] false,1,8,some (.nilFunc),false⟩) ::
 (88,⟨.func #[9,23,23] #[23,32] false,1,8,some (.nilFunc),false⟩) ::
 (89,⟨.func #[4] #[23] false,1,8,some (.nilFunc),false⟩) ::
 (90,⟨.func #[23,23,3] #[3] false,1,8,some (.nilFunc),false⟩) ::
 (91,⟨.func #[23,4] #[23] false,1,8,some (.nilFunc),false⟩) ::
 (92,⟨.func #[27] #[23] false,1,8,some (.nilFunc),false⟩) ::
 (93,⟨.func #[23,23,4] #[23,32] false,1,8,some (.nilFunc),false⟩) ::
 (94,⟨.func #[9,23,23] #[23] false,1,8,some (.nilFunc),false⟩) ::
 (95,⟨.func #[9,27] #[23,32] true,1,8,some (.nilFunc),false⟩) ::
 (96,⟨.func #[9,9,9,3] #[9] false,1,8,some (.nilFunc),false⟩) ::
 (97,⟨.int .u64,1,8,some (.int .u64 0),false⟩) ::
 (98,⟨.pointer 100,1,8,some (.pointer none),false⟩) ::
 (99,⟨.struct #[⟨ "addr",98,0,false,"","strings",0⟩,⟨ "buf",66,1,false,"","strings",8⟩],2,32,some (.agg #[.pointer none,.slice none 0 0]),false⟩) ::
 (100,⟨.struct #[⟨ "addr",98,0,false,"","strings",0⟩,⟨ "buf",66,1,false,"","strings",8⟩],2,32,some (.agg #[.pointer none,.slice none 0 0]),false⟩) ::
 (101,⟨.func #[3] #[] false,1,8,some (.nilFunc),false⟩) ::
 (102,⟨.interface #[("Error",106)],1,16,some (.nilIface),false⟩) ::
 (103,⟨.interface #[("Error",106)],1,16,some (.nilIface),false⟩) ::
 (104,⟨.tuple #[3,103],1,0,some (.tuple #[.int .i64 0,.nilIface]),false⟩) ::
 (105,⟨.func #[9] #[3,103] false,1,8,some (.nilFunc),false⟩) ::
 (106,⟨.func #[] #[9] false,1,8,some (.nilFunc),false⟩) ::
 (107,⟨.func #[76,3,68] #[26] true,1,8,some (.nilFunc),false⟩) ::
 (108,⟨.func #[9] #[23,32] false,1,8,some (.nilFunc),false⟩) ::
 (109,⟨.func #[21] #[4] false,1,8,some (.nilFunc),false⟩) ::
 (110,⟨.tuple #[4,4,32],1,0,some (.tuple #[.bool false,.bool false,.int .i64 0]),false⟩) ::
 (111,⟨.func #[23] #[4,4,32] false,1,8,some (.nilFunc),false⟩) ::
 (112,⟨.func #[4,4] #[23] false,1,8,some (.nilFunc),false⟩) ::
 (113,⟨.func #[2] #[23] false,1,8,some (.nilFunc),false⟩) ::
 (114,⟨.func #[23,23] #[23,32] false,1,8,some (.nilFunc),false⟩) ::
 (115,⟨.func #[3,3] #[3] false,1,8,some (.nilFunc),false⟩) ::
 (116,⟨.func #[2,2] #[3] false,1,8,some (.nilFunc),false⟩) ::
 (117,⟨.func #[9,9] #[3] false,1,8,some (.nilFunc),false⟩) ::
 (118,⟨.tuple #[4,4],1,0,some (.tuple #[.bool false,.bool false]),false⟩) ::
 (119,⟨.func #[23] #[4,4] false,1,8,some (.nilFunc),false⟩) ::
 (120,⟨.array 2 23,6,64,some (.agg #[.int .i64 0,.int .i64 0,.string ⟨#[]⟩,.int .i64 0,.int .i64 0,.string ⟨#[]⟩]),false⟩) ::
 (121,⟨.func #[9,3] #[4] false,1,8,some (.nilFunc),false⟩) ::
 (122,⟨.func #[23] #[32] false,1,8,some (.nilFunc),false⟩) ::
 (123,⟨.tuple #[23,32,4],1,0,some (.tuple #[.agg #[.int .i64 0,.int .i64 0,.string ⟨#[]⟩],.int .i64 0,.bool false]),false⟩) ::
 (124,⟨.func #[9,27] #[23,32,4] false,1,8,some (.nilFunc),false⟩) ::
 (125,⟨.func #[9,27] #[23,32] false,1,8,some (.nilFunc),false⟩) ::
 (126,⟨.func #[23,3] #[23,32] false,1,8,some (.nilFunc),false⟩) ::
 (127,⟨.tuple #[21,3],1,0,some (.tuple #[.int .i32 0,.int .i64 0]),false⟩) ::
 (128,⟨.func #[9] #[21,3] false,1,8,some (.nilFunc),false⟩) ::
 (129,⟨.pointer 5,1,8,some (.pointer none),false⟩) ::
 (130,⟨.func #[3,68] #[9,4] true,1,8,some (.nilFunc),false⟩) ::
 (131,⟨.func #[9] #[9,4] false,1,8,some (.nilFunc),false⟩) ::
 (132,⟨.func #[3,9,4] #[23,32] false,1,8,some (.nilFunc),false⟩) ::
 (133,⟨.func #[2,4] #[23,32] false,1,8,some (.nilFunc),false⟩) ::
 (134,⟨.tuple #[2,4],1,0,some (.tuple #[.int .i64 0,.bool false]),false⟩) ::
 (135,⟨.func #[2,2] #[2,4] false,1,8,some (.nilFunc),false⟩) ::
 (136,⟨.func #[9,2,2] #[23,32] false,1,8,some (.nilFunc),false⟩) ::
 (137,⟨.func #[23] #[9,4] false,1,8,some (.nilFunc),false⟩) ::
 (138,⟨.func #[9] #[23] false,1,8,some (.nilFunc),false⟩) ::
 (139,⟨.func #[3] #[4] false,1,8,some (.nilFunc),false⟩) ::
 (140,⟨.func #[2] #[4] false,1,8,some (.nilFunc),false⟩) ::
 (141,⟨.tuple #[23,4],1,0,some (.tuple #[.agg #[.int .i64 0,.int .i64 0,.string ⟨#[]⟩],.bool false]),false⟩) ::
 (142,⟨.func #[23] #[23,4] false,1,8,some (.nilFunc),false⟩) ::
 (143,⟨.func #[27] #[23,32] false,1,8,some (.nilFunc),false⟩) ::
 (144,⟨.func #[2] #[23,32] false,1,8,some (.nilFunc),false⟩) ::
 (145,⟨.func #[9] #[3] false,1,8,some (.nilFunc),false⟩) ::
 (146,⟨.func #[23] #[23,32] false,1,8,some (.nilFunc),false⟩) ::
 (147,⟨.func #[9,5] #[3] false,1,8,some (.nilFunc),false⟩) ::
 (148,⟨.unsafePointer,1,8,some (.pointer none),false⟩) ::
 (149,⟨.func #[148] #[148] false,1,8,some (.nilFunc),false⟩) ::
 (150,⟨.func #[3] #[66] false,1,8,some (.nilFunc),false⟩) ::
 (151,⟨.func #[3,9] #[4] false,1,8,some (.nilFunc),false⟩) ::
 (152,⟨.tuple #[5,4],1,0,some (.tuple #[.int .u8 0,.bool false]),false⟩) ::
 (153,⟨.func #[5] #[5,4] false,1,8,some (.nilFunc),false⟩) ::
 (154,⟨.func #[9,9,3] #[3] false,1,8,some (.nilFunc),false⟩) ::
 (155,⟨.array 256 5,256,256,some (.agg #[.int .u8 0,.int .u8 0,.int .u8 0,.int .u8 0,.int .u8 0,.int .u8 0,.int .u8 0,.int .u8 0,.int .u8 0,.int .u8 0,.int .u8 0,.int .u8 0,.int .u8 0,.int .u8 0,.int .u8 0,.int .u8 0,.int .u8 0,.int .u8 0,.int .u8 0,.int .u8 0,.int .u8 0,.int .u8 0,.int .u8 0,.int .u8 0,.int .u8 0,.int .u8 0,.int .u8 0,.int .u8 0,.int .u8 0,.int .u8 0,.int .u8 0,.int .u8 0,.int .u8 0,.int .u8 0,.int .u8 0,.int .u8 0,.int .u8 0,.int .u8 0,.int .u8 0,.int .u8 0,.int .u8 0,.int .u8 0,.int .u8 0,.int .u8 0,.int .u8 0,.int .u8 0,.int .u8 0,.int .u8 0,.int .u8 0,.int .u8 0,.int .u8 0,.int .u8 0,.int .u8 0,.int .u8 0,.int .u8 0,.int .u8 0,.int .u8 0,.int .u8 0,.int .u8 0,.int .u8 0,.int .u8 0,.int .u8 0,.int .u8 0,.int .u8 0,.int .u8 0,.int .u8 0,.int .u8 0,.int .u8 0,.int .u8 0,.int .u8 0,.int .u8 0,.int .u8 0,.int .u8 0,.int .u8 0,.int .u8 0,.int .u8 0,.int .u8 0,.int .u8 0,.int .u8 0,.int .u8 0,.int .u8 0,.int .u8 0,.int .u8 0,.int .u8 0,.int .u8 0,.int .u8 0,.int .u8 0,.int .u8 0,.int .u8 0,.int .u8 0,.int .u8 0,.int .u8 0,.int .u8 0,.int .u8 0,.int .u8 0,.int .u8 0,.int .u8 0,.int .u8 0,.int .u8 0,.int .u8 0,.int .u8 0,.int .u8 0,.int .u8 0,.int .u8 0,.int .u8 0,.int .u8 0,.int .u8 0,.int .u8 0,.int .u8 0,.int .u8 0,.int .u8 0,.int .u8 0,.int .u8 0,.int .u8 0,.int .u8 0,.int .u8 0,.int .u8 0,.int .u8 0,.int .u8 0,.int .u8 0,.int .u8 0,.int .u8 0,.int .u8 0,.int .u8 0,.int .u8 0,.int .u8 0,.int .u8 0,.int .u8 0,.int .u8 0,.int .u8 0,.int .u8 0,.int .u8 0,.int .u8 0,.int .u8 0,.int .u8 0,.int .u8 0,.int .u8 0,.int .u8 0,.int .u8 0,.int .u8 0,.int .u8 0,.int .u8 0,.int .u8 0,.int .u8 0,.int .u8 0,.int .u8 0,.int .u8 0,.int .u8 0,.int .u8 0,.int .u8 0,.int .u8 0,.int .u8 0,.int .u8 0,.int .u8 0,.int .u8 0,.int .u8 0,.int .u8 0,.int .u8 0,.int .u8 0,.int .u8 0,.int .u8 0,.int .u8 0,.int .u8 0,.int .u8 0,.int .u8 0,.int .u8 0,.int .u8 0,.int .u8 0,.int .u8 0,.int .u8 0,.int .u8 0,.int .u8 0,.int .u8 0,.int .u8 0,.int .u8 0,.int .u8 0,.int .u8 0,.int .u8 0,.int .u8 0,.int .u8 0,.int .u8 0,.int .u8 0,.int .u8 0,.int .u8 0,.int .u8 0,.int .u8 0,.int .u8 0,.int .u8 0,.int .u8 0,.int .u8 0,.int .u8 0,.int .u8 0,.int .u8 0,.int .u8 0,.int .u8 0,.int .u8 0,.int .u8 0,.int .u8 0,.int .u8 0,.int .u8 0,.int .u8 0,.int .u8 0,.int .u8 0,.int .u8 0,.int .u8 0,.int .u8 0,.int .u8 0,.int .u8 0,.int .u8 0,.int .u8 0,.int .u8 0,.int .u8 0,.int .u8 0,.int .u8 0,.int .u8 0,.int .u8 0,.int .u8 0,.int .u8 0,.int .u8 0,.int .u8 0,.int .u8 0,.int .u8 0,.int .u8 0,.int .u8 0,.int .u8 0,.int .u8 0,.int .u8 0,.int .u8 0,.int .u8 0,.int .u8 0,.int .u8 0,.int .u8 0,.int .u8 0,.int .u8 0,.int .u8 0,.int .u8 0,.int .u8 0,.int .u8 0,.int .u8 0,.int .u8 0,.int .u8 0,.int .u8 0,.int .u8 0,.int .u8 0,.int .u8 0,.int .u8 0,.int .u8 0,.int .u8 0,.int .u8 0,.int .u8 0,.int .u8 0,.int .u8 0,.int .u8 0,.int .u8 0,.int .u8 0,.int .u8 0]),false⟩) ::
 (156,⟨.struct #[⟨ "lo",5,0,false,"",(aDh [117,110,105,99,111,100,101,47,117,116,102,56]),0⟩,⟨ "hi",5,1,false,"",(aDh [117,110,105,99,111,100,101,47,117,116,102,56]),1⟩],2,2,some (.agg #[.int .u8 0,.int .u8 0]),true⟩) ::
 (157,⟨.struct #[⟨ "lo",5,0,false,"",(aDh [117,110,105,99,111,100,101,47,117,116,102,56]),0⟩,⟨ "hi",5,1,false,"",(aDh [117,110,105,99,111,100,101,47,117,116,102,56]),1⟩],2,2,some (.agg #[.int .u8 0,.int .u8 0]),true⟩) ::
 (158,⟨.array 16 157,32,32,some (.agg #[.int .u8 0,.int .u8 0,.int .u8 0,.int .u8 0,.int .u8 0,.int .u8 0,.int .u8 0,.int .u8 0,.int .u8 0,.int .u8 0,.int .u8 0,.int .u8 0,.int .u8 0,.int .u8 0,.int .u8 0,.int .u8 0,.int .u8 0,.int .u8 0,.int .u8 0,.int .u8 0,.int .u8 0,.int .u8 0,.int .u8 0,.int .u8 0,.int .u8 0,.int .u8 0,.int .u8 0,.int .u8 0,.int .u8 0,.int .u8 0,.int .u8 0,.int .u8 0]),false⟩) ::
 (159,⟨.func #[3,3,9] #[4] false,1,8,some (.nilFunc),false⟩) ::
 (160,⟨.func #[3,9] #[] false,1,8,some (.nilFunc),false⟩) ::
 (161,⟨.func #[] #[24] false,1,8,some (.nilFunc),false⟩) ::
 (162,⟨.int .u32,1,4,some (.int .u32 0),false⟩) ::
 (163,⟨.tuple #[162,162],1,0,some (.tuple #[.int .u32 0,.int .u32 0]),false⟩) ::
 (164,⟨.func #[9] #[162,162] false,1,8,some (.nilFunc),false⟩) ::
 (165,⟨.tuple #[40,4],1,0,some (.tuple #[.agg #[.int .i64 0,.string ⟨#[]⟩,.int .i64 0,.int .i64 0,.string ⟨#[]⟩,.int .i64 0],.bool false]),false⟩) ::
 (166,⟨.func #[3] #[40,4] false,1,8,some (.nilFunc),false⟩) ::
 (167,⟨.func #[9] #[26] false,1,8,some (.nilFunc),false⟩) ::
 (170,⟨.array 0 16,0,0,some (.agg #[]),false⟩) ::
 (173,⟨.func #[] #[3] false,1,8,some (.nilFunc),false⟩) ::
 (174,⟨.int .u8,1,1,some (.int .u8 0),false⟩) ::
 (175,⟨.int .u8,1,1,some (.int .u8 0),false⟩) ::
 (176,⟨.func #[148,148] #[4] false,1,8,some (.nilFunc),false⟩) ::
 (177,⟨.int .i32,1,4,some (.int .i32 0),false⟩) ::
 (178,⟨.int .i32,1,4,some (.int .i32 0),false⟩)::[],[],false,[],[],[],[]⟩
theorem tok:TOK Tryz.prog tt:=by
 unfold tt;refine⟨?_,trivial⟩;show TOKl _ _;refine⟨aAb (by kernel_rfl) (by kernel_rfl) (fun h=>by cases h),?_⟩;refine⟨aAb (by kernel_rfl) (by kernel_rfl) (fun h=>by cases h),?_⟩;refine⟨aAb (by kernel_rfl) (by kernel_rfl) (fun h=>by cases h),?_⟩;refine⟨aAb (by kernel_rfl) (by kernel_rfl) (fun h=>by cases h),?_⟩;refine⟨aAb (by kernel_rfl) (by kernel_rfl) (fun h=>by cases h),?_⟩;refine⟨aAb (by kernel_rfl) (by kernel_rfl) (fun h=>by cases h),?_⟩;refine⟨aAb (by kernel_rfl) (by kernel_rfl) (fun h=>by cases h),?_⟩;refine⟨aAb (by kernel_rfl) (by kernel_rfl) (fun h=>by cases h),?_⟩;refine⟨aAb (by kernel_rfl) (by kernel_rfl) (fun h=>by cases h),?_⟩;refine⟨aAb (by kernel_rfl) (by kernel_rfl) (fun h=>by cases h),?_⟩;refine⟨aAb (by kernel_rfl) (by kernel_rfl) (fun h=>by cases h),?_⟩;refine⟨aAb (by kernel_rfl) (by kernel_rfl) (fun h=>by cases h),?_⟩;refine⟨aAb (by kernel_rfl) (by kernel_rfl) (fun h=>by cases h),?_⟩;refine⟨aAb (by kernel_rfl) (by kernel_rfl) (fun h=>by cases h),?_⟩;refine⟨aAb (by kernel_rfl) (by kernel_rfl) (fun h=>by cases h),?_⟩;refine⟨aAb (by kernel_rfl) (by kernel_rfl) (fun h=>by cases h),?_⟩;refine⟨aAb (by kernel_rfl) (by kernel_rfl) (fun h=>by cases h),?_⟩;refine⟨aAb (by kernel_rfl) (by kernel_rfl) (fun h=>by cases h),?_⟩;refine⟨aAb (by kernel_rfl) (by kernel_rfl) (fun _=>⟨by kernel_rfl,by kernel_rfl⟩),?_⟩;refine⟨aAb (by kernel_rfl) (by kernel_rfl) (fun _=>⟨by kernel_rfl,by kernel_rfl⟩),?_⟩;refine⟨aAb (by kernel_rfl) (by kernel_rfl) (fun h=>by cases h),?_⟩;refine⟨aAb (by kernel_rfl) (by kernel_rfl) (fun h=>by cases h),?_⟩;refine⟨aAb (by kernel_rfl) (by kernel_rfl) (fun h=>by cases h),?_⟩;refine⟨aAb (by kernel_rfl) (by kernel_rfl) (fun h=>by cases h),?_⟩;refine⟨aAb (by kernel_rfl) (by kernel_rfl) (fun h=>by cases h),?_⟩;refine⟨aAb (by kernel_rfl) (by kernel_rfl) (fun h=>by cases h),?_⟩;refine⟨aAb (by kernel_rfl) (by kernel_rfl) (fun h=>by cases h),?_⟩;refine⟨aAb (by kernel_rfl) (by kernel_rfl) (fun h=>by cases h),?_⟩;refine⟨aAb (by kernel_rfl) (by kernel_rfl) (fun h=>by cases h),?_⟩;refine⟨aAb (by kernel_rfl) (by kernel_rfl) (fun h=>by cases h),?_⟩;refine⟨aAb (by kernel_rfl) (by kernel_rfl) (fun h=>by cases h),?_⟩;refine⟨aAb (by kernel_rfl) (by kernel_rfl) (fun h=>by cases h),?_⟩;refine⟨aAb (by kernel_rfl) (by kernel_rfl) (fun h=>by cases h),?_⟩;refine⟨aAb (by kernel_rfl) (by kernel_rfl) (fun h=>by cases h),?_⟩;refine⟨aAb (by kernel_rfl) (by kernel_rfl) (fun h=>by cases h),?_⟩;refine⟨aAb (by kernel_rfl) (by kernel_rfl) (fun h=>by cases h),?_⟩;refine⟨aAb (by kernel_rfl) (by kernel_rfl) (fun h=>by cases h),?_⟩;refine⟨aAb (by kernel_rfl) (by kernel_rfl) (fun h=>by cases h),?_⟩;refine⟨aAb (by kernel_rfl) (by kernel_rfl) (fun h=>by cases h),?_⟩;refine⟨aAb (by kernel_rfl) (by kernel_rfl) (fun h=>by cases h),?_⟩;refine⟨aAb (by kernel_rfl) (by kernel_rfl) (fun h=>by cases h),?_⟩;refine⟨aAb (by kernel_rfl) (by kernel_rfl) (fun h=>by cases h),?_⟩;refine⟨aAb (by kernel_rfl) (by kernel_rfl) (fun h=>by cases h),?_⟩;refine⟨aAb (by kernel_rfl) (by kernel_rfl) (fun h=>by cases h),?_⟩;refine⟨aAb (by kernel_rfl) (by kernel_rfl) (fun h=>by cases h),?_⟩;refine⟨aAb (by kernel_rfl) (by kernel_rfl) (fun h=>by cases h),?_⟩;refine⟨aAb (by kernel_rfl) (by kernel_rfl) (fun h=>by cases h),?_⟩;refine⟨aAb (by kernel_rfl) (by kernel_rfl) (fun h=>by cases h),?_⟩;refine⟨aAb (by kernel_rfl) (by kernel_rfl) (fun h=>by cases h),?_⟩;refine⟨aAb (by kernel_rfl) (by kernel_rfl) (fun h=>by cases h),?_⟩;refine⟨aAb (by kernel_rfl) (by kernel_rfl) (fun h=>by cases h),?_⟩;refine⟨aAb (by kernel_rfl) (by kernel_rfl) (fun h=>by cases h),?_⟩;refine⟨aAb (by kernel_rfl) (by kernel_rfl) (fun h=>by cases h),?_⟩;refine⟨aAb (by kernel_rfl) (by kernel_rfl) (fun h=>by cases h),?_⟩;refine⟨aAb (by kernel_rfl) (by kernel_rfl) (fun h=>by cases h),?_⟩;refine⟨aAb (by kernel_rfl) (by kernel_rfl) (fun h=>by cases h),?_⟩;refine⟨aAb (by kernel_rfl) (by kernel_rfl) (fun h=>by cases h),?_⟩;refine⟨aAb (by kernel_rfl) (by kernel_rfl) (fun h=>by cases h),?_⟩;refine⟨aAb (by kernel_rfl) (by kernel_rfl) (fun h=>by cases h),?_⟩;refine⟨aAb (by kernel_rfl) (by kernel_rfl) (fun h=>by cases h),?_⟩;refine⟨aAb (by kernel_rfl) (by kernel_rfl) (fun h=>by cases h),?_⟩;refine⟨aAb (by kernel_rfl) (by kernel_rfl) (fun h=>by cases h),?_⟩;refine⟨aAb (by kernel_rfl) (by kernel_rfl) (fun h=>by cases h),?_⟩;refine⟨aAb (by kernel_rfl) (by kernel_rfl) (fun h=>by cases h),?_⟩;refine⟨aAb (by kernel_rfl) (by kernel_rfl) (fun h=>by cases h),?_⟩;refine⟨aAb (by kernel_rfl) (by kernel_rfl) (fun h=>by cases h),?_⟩;refine⟨aAb (by kernel_rfl) (by kernel_rfl) (fun _=>⟨by kernel_rfl,by kernel_rfl⟩),?_⟩;refine⟨aAb (by kernel_rfl) (by kernel_rfl) (fun _=>⟨by kernel_rfl,by kernel_rfl⟩),?_⟩;refine⟨aAb (by kernel_rfl) (by kernel_rfl) (fun h=>by cases h),?_⟩;refine⟨aAb (by kernel_rfl) (by kernel_rfl) (fun h=>by cases h),?_⟩;refine⟨aAb (by kernel_rfl) (by kernel_rfl) (fun h=>by cases h),?_⟩;refine⟨aAb (by kernel_rfl) (by kernel_rfl) (fun h=>by cases h),?_⟩;refine⟨aAb (by kernel_rfl) (by kernel_rfl) (fun h=>by cases h),?_⟩;refine⟨aAb (by kernel_rfl) (by kernel_rfl) (fun h=>by cases h),?_⟩;refine⟨aAb (by kernel_rfl) (by kernel_rfl) (fun h=>by cases h),?_⟩;refine⟨aAb (by kernel_rfl) (by kernel_rfl) (fun h=>by cases h),?_⟩;refine⟨aAb (by kernel_rfl) (by kernel_rfl) (fun h=>by cases h),?_⟩;refine⟨aAb (by kernel_rfl) (by kernel_rfl) (fun h=>by cases h),?_⟩;refine⟨aAb (by kernel_rfl) (by kernel_rfl) (fun h=>by cases h),?_⟩;refine⟨aAb (by kernel_rfl) (by kernel_rfl) (fun h=>by cases h),?_⟩;refine⟨aAb (by kernel_rfl) (by kernel_rfl) (fun h=>by cases h),?_⟩;refine⟨aAb (by kernel_rfl) (by kernel_rfl) (fun h=>by cases h),?_⟩;refine⟨aAb (by kernel_rfl) (by kernel_rfl) (fun h=>by cases h),?_⟩;refine⟨aAb (by kernel_rfl) (by kernel_rfl) (fun h=>by cases h),?_⟩;refine⟨aAb (by kernel_rfl) (by kernel_rfl) (fun h=>by cases h),?_⟩;refine⟨aAb (by kernel_rfl) (by kernel_rfl) (fun h=>by cases h),?_⟩;refine⟨aAb (by kernel_rfl) (by kernel_rfl) (fun h=>by cases h),?_⟩;refine⟨aAb (by kernel_rfl) (by kernel_rfl) (fun h=>by cases h),?_⟩;refine⟨aAb (by kernel_rfl) (by kernel_rfl) (fun h=>by cases h),?_⟩;refine⟨aAb (by kernel_rfl) (by kernel_rfl) (fun h=>by cases h),?_⟩;refine⟨aAb (by kernel_rfl) (by kernel_rfl) (fun h=>by cases h),?_⟩;refine⟨aAb (by kernel_rfl) (by kernel_rfl) (fun h=>by cases h),?_⟩;refine⟨aAb (by kernel_rfl) (by kernel_rfl) (fun h=>by cases h),?_⟩;refine⟨aAb (by kernel_rfl) (by kernel_rfl) (fun h=>by cases h),?_⟩;refine⟨aAb (by kernel_rfl) (by kernel_rfl) (fun h=>by cases h),?_⟩;refine⟨aAb (by kernel_rfl) (by kernel_rfl) (fun h=>by cases h),?_⟩;refine⟨aAb (by kernel_rfl) (by kernel_rfl) (fun h=>by cases h),?_⟩;refine⟨aAb (by kernel_rfl) (by kernel_rfl) (fun h=>by cases h),?_⟩;refine⟨aAb (by kernel_rfl) (by kernel_rfl) (fun h=>by cases h),?_⟩;refine⟨aAb (by kernel_rfl) (by kernel_rfl) (fun h=>by cases h),?_⟩;refine⟨aAb (by kernel_rfl) (by kernel_rfl) (fun h=>by cases h),?_⟩;refine⟨aAb (by kernel_rfl) (by kernel_rfl) (fun h=>by cases h),?_⟩;refine⟨aAb (by kernel_rfl) (by kernel_rfl) (fun h=>by cases h),?_⟩;refine⟨aAb (by kernel_rfl) (by kernel_rfl) (fun h=>by cases h),?_⟩;refine⟨aAb (by kernel_rfl) (by kernel_rfl) (fun h=>by cases h),?_⟩;refine⟨aAb (by kernel_rfl) (by kernel_rfl) (fun h=>by cases h),?_⟩;refine⟨aAb (by kernel_rfl) (by kernel_rfl) (fun h=>by cases h),?_⟩;refine⟨aAb (by kernel_rfl) (by kernel_rfl) (fun h=>by cases h),?_⟩;refine⟨aAb (by kernel_rfl) (by kernel_rfl) (fun h=>by cases h),?_⟩;refine⟨aAb (by kernel_rfl) (by kernel_rfl) (fun h=>by cases h),?_⟩;refine⟨aAb (by kernel_rfl) (by kernel_rfl) (fun h=>by cases h),?_⟩;refine⟨aAb (by kernel_rfl) (by kernel_rfl) (fun h=>by cases h),?_⟩;refine⟨aAb (by kernel_rfl) (by kernel_rfl) (fun h=>by cases h),?_⟩;refine⟨aAb (by kernel_rfl) (by kernel_rfl) (fun h=>by cases h),?_⟩;refine⟨aAb (by kernel_rfl) (by kernel_rfl) (fun h=>by cases h),?_⟩;refine⟨aAb (by kernel_rfl) (by kernel_rfl) (fun h=>by cases h),?_⟩;refine⟨aAb (by kernel_rfl) (by kernel_rfl) (fun h=>by cases h),?_⟩;refine⟨aAb (by kernel_rfl) (by kernel_rfl) (fun h=>by cases h),?_⟩;refine⟨aAb (by kernel_rfl) (by kernel_rfl) (fun h=>by cases h),?_⟩;refine⟨aAb (by kernel_rfl) (by kernel_rfl) (fun h=>by cases h),?_⟩;refine⟨aAb (by kernel_rfl) (by kernel_rfl) (fun h=>by cases h),?_⟩;refine⟨aAb (by kernel_rfl) (by kernel_rfl) (fun h=>by cases h),?_⟩;refine⟨aAb (by kernel_rfl) (by kernel_rfl) (fun h=>by cases h),?_⟩;refine⟨aAb (by kernel_rfl) (by kernel_rfl) (fun h=>by cases h),?_⟩;refine⟨aAb (by kernel_rfl) (by kernel_rfl) (fun h=>by cases h),?_⟩;refine⟨aAb (by kernel_rfl) (by kernel_rfl) (fun h=>by cases h),?_⟩;refine⟨aAb (by kernel_rfl) (by kernel_rfl) (fun h=>by cases h),?_⟩;refine⟨aAb (by kernel_rfl) (by kernel_rfl) (fun h=>by cases h),?_⟩;refine⟨aAb (by kernel_rfl) (by kernel_rfl) (fun h=>by cases h),?_⟩;refine⟨aAb (by kernel_rfl) (by kernel_rfl) (fun h=>by cases h),?_⟩;refine⟨aAb (by kernel_rfl) (by kernel_rfl) (fun h=>by cases h),?_⟩;refine⟨aAb (by kernel_rfl) (by kernel_rfl) (fun h=>by cases h),?_⟩;refine⟨aAb (by kernel_rfl) (by kernel_rfl) (fun h=>by cases h),?_⟩;refine⟨aAb (by kernel_rfl) (by kernel_rfl) (fun h=>by cases h),?_⟩;refine⟨aAb (by kernel_rfl) (by kernel_rfl) (fun h=>by cases h),?_⟩;refine⟨aAb (by kernel_rfl) (by kernel_rfl) (fun h=>by cases h),?_⟩;refine⟨aAb (by kernel_rfl) (by kernel_rfl) (fun h=>by cases h),?_⟩;refine⟨aAb (by kernel_rfl) (by kernel_rfl) (fun h=>by cases h),?_⟩;refine⟨aAb (by kernel_rfl) (by kernel_rfl) (fun h=>by cases h),?_⟩;refine⟨aAb (by kernel_rfl) (by kernel_rfl) (fun h=>by cases h),?_⟩;refine⟨aAb (by kernel_rfl) (by kernel_rfl) (fun h=>by cases h),?_⟩;refine⟨aAb (by kernel_rfl) (by kernel_rfl) (fun h=>by cases h),?_⟩;refine⟨aAb (by kernel_rfl) (by kernel_rfl) (fun h=>by cases h),?_⟩;refine⟨aAb (by kernel_rfl) (by kernel_rfl) (fun h=>by cases h),?_⟩;refine⟨aAb (by kernel_rfl) (by kernel_rfl) (fun h=>by cases h),?_⟩;refine⟨aAb (by kernel_rfl) (by kernel_rfl) (fun h=>by cases h),?_⟩;refine⟨aAb (by kernel_rfl) (by kernel_rfl) (fun h=>by cases h),?_⟩;refine⟨aAb (by kernel_rfl) (by kernel_rfl) (fun h=>by cases h),?_⟩;refine⟨aAb (by kernel_rfl) (by kernel_rfl) (fun h=>by cases h),?_⟩;refine⟨aAb (by kernel_rfl) (by kernel_rfl) (fun h=>by cases h),?_⟩;refine⟨aAb (by kernel_rfl) (by kernel_rfl) (fun h=>by cases h),?_⟩;refine⟨aAb (by kernel_rfl) (by kernel_rfl) (fun h=>by cases h),?_⟩;refine⟨aAb (by kernel_rfl) (by kernel_rfl) (fun _=>⟨by kernel_rfl,by kernel_rfl⟩),?_⟩;refine⟨aAb (by kernel_rfl) (by kernel_rfl) (fun _=>⟨by kernel_rfl,by kernel_rfl⟩),?_⟩;refine⟨aAb (by kernel_rfl) (by kernel_rfl) (fun h=>by cases h),?_⟩;refine⟨aAb (by kernel_rfl) (by kernel_rfl) (fun h=>by cases h),?_⟩;refine⟨aAb (by kernel_rfl) (by kernel_rfl) (fun h=>by cases h),?_⟩;refine⟨aAb (by kernel_rfl) (by kernel_rfl) (fun h=>by cases h),?_⟩;refine⟨aAb (by kernel_rfl) (by kernel_rfl) (fun h=>by cases h),?_⟩;refine⟨aAb (by kernel_rfl) (by kernel_rfl) (fun h=>by cases h),?_⟩;refine⟨aAb (by kernel_rfl) (by kernel_rfl) (fun h=>by cases h),?_⟩;refine⟨aAb (by kernel_rfl) (by kernel_rfl) (fun h=>by cases h),?_⟩;refine⟨aAb (by kernel_rfl) (by kernel_rfl) (fun h=>by cases h),?_⟩;refine⟨aAb (by kernel_rfl) (by kernel_rfl) (fun h=>by cases h),?_⟩;refine⟨aAb (by kernel_rfl) (by kernel_rfl) (fun h=>by cases h),?_⟩;refine⟨aAb (by kernel_rfl) (by kernel_rfl) (fun h=>by cases h),?_⟩;refine⟨aAb (by kernel_rfl) (by kernel_rfl) (fun h=>by cases h),?_⟩;refine⟨aAb (by kernel_rfl) (by kernel_rfl) (fun h=>by cases h),?_⟩;refine⟨aAb (by kernel_rfl) (by kernel_rfl) (fun h=>by cases h),?_⟩;refine⟨aAb (by kernel_rfl) (by kernel_rfl) (fun h=>by cases h),?_⟩;refine⟨aAb (by kernel_rfl) (by kernel_rfl) (fun h=>by cases h),?_⟩;trivial
end
end Go.Proofs.YtcdeimjlgpfjiaaGreatDoor
namespace Go.Proofs.YtcdeimjlgpfjiaaGreatDoor.Q
open Go.RowKit
instance:Coe Int CV:=⟨fun z=>.v (.int .i64 z)⟩
instance:Coe Bool CV:=⟨fun z=>.v (.bool z)⟩
instance:Coe ByteArray CV:=⟨fun z=>.v (.string z)⟩
instance:Coe (List (List CV)) CV:=⟨fun z=>.vs z⟩
instance:Coe Int DV:=⟨fun z=>.c (.v (.int .i64 z))⟩
instance:Coe Bool DV:=⟨fun z=>.c (.v (.bool z))⟩
instance:Coe ByteArray DV:=⟨fun z=>.c (.v (.string z))⟩
instance:Coe (List (List CV)) DV:=⟨fun z=>.c (.vs z)⟩
structure Tix (a:Int) (n:Int) where
 m ::
def ix (a:Int) (n:Int):Tix a n:=.m
instance (a:Int) (n:Int) (u:Tix a n):CoeDep (Tix a n) u Prop:=⟨0≤a∧a<n⟩
instance (a:Int) (n:Int):CoeSort (Tix a n) Prop:=⟨fun _=>0≤a∧a<n⟩
structure Tcu (a:Int) (b:Int) (n:Int) where
 m ::
def cu (a:Int) (b:Int) (n:Int):Tcu a b n:=.m
instance (a:Int) (b:Int) (n:Int) (u:Tcu a b n):CoeDep (Tcu a b n) u Prop:=⟨0≤a∧a≤b∧b≤n⟩
instance (a:Int) (b:Int) (n:Int):CoeSort (Tcu a b n) Prop:=⟨fun _=>0≤a∧a≤b∧b≤n⟩
structure Tsz (c:List (List CV)) (n:Nat) where
 m ::
def sz (c:List (List CV)) (n:Nat):Tsz c n:=.m
instance (c:List (List CV)) (n:Nat) (u:Tsz c n):CoeDep (Tsz c n) u Prop:=⟨∀ el∈c,el.length=n⟩
instance (c:List (List CV)) (n:Nat):CoeSort (Tsz c n) Prop:=⟨fun _=>∀ el∈c,el.length=n⟩
structure Tfi (m:Int) (b:Nat) where
 m ::
def fi (m:Int) (b:Nat):Tfi m b:=.m
instance (m:Int) (b:Nat) (u:Tfi m b):CoeDep (Tfi m b) u Prop:=⟨0≤m∧m*b≤140737488355328∧m≤9223372036854775807⟩
instance (m:Int) (b:Nat):CoeSort (Tfi m b) Prop:=⟨fun _=>0≤m∧m*b≤140737488355328∧m≤9223372036854775807⟩
structure Tss (a:ByteArray) (b:ByteArray) where
 m ::
def ss (a:ByteArray) (b:ByteArray):Tss a b:=.m
instance (a:ByteArray) (b:ByteArray) (u:Tss a b):CoeDep (Tss a b) u Prop:=⟨((a.size+b.size:Nat):Int)≤9223372036854775807⟩
instance (a:ByteArray) (b:ByteArray):CoeSort (Tss a b) Prop:=⟨fun _=>((a.size+b.size:Nat):Int)≤9223372036854775807⟩
structure Tbc (c:List (List CV)) where
 m ::
def bc (c:List (List CV)):Tbc c:=.m
instance (c:List (List CV)) (u:Tbc c):CoeDep (Tbc c) u Prop:=⟨∀ el∈c,∃ z:Int,el=[.v (.int .u8 z)]⟩
instance (c:List (List CV)):CoeSort (Tbc c) Prop:=⟨fun _=>∀ el∈c,∃ z:Int,el=[.v (.int .u8 z)]⟩
structure Tkd (c:List (List CV)) (i:Int) (f:Nat) (ks:List Nat) (n:Nat) where
 m ::
def kd (c:List (List CV)) (i:Int) (f:Nat) (ks:List Nat) (n:Nat):Tkd c i f ks n:=.m
instance (c:List (List CV)) (i:Int) (f:Nat) (ks:List Nat) (n:Nat) (u:Tkd c i f ks n):CoeDep (Tkd c i f ks n) u Prop:=⟨ks=(((c.getD i.toNat []).drop f).take n).map aBA⟩
instance (c:List (List CV)) (i:Int) (f:Nat) (ks:List Nat) (n:Nat):CoeSort (Tkd c i f ks n) Prop:=⟨fun _=>ks=(((c.getD i.toNat []).drop f).take n).map aBA⟩
structure Tkn (c:List (List CV)) (i:Int) (f:Nat) (k:Nat) where
 m ::
def kn (c:List (List CV)) (i:Int) (f:Nat) (k:Nat):Tkn c i f k:=.m
instance (c:List (List CV)) (i:Int) (f:Nat) (k:Nat) (u:Tkn c i f k):CoeDep (Tkn c i f k) u Prop:=⟨[k]=(((c.getD i.toNat []).drop f).take 1).map aBA⟩
instance (c:List (List CV)) (i:Int) (f:Nat) (k:Nat):CoeSort (Tkn c i f k) Prop:=⟨fun _=>[k]=(((c.getD i.toNat []).drop f).take 1).map aBA⟩
structure TkX (c:List (List CV)) (i:Int) where
 m ::
def kX (c:List (List CV)) (i:Int):TkX c i:=.m
instance (c:List (List CV)) (i:Int) (u:TkX c i):CoeDep (TkX c i) u Prop:=⟨[4,10,4,4,10,10,10,4,9,9,11]=(((c.getD i.toNat []).drop 0).take 11).map aBA⟩
instance (c:List (List CV)) (i:Int):CoeSort (TkX c i) Prop:=⟨fun _=>[4,10,4,4,10,10,10,4,9,9,11]=(((c.getD i.toNat []).drop 0).take 11).map aBA⟩
structure TkV (c:List (List CV)) (i:Int) where
 m ::
def kV (c:List (List CV)) (i:Int):TkV c i:=.m
instance (c:List (List CV)) (i:Int) (u:TkV c i):CoeDep (TkV c i) u Prop:=⟨[4,4,10]=(((c.getD i.toNat []).drop 0).take 3).map aBA⟩
instance (c:List (List CV)) (i:Int):CoeSort (TkV c i) Prop:=⟨fun _=>[4,4,10]=(((c.getD i.toNat []).drop 0).take 3).map aBA⟩
structure Teq (a:List (List CV)) (b:List (List CV)) where
 m ::
def eq (a:List (List CV)) (b:List (List CV)):Teq a b:=.m
instance (a:List (List CV)) (b:List (List CV)) (u:Teq a b):CoeDep (Teq a b) u Prop:=⟨a=b⟩
instance (a:List (List CV)) (b:List (List CV)):CoeSort (Teq a b) Prop:=⟨fun _=>a=b⟩
structure Tbr (p:Prop) (a:Prop) (b:Prop) where
 m ::
def br (p:Prop) (a:Prop) (b:Prop):Tbr p a b:=.m
instance (p:Prop) (a:Prop) (b:Prop) (u:Tbr p a b):CoeDep (Tbr p a b) u Prop:=⟨(p→a)∧(¬ p→b)⟩
instance (p:Prop) (a:Prop) (b:Prop):CoeSort (Tbr p a b) Prop:=⟨fun _=>(p→a)∧(¬ p→b)⟩
structure Trt (a:DV) (b:DV) where
 m ::
def rt (a:DV) (b:DV):Trt a b:=.m
instance (a:DV) (b:DV) (u:Trt a b):CoeDep (Trt a b) u Prop:=⟨a=b⟩
instance (a:DV) (b:DV):CoeSort (Trt a b) Prop:=⟨fun _=>a=b⟩
structure Tag (k:Nat) (I:Nat→Prop) where
 m ::
def ag (k:Nat) (I:Nat→Prop):Tag k I:=.m
instance (k:Nat) (I:Nat→Prop) (u:Tag k I):CoeDep (Tag k I) u Prop:=⟨∃ k',k'<k∧I k'⟩
instance (k:Nat) (I:Nat→Prop):CoeSort (Tag k I) Prop:=⟨fun _=>∃ k',k'<k∧I k'⟩
structure Tca (f:FuncId) (l:List DV) (r:DV) where
 m ::
def ca (f:FuncId) (l:List DV) (r:DV):Tca f l r:=.m
instance (f:FuncId) (l:List DV) (r:DV) (u:Tca f l r):CoeDep (Tca f l r) u Prop:=⟨FnC Tryz.prog f l r⟩
instance (f:FuncId) (l:List DV) (r:DV):CoeSort (Tca f l r) Prop:=⟨fun _=>FnC Tryz.prog f l r⟩
structure TX (c:List (List CV)) (i:Int) where
 m ::
def X (c:List (List CV)) (i:Int):TX c i:=.m
instance (c:List (List CV)) (i:Int) (u:TX c i):CoeDep (TX c i) u (List CV):=⟨[.v (.int .i64 (aAa c i 0).int),.v (.string (aAa c i 1).str),.v (.int .i64 (aAa c i 2).int),.v (.int .i64 (aAa c i 3).int),.v (.string (aAa c i 4).str),.v (.string (aAa c i 5).str),.v (.string (aAa c i 6).str),.v (.int .i64 (aAa c i 7).int),.v (.bool (aAa c i 8).bool),.v (.bool (aAa c i 9).bool),.vs (aAa c i 10).els]⟩
structure TV (c:List (List CV)) (i:Int) where
 m ::
def V (c:List (List CV)) (i:Int):TV c i:=.m
instance (c:List (List CV)) (i:Int) (u:TV c i):CoeDep (TV c i) u (List CV):=⟨[.v (.int .i64 (aAa c i 0).int),.v (.int .i64 (aAa c i 1).int),.v (.string (aAa c i 2).str)]⟩
structure TA (c:List (List CV)) (i:Int) where
 m ::
def A (c:List (List CV)) (i:Int):TA c i:=.m
instance (c:List (List CV)) (i:Int) (u:TA c i):CoeDep (TA c i) u DV:=⟨.agg [.v (.int .i64 (aAa c i 0).int),.v (.string (aAa c i 1).str),.v (.int .i64 (aAa c i 2).int),.v (.int .i64 (aAa c i 3).int),.v (.string (aAa c i 4).str),.v (.string (aAa c i 5).str),.v (.string (aAa c i 6).str),.v (.int .i64 (aAa c i 7).int),.v (.bool (aAa c i 8).bool),.v (.bool (aAa c i 9).bool),.vs (aAa c i 10).els]⟩
structure TB (c:List (List CV)) (i:Int) where
 m ::
def B (c:List (List CV)) (i:Int):TB c i:=.m
instance (c:List (List CV)) (i:Int) (u:TB c i):CoeDep (TB c i) u DV:=⟨.agg [.v (.int .i64 (aAa c i 0).int),.v (.int .i64 (aAa c i 1).int),.v (.string (aAa c i 2).str)]⟩
structure Tci (c:List (List CV)) (i:Int) (f:Nat) where
 m ::
instance (c:List (List CV)) (i:Int) (f:Nat) (u:Tci c i f):CoeDep (Tci c i f) u CV:=⟨.v (.int .i64 (aAa c i f).int)⟩
instance (c:List (List CV)) (i:Int) (f:Nat) (u:Tci c i f):CoeDep (Tci c i f) u DV:=⟨.c (.v (.int .i64 (aAa c i f).int))⟩
structure Tcs (c:List (List CV)) (i:Int) (f:Nat) where
 m ::
def cs (c:List (List CV)) (i:Int) (f:Nat):Tcs c i f:=.m
instance (c:List (List CV)) (i:Int) (f:Nat) (u:Tcs c i f):CoeDep (Tcs c i f) u CV:=⟨.v (.string (aAa c i f).str)⟩
instance (c:List (List CV)) (i:Int) (f:Nat) (u:Tcs c i f):CoeDep (Tcs c i f) u DV:=⟨.c (.v (.string (aAa c i f).str))⟩
structure Tcb (c:List (List CV)) (i:Int) (f:Nat) where
 m ::
def cb (c:List (List CV)) (i:Int) (f:Nat):Tcb c i f:=.m
instance (c:List (List CV)) (i:Int) (f:Nat) (u:Tcb c i f):CoeDep (Tcb c i f) u CV:=⟨.v (.bool (aAa c i f).bool)⟩
instance (c:List (List CV)) (i:Int) (f:Nat) (u:Tcb c i f):CoeDep (Tcb c i f) u DV:=⟨.c (.v (.bool (aAa c i f).bool))⟩
structure Tcl (c:List (List CV)) (i:Int) (f:Nat) where
 m ::
def cl (c:List (List CV)) (i:Int) (f:Nat):Tcl c i f:=.m
instance (c:List (List CV)) (i:Int) (f:Nat) (u:Tcl c i f):CoeDep (Tcl c i f) u CV:=⟨.vs (aAa c i f).els⟩
instance (c:List (List CV)) (i:Int) (f:Nat) (u:Tcl c i f):CoeDep (Tcl c i f) u DV:=⟨.c (.vs (aAa c i f).els)⟩
structure Tlit (z:Int) where
 m ::
def lit (z:Int):Tlit z:=.m
instance (z:Int) (u:Tlit z):CoeDep (Tlit z) u CV:=⟨.v (.int .i64 z)⟩
instance (z:Int) (u:Tlit z):CoeDep (Tlit z) u DV:=⟨.c (.v (.int .i64 z))⟩
structure Tb0 (z:Unit) where
 m ::
def b0 (z:Unit):Tb0 z:=.m
instance (z:Unit) (u:Tb0 z):CoeDep (Tb0 z) u CV:=⟨.v (.string ⟨#[]⟩)⟩
instance (z:Unit) (u:Tb0 z):CoeDep (Tb0 z) u DV:=⟨.c (.v (.string ⟨#[]⟩))⟩
end Go.Proofs.YtcdeimjlgpfjiaaGreatDoor.Q
