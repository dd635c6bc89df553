/-
  Contracts of the functions that the statement reaches, and the plain laws of what they reckon.
  Conditions: none.
-/
import Derived.Test.YtmifmncabejffaaGreatRows
import Derived.RecoverIn
import Derived.BigFrame
import Derived.Test.YtmifmncabejffaaGreatV1EvalFull
import Derived.Test.YtmifmncabejffaaGreatV2EvalFull
import Derived.Test.YtmifmncabejffaaGreatV3EvalFull
import Derived.Test.YtmifmncabejffaaGreatX1EvalFull
import Derived.Test.YtmifmncabejffaaGreatX2EvalFull
import Derived.Test.YtmifmncabejffaaGreatX3EvalFull
set_option linter.unusedVariables false
set_option linter.unusedSimpArgs false
set_option linter.unusedSectionVars false
set_option maxRecDepth 100000
namespace Go.Proofs.YtmifmncabejffaaGreat
open Go Go.Av
def zerD(me:ByteArray)(rules:List Rl)(k:Nat)(P:ES×Bool):ES×Bool:=(List.range k).foldl (fun P i=>if(rules.getD i rlZ).bo.length=0 then lkD me faZ [] i (rules.getD i rlZ) (-1) P else P) P
def newD(me:ByteArray)(names:List ByteArray)(lim:Int)(rules:List Rl):ES×Bool:=zerD me rules rules.length (Lj me names lim rules,false)
theorem Mz{me:ByteArray}{rules:List Rl}{k:Nat}{P:ES×Bool}:zerD me rules (k+1) P=if(rules.getD k rlZ).bo.length=0 then lkD me faZ [] k (rules.getD k rlZ) (-1) (zerD me rules k P)else zerD me rules k P:=by
 unfold zerD;rw[List.range_succ,List.foldl_append];rfl
theorem My(me:ByteArray)(rules:List Rl)(P:ES×Bool):∀k,SK P.1 (zerD me rules k P).1
 |0=>.refl _
 |k+1=>by
  rw[Mz];split
  ·exact(My me rules P k).trans (Gb _ _ _)
  ·exact My me rules P k
theorem Yp{me:ByteArray}{rules:List Rl}{P:ES×Bool}:∀k,(zerD me rules k P).2=false→P.2=false∧(zerD me rules k P).1=Rc me rules k P.1
 |0,h=>⟨h,rfl⟩
 |k+1,h=>by
  rw[Mz]at h⊢;rw[Hb];split at h
  ·rename_i h0
   rw[if_pos h0,if_pos h0];obtain⟨h1,h2,_⟩:=Akv h;obtain⟨k1,k2⟩:=Yp k h1;exact⟨k1,by rw[h2,k2]⟩
  ·rename_i h0
   rw[if_neg h0,if_neg h0];exact Yp k h
theorem Ajr:faZ.Sm:=by show([]:List Cn).length≤_;simp
theorem Yq{n:Nat}{me:ByteArray}{rules:List Rl}{P:ES×Bool}(h:SOk n P.1)(hr:∀r∈rules,r.S4):∀k,k≤rules.length→SOk (n+k*60004) (zerD me rules k P).1
 |0,_=>h.le (Nat.le_add_right _ _)
 |k+1,hk=>by
  have ih:=Yq (me:=me) (rules:=rules) h hr k (by omega);rw[Mz];split
  ·rename_i h0
   have e:rules.getD k rlZ=rules[k]:=Dk (by omega) _;rw[e]at h0⊢;have hr4:=hr _ (List.getElem_mem (show k<rules.length by omega));have h3:=docl (r:=rules[k]) (me:=me) (first:= -1) (f:=faZ) (l:=[]);exact(Qd k (m:=rules[k].bo.length) (by have:=hr4.1.1;omega) _ _ ih (W3 Ajr (fun y hy=>by cases hy))).le (by omega)
  ·exact ih.le (by omega)
section
variable{σ:St}
set_option maxHeartbeats 1600000 in
theorem App(me:ByteArray)(names:List ByteArray)(lim:Int)(rules:List Rl)(hn:names.length≤1000000)(hl:rules.length≤1000000)(hr:∀r∈rules,r.S4):
  AT Tryz.prog 29 [str me,.sl 1 (stC names),int lim,.sl 11 (rlC rules)] σ fun v σ'=>
   (v= .tup [.v (.pointer none),int 2]∧(me∉names∨K0 rules∨¬(1≤lim∧lim≤4096))∧∀y o,σ y=some o→σ' y=some o)∨
   (me∈names∧¬K0 rules∧1≤lim∧lim≤4096∧∃x a,v= .tup [ptr x,int 0]∧EV true σ' x a (newD me names lim rules).1 (newD me names lim rules).2∧∀y o,σ y=some o→σ' y=some o∧¬Bo x a y):=by
 refine AT.ob Tryz.func29 rfl ?_;have no:(me∉names∨K0 rules∨¬(1≤lim∧lim≤4096))→∀{fr:Fr} {σ':St},(∀y o,σ y=some o→σ' y=some o)→A9 Tryz.prog fr σ' (Tryz.f29).results.toList=some (.tup [.v (.pointer none),int 2])→Dw Tryz.prog (fun v σ'=>(v= .tup [.v (.pointer none),int 2]∧(me∉names∨K0 rules∨¬(1≤lim∧lim≤4096))∧∀y o,σ y=some o→σ' y=some o)∨(me∈names∧¬K0 rules∧1≤lim∧lim≤4096∧∃x a,v= .tup [ptr x,int 0]∧EV true σ' x a (newD me names lim rules).1 (newD me names lim rules).2∧∀y o,σ y=some o→σ' y=some o∧¬Bo x a y)) (Tryz.f29).results.toList fr σ':=fun h _ _ hs hr=>
  Ae hr (.inl ⟨rfl,h,hs⟩)
 simp only[go_sem];refine(Alq names me (by omega)).p ?_;by_cases hnm:me∈names
 case neg=>
  simp only[go_sem,decide_eq_false hnm,Bool.not_false];exact no (.inl hnm) (fun _ _ h=>h) rfl
 simp only[go_sem,decide_eq_true hnm,Bool.not_true,Ci];refine⟨fun m fr σ'=>∃i:Nat,m=rules.length-i∧i≤rules.length∧(∀k (hk:k<rules.length),k<i→∀y∈rules[k].bo,y.at'= .zero)∧σ'=σ∧fr 0=str me∧fr 1= .sl 1 (stC names)∧fr 2=int lim∧fr 3= .sl 11 (rlC rules)∧fr 10=int i,⟨_,0,rfl,by omega,fun k hk h=>by omega,rfl,rfl,rfl,rfl,rfl,rfl⟩,?_⟩;rintro m fr σ ⟨i,rfl,hi,hz,rfl,f0,f1,f2,f3,f10⟩;simp only[go_sem,f3,f10,Ci];refine aIf_by (fun hlt=>?_) (fun hlt=>?_)
 case' refine_1=>
  have hil:i<rules.length:=by omega
  obtain⟨r,hrr⟩:∃r,r=rules[i]:=⟨_,rfl⟩;have hr4:=hr _ (List.getElem_mem hil);rw[←hrr]at hr4;have rg:(rlC rules).getD i []=r.cs:=by rw[hrr];exact C4 hil
  have h1:=hr4.1.1;have lcl:=D7 r.bo;simp only[go_sem,Aa];refine⟨fun m fr σ'=>∃j:Nat,m=r.bo.length-j∧j≤r.bo.length∧(∀k (hk:k<r.bo.length),k<j→r.bo[k].at'= .zero)∧σ'=σ∧fr 0=str me∧fr 1= .sl 1 (stC names)∧fr 2=int lim∧fr 3= .sl 11 (rlC rules)∧fr 10=int i∧fr 11=int j,⟨_,0,rfl,by omega,fun k hk h=>by omega,rfl,f0,f1,f2,f3,f10,rfl⟩,?_⟩;clear f0 f1 f2 f3 f10;rintro m fr σ ⟨j,rfl,hj,hz2,rfl,f0,f1,f2,f3,f10,f11⟩;simp only[go_sem,f3,f10,f11,rg,Ci];refine⟨by omega,?_⟩;refine aIf_by (fun hlt=>?_) (fun hlt=>?_)
  ·have hjl:j<r.bo.length:=by omega
   simp only[go_sem,Aa,f3,f10,f11,rg,Ci,D6 hjl,lcl];refine⟨by omega,by omega,Al4 ?_⟩;by_cases hat:r.bo[j].at'= .zero
   ·simp only[go_sem,Aa,decide_eq_true hat,f11,As j (by omega)]
    refine⟨r.bo.length-(j+1),by omega,j+1,rfl,by omega,fun k hk hkj=>?_,f0,f1,f2,f3,f10,rfl⟩;by_cases e:k=j
    ·subst e;exact hat
    ·exact hz2 k hk (by omega)
   ·simp only[go_sem,Aa,decide_eq_false hat]
    refine no (.inr (.inl ⟨r,by rw[hrr];exact List.getElem_mem hil,_,List.getElem_mem hjl,hat⟩)) (fun _ _ h=>h) rfl
  ·simp only[go_sem,Aa,f10,As i (by omega)]
   refine⟨rules.length-(i+1),by omega,i+1,rfl,by omega,fun k hk hki=>?_,f0,f1,f2,f3,rfl⟩;by_cases e:k=i
   ·subst e
    intro y hy;rw[←hrr]at hy;obtain⟨q,hq,e⟩:=List.mem_iff_getElem.1 hy;rw[←e];exact hz2 q hq (by omega)
   ·exact hz k hk (by omega)
 have hgood:¬K0 rules:=fun⟨r,hm,y,hy,hne⟩=>by
  obtain⟨k,hk,e⟩:=List.mem_iff_getElem.1 hm;exact hne (hz k hk (by omega) y (by rw[e];exact hy))
 clear hz;simp only[go_sem,Aa,f2];refine(Alz lim).mono ?_;intro v σ2 htn;by_cases hlim:1≤lim∧lim≤4096
 case neg=>
  rw[if_neg hlim]at htn;obtain⟨rfl,rfl⟩:=htn;simp only[go_sem,Aa];exact no (.inr (.inr hlim)) (fun _ _ h=>h) rfl
 rw[if_pos hlim]at htn;obtain⟨t,ft,rfl,rfl⟩:=htn;obtain⟨σ2,e2⟩:∃s,s=σ.set t (tbC [] lim):=⟨_,rfl⟩;have ht2:σ2 t=some (tbC [] lim):=by rw[e2];exact Ab
 have hs2:∀y o,σ y=some o→σ2 y=some o:=by rw[e2];exact B7 ft fun _ _ h=>h
 rw[←e2];clear e2;simp only[go_sem,Aa,f0,f1,f3];refine Ay fun b fb _=>?_;simp only[go_sem,Aa];obtain⟨σ3,e3⟩:∃s,s=σ2.set b (.cells [.v (.slice none 0 0)]):=⟨_,rfl⟩;have hb3:σ3 b=some (.cells [A4]):=by rw[e3];exact Ab
 have hs3:∀y o,σ2 y=some o→σ3 y=some o:=by rw[e3];exact B7 fb fun _ _ h=>h
 rw[←e3];clear e3;refine Ay fun x hx _=>?_;obtain⟨raw,hraw⟩:∃r:List AV,r=[.v (.string me),.sl 1 (stC names),.sl 11 (rlC rules),.v (.pointer (some ⟨t,0,none⟩)),.v (.pointer (some ⟨b,0,none⟩)),.v (.slice none 0 0),.v (.slice none 0 0),.v (.slice none 0 0),.v (.bool false),.v (.bool false)]:=⟨_,rfl⟩;rw[←hraw];obtain⟨s0,hs0⟩:∃s0,s0=Lj me names lim rules:=⟨_,rfl⟩;obtain⟨a0,ha0⟩:∃a0:EA,a0=⟨t,b,.sl 4 (faC []),A4,A4⟩:=⟨_,rfl⟩;have O0:SOk 0 s0:=by rw[hs0];exact Lk hlim.1 hlim.2 hr hl hn
 have ht3:=hs3 _ _ ht2;have nxt:x≠t:=fun e=>by rw[e,ht3]at hx;cases hx
 have nxb:x≠b:=fun e=>by rw[e,hb3]at hx;cases hx
 have ntb:t≠b:=fun e=>by rw[←e,ht2]at fb;cases fb
 have at0:a0.t=t:=by rw[ha0]
 have ab0:a0.b=b:=by rw[ha0]
 have nq0:∀y,¬Own a0.gv y∧¬Jd a0.qv y∧¬Own a0.ov y:=fun y=>by rw[ha0];exact⟨Gy,T4,B4⟩
 have E4:EV true ((σ3.set b (rkC [])).set x (.cells (evC true s0 a0 false))) x a0 s0 false:=⟨Ab,by rw[at0,Ag nxt.symm,Ag ntb,ht3,hs0];rfl,by rw[ab0,Ag nxb.symm,Ab,hs0];rfl,by rw[if_pos rfl,ha0,hs0];rfl,by rw[ha0,hs0];exact .nil,by rw[ha0,hs0];exact .none,by rw[at0];exact nxt,by rw[ab0];exact nxb,by rw[at0,ab0];exact ntb,fun y ho=>absurd ho (nq0 y).1⟩;have F4:∀y o,σ y=some o→((σ3.set b (rkC [])).set x (.cells (evC true s0 a0 false))) y=some o∧¬Bo x a0 y:=fun y o hy=>by
  have y2:=hs2 _ _ hy;have y3:=hs3 _ _ y2;have nyx:y≠x:=fun e=>by rw[e,hx]at y3;cases y3
  have nyb:y≠b:=fun e=>by rw[e,fb]at y2;cases y2
  refine⟨by rw[Ag nyx,Ag nyb];exact y3,fun hf=>?_⟩;rcases hf with e|e|e|e|e|e
  ·exact nyx e
  ·rw[e,at0,ft]at hy;cases hy
  ·exact nyb (by rw[e,ab0])
  ·exact(nq0 y).1 e
  ·exact(nq0 y).2.1 e
  ·exact(nq0 y).2.2 e
 have V4:SV (σ3.set x (.cells raw)) ((σ3.set b (rkC [])).set x (.cells (evC true s0 a0 false))):=Es fun y o hy=>by
  by_cases e1:y=x
  ·rw[e1,Ab]at hy
   injection hy with hy;subst hy;refine .inr ⟨.cells raw,by rw[e1,Ab],?_⟩;rw[hraw,ha0,hs0];exact vws_same (vws_same (vws_same (vws_same (vws_same (vws_cons (.nil 4) (Bu _))))))
  ·by_cases e2:y=b
   ·rw[Ag e1,e2,Ab]at hy
    injection hy with hy;subst hy;exact .inr ⟨.cells [A4],by rw[Ag e1,e2];exact hb3,vws_cons (.nil 6) By⟩
   ·rw[Ag e1,Ag e2]at hy
    exact .inl (by rw[Ag e1];exact hy)
 generalize (σ3.set b (rkC [])).set x (.cells (evC true s0 a0 false))=σE at E4 F4 V4;generalize σ3.set x (.cells raw)=σ4 at V4⊢;clear hx nxt nxb ntb nq0 at0 ab0 ht3 hb3 hs3 fb ht2 hs2 ft hraw;have m0:s0.me=me:=by rw[hs0];rfl
 have r0:s0.rules=rules:=by rw[hs0];rfl
 have T0:s0.T=[]:=by rw[hs0];rfl
 simp only[go_sem,Aa];refine⟨fun m fr σ'=>∃(i:Nat) (a':EA) (P:ES×Bool) (σE:St),m=rules.length-i∧i≤rules.length∧P=zerD me rules i (s0,false)∧SOk (0+i*60004) P.1∧SV σ' σE∧EV true σE x a' P.1 P.2∧(∀y o,σ y=some o→σE y=some o∧¬Bo x a' y)∧fr 3= .sl 11 (rlC rules)∧fr 14=ptr x∧fr 15=int i,⟨_,0,a0,(s0,false),σE,rfl,by omega,rfl,O0,V4,E4,F4,f3,rfl,rfl⟩,?_⟩;clear E4 F4 V4 f0 f1 f2 f3 f10 O0;rintro m fr σ1 ⟨i,a',P,σE,rfl,hi,hP,hO,hV,hE,hF,f3,f14,f15⟩;simp only[go_sem,f3,f15,Ci];refine aIf_by (fun hlt=>?_) (fun hlt=>?_)
 case' refine_2=>
  have ei:i=rules.length:=by omega
  rw[ei]at hP;simp only[go_sem,Aa,f14];exact Ad (r:=.tup [ptr x,int 0]) rfl _ σE (view_of hV (.refl _)) (.inr ⟨hnm,hgood,hlim.1,hlim.2,x,a',rfl,by rw[show newD me names lim rules=P by rw[hP,hs0];rfl];exact hE,hF⟩)
 have hil:i<rules.length:=by omega
 obtain⟨r,hrr⟩:∃r,r=rules[i]:=⟨_,rfl⟩;have hr4:=hr _ (List.getElem_mem hil);rw[←hrr]at hr4;have rg:(rlC rules).getD i []=r.cs:=by rw[hrr];exact C4 hil
 have hgr:rules.getD i rlZ=r:=by rw[Dk hil,hrr]
 have K':SK s0 P.1:=by rw[hP];exact My me rules (s0,false) i
 have lcl:=D7 r.bo;have nx:=As i (by omega);have es:=Mz (me:=me) (rules:=rules) (k:=i) (P:=(s0,false));rw[hgr,←hP]at es;by_cases hbo:r.bo.length=0
 case neg=>
  rw[if_neg hbo]at es;have d1:=decide_eq_false (show¬(r.bo.length:Int)=0 by omega);simp only[go_sem,Aa,f3,f15,rg,Ci,lcl,d1,nx];exact⟨by omega,rules.length-(i+1),by omega,i+1,a',P,σE,rfl,by omega,es.symm,hO.le (by omega),hV,hE,hF,f14,rfl⟩
 rw[if_pos hbo]at es;have d1:=decide_eq_true (show(r.bo.length:Int)=0 by omega);have hil':i<P.1.rules.length:=by rw[K'.rules,r0];exact hil
 have hri:P.1.rules[i]=r:=by rw[hrr];exact List.getElem_of_eq (K'.rules.trans r0) hil'
 have mP:P.1.me=me:=K'.me.trans m0;have TP:P.1.T=[]:=K'.T.trans T0;simp only[go_sem,Aa,f3,f14,f15,rg,Ci,lcl,d1];have hc:=Aa1 hE hO (by omega) i hil' (-1) faZ Ajr;rw[hri,mP,TP]at hc;refine⟨by omega,(AT.pre hc (by kernel_rfl) hV (vws_same (vws_same (vws_same (vws_cons (.agg [str emp,str emp,str emp,A4] faZ.cs rfl (show VWs _ _ [str emp,str emp,str emp,A4] faZ.cs from vws_same (vws_same (vws_same (vws_cons (.nil 3) By)))).2) By))))).mono ?_⟩;rintro _ σ5 ⟨a2,E2,G2⟩;have O2:=Yq (n:=0) (me:=me) (rules:=rules) (P:=(s0,false)) (by rw[hs0];exact Lk hlim.1 hlim.2 hr hl hn) hr (i+1) (by omega);rw[es,Nat.zero_add]at O2;simp only[go_sem,Aa,f15,nx];exact⟨rules.length-(i+1),by omega,i+1,a2,lkD me faZ [] i r (-1) P,σ5,rfl,by omega,es.symm,O2,Es fun _ _ h=>.inl h,E2,fun y o hy=>G2 y o (hF y o hy).1 (hF y o hy).2,f3,f14,rfl⟩
end
def Kg(P:ES×Bool)(a:Ac):ES×Bool:=if a.k=0 then((Dp P.1 a.f).2,P.2)else if a.k=1 then((Gr P.1 a.f).2,P.2)else if a.k=2 then(Cz P.1 P.2).2 else P
theorem Amo{P:ES×Bool}{a:Ac}(h:(Kg P a).2=false):P.2=false∧(Kg P a).1=Hh P.1 a∧(a.k=2→Hv P.1):=by
 unfold Kg at h⊢;unfold Hh;by_cases k0:a.k=0
 ·rw[if_pos k0]at h⊢;rw[if_pos k0];exact⟨h,rfl,fun e=>by omega⟩
 rw[if_neg k0]at h⊢;rw[if_neg k0];by_cases k1:a.k=1
 ·rw[if_pos k1]at h⊢;rw[if_pos k1];exact⟨h,rfl,fun e=>by omega⟩
 rw[if_neg k1]at h⊢;rw[if_neg k1];by_cases k2:a.k=2
 ·rw[if_pos k2]at h⊢;rw[if_pos k2]
  obtain⟨h1,_,h3⟩:=Yg h;exact⟨h1,h3,fun _=>Yh h⟩
 ·rw[if_neg k2]at h⊢;rw[if_neg k2];exact⟨h,rfl,fun e=>absurd e k2⟩
theorem Amp{n g:Nat}{P:ES×Bool}{a:Ac}{rs:List Rl}(h:SOk n P.1)(hg:P.1.given.length≤g)(g1:g+1≤1000000)(hr:P.1.rules=rs)(hl:Cr rs rs.length≤80):SOk (n+4800320) (Kg P a).1∧(Kg P a).1.given.length≤g+1∧(Kg P a).1.rules=rs:=by
 unfold Kg;split
 ·have:=R7 (f:=a.f) h hg g1
  exact⟨this.1.le (by omega),this.2,(Vn P.1 a.f).rules.trans hr⟩
 ·split
  ·have:=Aed (f:=a.f) h hg
   exact⟨this.1.le (by omega),Nat.le_trans this.2 (Nat.le_succ g),(U7 P.1 a.f).rules.trans hr⟩
  ·split
   ·obtain⟨k1,k2⟩:=Af8 (hv:=P.2) h
    have k3:(Cz P.1 P.2).2.1.given=P.1.given:=by
     unfold Cz;split
     ·rfl
     split
     ·rfl
     split
     ·rfl
     split
     ·exact(Lv _ _ _ _ _ _).given
     ·rfl
    rw[hr]at k1;refine⟨k1.le (Nat.add_le_add_left (Nat.le_trans (Nat.mul_le_mul hl (Nat.le_refl 60004)) (by decide)) n),by rw[k3];omega,k2.trans hr⟩
   ·exact⟨h.le (by omega),by omega,hr⟩
section
variable{σ:St}
set_option maxHeartbeats 1600000 in
theorem Asw{lv:AV}(me:ByteArray)(names:List ByteArray)(lim:Int)(rs:List Rl)(l:List Ac)(hS:C7Sm names rs l)(h0:Rd 5 σ lv (acC l)):
  AT Tryz.prog 13 [.agg (c7C me names lim rs),lv] σ fun v σ'=>
   (v= .tup [.v (.pointer none),.v (.pointer none),boo false]∧∀z o,σ z=some o→σ' z=some o)∨
   (∃x a y b,v= .tup [ptr x,ptr y,boo true]∧Fin7 me names rs l (M4 me names rs l)∧Both σ' x a y b (M4 me names rs l)∧∀z o,σ z=some o→σ' z=some o∧¬Bo x a z∧¬Bo y b z):=by
 refine AT.ob Tryz.func13 rfl ?_;have ho:(c7C me names lim rs).all AV.one=true:=rfl;have al:=hS.al;have rl80:=hS.rl;have nm8:=hS.nm;have n8:∀m,m+4860324≤800000000000→m+Cr rs rs.length*60004+60004≤800000000000:=by
  have:=hS.lt;revert this;generalize Cr rs rs.length=L;intro h m hm;have:=Nat.mul_le_mul h (Nat.le_refl 60004);omega
 have n7:∀m,m+4860324≤800000000000→m+Cr rs rs.length*60002≤800000000000:=by
  have:=hS.lt;revert this;generalize Cr rs rs.length=L;intro h m hm;have:=Nat.mul_le_mul h (Nat.le_refl 60002);omega
 have no:∀{fr:Fr} {σ':St},(∀y o,σ y=some o→σ' y=some o)→A9 Tryz.prog fr σ' (Tryz.f13).results.toList=some (.tup [.v (.pointer none),.v (.pointer none),boo false])→Dw Tryz.prog (fun v σ'=>(v= .tup [.v (.pointer none),.v (.pointer none),boo false]∧∀z o,σ z=some o→σ' z=some o)∨
   (∃x a y b,v= .tup [ptr x,ptr y,boo true]∧Fin7 me names rs l (M4 me names rs l)∧Both σ' x a y b (M4 me names rs l)∧∀z o,σ z=some o→σ' z=some o∧¬Bo x a z∧¬Bo y b z)) (Tryz.f13).results.toList fr σ':=fun hs hr=>
  Ae hr (.inl ⟨rfl,hs⟩)
 simp only[go_sem,ho];refine Ctx.nil.alloc fun p σ1 c1=>?_;have hp:=c1.g0;have hs1:=c1.sub;have fp:=c1.f0;clear c1;simp only[go_sem,hp];refine(App me names 4096 rs (by omega) (by omega) hS.rs).mono ?_;rintro _ σ2 (⟨rfl,hbad,hs2⟩|⟨n1,n2,n3,n4,y,b,rfl,E2,F2⟩)
 ·simp only[go_sem]
  exact no (fun z o hz=>hs2 _ _ (hs1 _ _ hz)) rfl
 simp only[go_sem];obtain⟨s0,hs0⟩:∃s0,s0=Ch me names 4096 rs:=⟨_,rfl⟩;have hr0:s0.rules=rs:=by rw[hs0];exact(Ep me rs (Lj me names 4096 rs) rs.length).rules
 have O0:SOk (4800320+0*4800320) s0:=by
  rw[hs0];exact(Ux (n:=0) (me:=me) (rules:=rs) (Lk n3 n4 hS.rs (by omega) (by omega)) rs.length).le (by omega)
 have G0:s0.given.length≤0:=by
  rw[hs0,show(Ch me names 4096 rs).given=[]from(Ep me rs (Lj me names 4096 rs) rs.length).given];exact Nat.le_refl _
 obtain⟨P0,hP0⟩:∃P0,P0=newD me names 4096 rs:=⟨_,rfl⟩;have e0:P0.2=false→P0.1=s0:=fun h=>by rw[hP0]at h⊢;rw[hs0];exact(Yp _ h).2
 have OP0:SOk 4800320 P0.1∧P0.1.given.length≤0∧P0.1.rules=rs:=by
  have k:=My me rs (Lj me names 4096 rs,false) rs.length;refine⟨?_,?_,?_⟩
  ·rw[hP0]
   exact(Yq (n:=0) (P:=(Lj me names 4096 rs,false)) (me:=me) (Lk n3 n4 hS.rs (by omega) (by omega)) hS.rs rs.length (Nat.le_refl _)).le (by omega)
  ·rw[hP0];show(zerD me rs rs.length _).1.given.length≤0;rw[k.given];exact Nat.le_refl _
  ·rw[hP0];exact k.rules
 rw[←hP0]at E2;have hp2:=F2 _ _ hp;have FF2:∀z o,σ z=some o→σ2 z=some o∧¬Bo y b z:=fun z o hz=>F2 _ _ (hs1 _ _ hz);refine⟨fun m fr σ'=>∃(i:Nat) (b:EA) (P:ES×Bool),m=l.length-i∧i≤l.length∧EV true σ' y b P.1 P.2∧SOk (4800320+i*4800320) P.1∧P.1.given.length≤i∧P.1.rules=rs∧(P.2=false→P.1=C2 (l.take i) s0∧∀j (hj:j<l.length),j<i→l[j].k=2→Hv (C2 (l.take j) s0))∧(∀z o,σ z=some o→σ' z=some o∧¬Bo y b z)∧σ' p=some (.cells (c7C me names lim rs))∧¬Bo y b p∧fr 1=lv∧fr 2=ptr p∧fr 7=ptr y∧fr 9=int i,⟨_,0,b,P0,rfl,by omega,E2,OP0.1,OP0.2.1,OP0.2.2,fun h=>⟨e0 h,fun j hj h=>by omega⟩,FF2,hp2.1,hp2.2,rfl,rfl,rfl,rfl⟩,?_⟩;clear E2 OP0 e0 F2 FF2 hp2 hp hs1;rintro m fr σ3 ⟨i,b,P,rfl,hi,E3,O3,G3,R3,hrun,F3,hp3,np3,f1,f2,f7,f9⟩;have hlv:Rd 5 σ3 lv (acC l):=h0.keep fun z o hz=>(F3 z o hz).1;by_cases hil:i<l.length
 ·have d1:=decide_eq_true (show(i:Int)<l.length by omega)
  have hfs:=hS.fs _ (List.getElem_mem hil);have nx:=As i (by omega);simp only[go_sem,Aa,f1,f9,hlv.len,Dj,d1];refine hlv.elem (by omega) (by rw[Dj];omega) fun q0 hq0=>?_;rw[Int.toNat_natCast,Ke hil]at hq0;simp only[go_sem];refine hq0.fld (by decide) (by rw[Ac.len];omega) fun q1 hq1=>?_;simp only[go_sem];refine hq1.load1 (by decide) (by rw[Ac.len];omega) ?_;simp only[go_sem,Ac.at0];refine Jk (fun fr σ'=>∃b',EV true σ' y b' (Kg P l[i]).1 (Kg P l[i]).2∧(∀z o,σ z=some o→σ' z=some o∧¬Bo y b' z)∧σ' p=some (.cells (c7C me names lim rs))∧¬Bo y b' p∧fr 1=lv∧fr 2=ptr p∧fr 7=ptr y∧fr 9=int i) ?_ ?_
  ·by_cases k0:l[i].k=0
   ·have ea:Kg P l[i]=((Dp P.1 l[i].f).2,P.2):=by unfold Kg;rw[if_pos k0]
    simp only[go_sem,Aa,decide_eq_true k0,f1,f7,f9];refine hlv.elem (by omega) (by rw[Dj];omega) fun r0 hr0=>?_;rw[Int.toNat_natCast,Ke hil]at hr0;simp only[go_sem];refine hr0.fld (by decide) (by rw[Ac.len];omega) fun r1 hr1=>?_;simp only[go_sem];refine hr1.load (by decide) (by rw[Ac.len];omega) ?_;simp only[go_sem,Ac.fa];refine(Adh E3 O3 (by omega) l[i].f).mono ?_;rintro _ σ4 ⟨rfl,b2,E4,G4⟩;simp only[go_sem,Aa];exact⟨b2,by rw[ea];exact E4,fun z o hz=>G4 z o (F3 z o hz).1 (F3 z o hz).2,(G4 _ _ hp3 np3).1,(G4 _ _ hp3 np3).2,f1,f2,f7,f9⟩
   by_cases k1:l[i].k=1
   ·have ea:Kg P l[i]=((Gr P.1 l[i].f).2,P.2):=by unfold Kg;rw[if_neg k0,if_pos k1]
    simp only[go_sem,Aa,decide_eq_false k0,decide_eq_true k1,f1,f7,f9];refine hlv.elem (by omega) (by rw[Dj];omega) fun r0 hr0=>?_;rw[Int.toNat_natCast,Ke hil]at hr0;simp only[go_sem];refine hr0.fld (by decide) (by rw[Ac.len];omega) fun r1 hr1=>?_;simp only[go_sem];refine hr1.load (by decide) (by rw[Ac.len];omega) ?_;simp only[go_sem,Ac.fa];refine(Adc E3 O3 (by omega) l[i].f hfs).mono ?_;rintro _ σ4 ⟨rfl,b2,E4,G4⟩;simp only[go_sem,Aa];exact⟨b2,by rw[ea];exact E4,fun z o hz=>G4 z o (F3 z o hz).1 (F3 z o hz).2,(G4 _ _ hp3 np3).1,(G4 _ _ hp3 np3).2,f1,f2,f7,f9⟩
   by_cases k2:l[i].k=2
   ·have ea:Kg P l[i]=(Cz P.1 P.2).2:=by unfold Kg;rw[if_neg k0,if_neg k1,if_pos k2]
    simp only[go_sem,Aa,decide_eq_false k0,decide_eq_false k1,decide_eq_true k2,f7];refine(Aa3 E3 O3 (by rw[R3];exact n8 _ (by omega))).mono ?_;rintro _ σ4 ⟨rfl,b2,E4,G4⟩;simp only[go_sem,Aa];exact⟨b2,by rw[ea];exact E4,fun z o hz=>G4 z o (F3 z o hz).1 (F3 z o hz).2,(G4 _ _ hp3 np3).1,(G4 _ _ hp3 np3).2,f1,f2,f7,f9⟩
   ·have ea:Kg P l[i]=P:=by unfold Kg;rw[if_neg k0,if_neg k1,if_neg k2]
    simp only[go_sem,Aa,decide_eq_false k0,decide_eq_false k1,decide_eq_false k2];exact⟨b,by rw[ea];exact E3,F3,hp3,np3,f1,f2,f7,f9⟩
  ·rintro fr σ4 ⟨b2,E4,F4,hp4,np4,f1,f2,f7,f9⟩
   have hy4:=E4.cx;obtain⟨q1,q2,q3⟩:=Amp (a:=l[i]) O3 G3 (by omega) R3 hS.lt;cases hv:(Kg P l[i]).2 with
   |true=>
    rw[hv]at hy4;simp only[go_sem,Aa,f7,hy4];exact no (fun z o hz=>(F4 z o hz).1) rfl
   |false=>
    rw[hv]at hy4;obtain⟨w1,w2,w3⟩:=Amo hv;obtain⟨u1,u2⟩:=hrun w1;simp only[go_sem,Aa,f7,f9,hy4,nx]
    exact⟨l.length-(i+1),by omega,i+1,b2,Kg P l[i],rfl,by omega,E4,q1.le (by omega),q2,q3,fun _=>⟨by rw[w2,u1,Q4 _ hil],fun j hj hji hk=>by
     by_cases e:j=i
     ·subst e;rw[←u1];exact w3 hk
     ·exact u2 j hj (by omega) hk⟩,F4,hp4,np4,f1,f2,rfl⟩
 ·have ei:i=l.length:=by omega
  subst ei;rw[List.take_length]at hrun;have d1:=decide_eq_false (show¬((l.length:Nat):Int)<l.length by omega);simp only[go_sem,Aa,f1,f7,f9,hlv.len,Dj,d1];refine(Aht E3 O3 (by rw[R3];exact hS.lt) (by omega)).mono ?_;rintro _ σ4 ⟨rfl,b2,E4,G4⟩;have F4:∀z o,σ z=some o→σ4 z=some o∧¬Bo y b2 z:=fun z o hz=>G4 z o (F3 z o hz).1 (F3 z o hz).2;have hp4:=G4 _ _ hp3 np3;cases hd:(Qh 400 (P.1,P.2)).1 with
  |false=>
   simp only[go_sem,Aa,hd,Bool.not_false];exact no (fun z o hz=>(F4 z o hz).1) rfl
  |true=>
  obtain⟨w1,w2,w3,w4⟩:=Aep 400 P.1 P.2 hd;obtain⟨u1,u2⟩:=hrun w1;rw[w4,←w3,u1]at E4;rw[u1]at w2;have hw2:∀j (h:j<l.length),l[j].k=2→Hv (C2 (l.take j) (Ch me names 4096 rs)):=fun j h hk=>by rw[←hs0];exact u2 j h h hk
  have Fn:=fin7 n1 n2 hS hw2 (by rw[←hs0];exact w2);have efin:M4 me names rs l=C1 400 (C2 l s0):=by rw[hs0];rfl
  rw[←efin]at E4;clear E3 O3 G3 R3 hrun F3 hp3 np3 w1 w3 w4;simp only[go_sem,Aa,hd,f2,hp4.1,Bool.not_true];refine(Xc me names 4096 rs (by omega) (by omega) hS.rs).mono ?_;rintro _ σ5 (⟨rfl,hbad,_⟩|⟨_,_,_,_,x,a,rfl,E5,F5⟩)
  ·rcases hbad with h|h|h
   ·exact absurd n1 h
   ·exact absurd h n2
   ·exact absurd ⟨n3,n4⟩ h
  rw[←hs0]at E5;have y5:EV true σ5 y b2 (M4 me names rs l) false:=E4.keep fun z o hz _=>(F5 z o hz).1;have dj5:∀z,Bo x a z→¬Bo y b2 z:=fun z hx hy=>by
   obtain⟨o,ho⟩:=Ig E4 hy;exact(F5 z o ho).2 hx
  have FF5:∀z o,σ z=some o→σ5 z=some o∧¬Bo x a z∧¬Bo y b2 z:=fun z o hz=>⟨(F5 z o (F4 z o hz).1).1,(F5 z o (F4 z o hz).1).2,(F4 z o hz).2⟩;clear E4 G4 F4 hp4 F5 f2 f9;simp only[go_sem,Aa];refine⟨fun m fr σ'=>∃(j:Nat) (a:EA),m=l.length-j∧j≤l.length∧EV false σ' x a (C2 (l.take j) s0) false∧EV true σ' y b2 (M4 me names rs l) false∧(∀z,Bo x a z→¬Bo y b2 z)∧SOk (4800320+j*4800320) (C2 (l.take j) s0)∧(C2 (l.take j) s0).given.length≤j∧(∀z o,σ z=some o→σ' z=some o∧¬Bo x a z∧¬Bo y b2 z)∧fr 1=lv∧fr 7=ptr y∧fr 10=ptr x∧fr 12=int j,⟨_,0,a,rfl,by omega,E5,y5,dj5,O0,G0,FF5,f1,f7,rfl,rfl⟩,?_⟩;clear E5 y5 dj5 O0 G0 FF5 f1 f7 hlv;rintro m fr σ6 ⟨j,a,rfl,hj,E6,y6,dj6,O6,G6,F6,f1,f7,f10,f12⟩;have hlv:Rd 5 σ6 lv (acC l):=h0.keep fun z o hz=>(F6 z o hz).1;have R6:(C2 (l.take j) s0).rules=rs:=(H5 (l.take j) s0).rules.trans hr0;by_cases hjl:j<l.length
  ·have d1:=decide_eq_true (show(j:Int)<l.length by omega)
   have hfs:=hS.fs _ (List.getElem_mem hjl);have nx:=As j (by omega);simp only[go_sem,f1,f12,hlv.len,Dj,d1];refine Jk (fun fr σ'=>∃a',EV false σ' x a' (Hh (C2 (l.take j) s0) l[j]) false∧EV true σ' y b2 (M4 me names rs l) false∧(∀z,Bo x a' z→¬Bo y b2 z)∧(∀z o,σ z=some o→σ' z=some o∧¬Bo x a' z∧¬Bo y b2 z)∧fr 1=lv∧fr 7=ptr y∧fr 10=ptr x∧fr 12=int j) ?_ ?_
   ·simp only[go_sem,Aa,f1,f12]
    refine hlv.elem (by omega) (by rw[Dj];omega) fun q0 hq0=>?_;rw[Int.toNat_natCast,Ke hjl]at hq0;simp only[go_sem];refine hq0.fld (by decide) (by rw[Ac.len];omega) fun q1 hq1=>?_;simp only[go_sem];refine hq1.load1 (by decide) (by rw[Ac.len];omega) ?_;simp only[go_sem,Ac.at0];by_cases k0:l[j].k=0
    ·have ea:Hh (C2 (l.take j) s0) l[j]=(Dp (C2 (l.take j) s0) l[j].f).2:=by unfold Hh;rw[if_pos k0]
     simp only[go_sem,Aa,decide_eq_true k0,f1,f10,f12];refine hlv.elem (by omega) (by rw[Dj];omega) fun r0 hr0=>?_;rw[Int.toNat_natCast,Ke hjl]at hr0;simp only[go_sem];refine hr0.fld (by decide) (by rw[Ac.len];omega) fun r1 hr1=>?_;simp only[go_sem];refine hr1.load (by decide) (by rw[Ac.len];omega) ?_;simp only[go_sem,Ac.fa];refine(Nj E6 O6 (by omega) l[j].f).mono ?_;rintro _ σ7 ⟨rfl,a2,E7,G7⟩;obtain⟨y7,dj7⟩:=y6.stay G7 fun z hz hx=>dj6 z hx hz;simp only[go_sem,Aa]
     exact⟨a2,by rw[ea];exact E7,y7,fun z hx hy=>dj7 z hy hx,fun z o hz=>by
      obtain⟨k1,k2,k3⟩:=F6 z o hz;exact⟨(G7 z o k1 k2).1,(G7 z o k1 k2).2,k3⟩,f1,f7,f10,f12⟩
    by_cases k1:l[j].k=1
    ·have ea:Hh (C2 (l.take j) s0) l[j]=(Gr (C2 (l.take j) s0) l[j].f).2:=by unfold Hh;rw[if_neg k0,if_pos k1]
     simp only[go_sem,Aa,decide_eq_false k0,decide_eq_true k1,f1,f10,f12];refine hlv.elem (by omega) (by rw[Dj];omega) fun r0 hr0=>?_;rw[Int.toNat_natCast,Ke hjl]at hr0;simp only[go_sem];refine hr0.fld (by decide) (by rw[Ac.len];omega) fun r1 hr1=>?_;simp only[go_sem];refine hr1.load (by decide) (by rw[Ac.len];omega) ?_;simp only[go_sem,Ac.fa];refine(Te E6 O6 (by omega) l[j].f hfs).mono ?_;rintro _ σ7 ⟨rfl,a2,E7,G7⟩;obtain⟨y7,dj7⟩:=y6.stay G7 fun z hz hx=>dj6 z hx hz;simp only[go_sem,Aa]
     exact⟨a2,by rw[ea];exact E7,y7,fun z hx hy=>dj7 z hy hx,fun z o hz=>by
      obtain⟨k1,k2,k3⟩:=F6 z o hz;exact⟨(G7 z o k1 k2).1,(G7 z o k1 k2).2,k3⟩,f1,f7,f10,f12⟩
    by_cases k2:l[j].k=2
    ·have ea:Hh (C2 (l.take j) s0) l[j]=(A5 (C2 (l.take j) s0)).2:=by unfold Hh;rw[if_neg k0,if_neg k1,if_pos k2]
     simp only[go_sem,Aa,decide_eq_false k0,decide_eq_false k1,decide_eq_true k2,f10];refine(Oj E6 O6 (by rw[R6];exact n7 _ (by omega)) (u2 j hjl hjl k2)).mono ?_;rintro _ σ7 ⟨rfl,a2,E7,G7⟩;obtain⟨y7,dj7⟩:=y6.stay G7 fun z hz hx=>dj6 z hx hz;simp only[go_sem,Aa]
     exact⟨a2,by rw[ea];exact E7,y7,fun z hx hy=>dj7 z hy hx,fun z o hz=>by
      obtain⟨k1,k2,k3⟩:=F6 z o hz;exact⟨(G7 z o k1 k2).1,(G7 z o k1 k2).2,k3⟩,f1,f7,f10,f12⟩
    ·have ea:Hh (C2 (l.take j) s0) l[j]=C2 (l.take j) s0:=by unfold Hh;rw[if_neg k0,if_neg k1,if_neg k2]
     simp only[go_sem,Aa,decide_eq_false k0,decide_eq_false k1,decide_eq_false k2];exact⟨a,by rw[ea];exact E6,y6,dj6,F6,f1,f7,f10,f12⟩
   ·rintro fr σ7 ⟨a2,E7,y7,dj7,F7,f1,f7,f10,f12⟩
    obtain⟨q1,q2⟩:=Ad5 (a:=l[j]) O6 G6 (by omega) (by rw[R6];exact hS.lt) (u2 j hjl hjl);rw[←Q4 _ hjl]at E7 q1 q2;simp only[go_sem,Aa,f12,nx];exact⟨l.length-(j+1),by omega,j+1,a2,rfl,by omega,E7,y7,dj7,q1.le (by omega),q2,F7,f1,f7,f10,rfl⟩
  ·have ej:j=l.length:=by omega
   subst ej;rw[List.take_length]at E6 O6 R6;have d1:=decide_eq_false (show¬((l.length:Nat):Int)<l.length by omega);simp only[go_sem,Aa,f1,f10,f12,hlv.len,Dj,d1];refine(Vi E6 O6 (by rw[R6];exact hS.lt) 400 (by omega) w2).mono ?_;rintro _ σ7 ⟨a2,E7,G7⟩;obtain⟨y7,dj7⟩:=y6.stay G7 fun z hz hx=>dj6 z hx hz;rw[←efin]at E7;simp only[go_sem,Aa,f7,f10]
   exact Ae (r:=.tup [ptr x,ptr y,boo true]) rfl (.inr ⟨x,a2,y,b2,rfl,Fn,⟨E7,y7,fun z hx hy=>dj7 z hy hx⟩,fun z o hz=>by
    obtain⟨k1,k2,k3⟩:=F6 z o hz;exact⟨(G7 z o k1 k2).1,(G7 z o k1 k2).2,k3⟩⟩)
end
def NV(v:AV)(N:List Fa):Prop:=v= .sl 4 (faC N)∨v=A4∧N=[]
theorem NV.vw{v:AV}{N:List Fa}(h:NV v N)(σ σ':St):VW σ σ' v (.sl 4 (faC N)):=by
 rcases h with rfl|⟨rfl,rfl⟩
 ·exact .refl _
 ·exact .nil 4
theorem svr(σ:St):SV σ σ:=Es fun x o hx=>.inl hx
section
variable{σ:St}
theorem Aj4(l:List Fa)(f:Fa)(hl:l.length≤1000000000000)(hls:∀x∈l,x.Sm)(hf:f.Sm):AT Tryz.prog 25 [.sl 4 (faC l),.agg f.cs] σ fun r σ'=>r=boo (decide (f∈l))∧σ'=σ:=by
 refine AT.ob Tryz.func25 rfl ?_;simp only[go_sem];refine Ctx.nil.alloc fun p σ1 c1=>?_;simp only[go_sem,Aa];refine⟨fun m fr σ'=>∃k:Nat,m=l.length-k∧k≤l.length∧σ'=σ1∧f∉l.take k∧fr 0= .sl 4 (faC l)∧fr 3=ptr p∧fr 5=int k,⟨_,0,rfl,by omega,rfl,by simp,rfl,rfl,rfl⟩,?_⟩;rintro m fr σ1 ⟨k,rfl,hk,rfl,hI,f0,f3,f5⟩;simp only[go_sem,Aa];by_cases g:k<l.length
 ·have d1:=decide_eq_true (show(k:Int)<l.length by omega)
  simp only[go_sem,Aa,f0,f5,d1,Aj];refine Af [.rd 0 false,.rd 1 false,.rd 2 false,.rd 3 true,.rd 4 true,.ef 5 [],.rd 6 false] ?_;simp only[go_sem,Aa,f0,f3,f5,d1,c1.g0,Aq g,Aj];refine⟨by omega,(Fg (x:=l[k]) (y:=f) .cs .cs (hls _ (List.getElem_mem g)) hf).p ?_⟩;by_cases e:Ai l[k] f=0
  ·have:=(Ah.zero _ _).1 e
   simp only[go_sem,Aa,decide_eq_true e];exact Ad (r:=boo true) rfl _ σ (c1.view _) ⟨by rw[decide_eq_true (this▸List.getElem_mem g)],rfl⟩
  ·simp only[go_sem,Aa,decide_eq_false e,f5,As k (by omega)]
   have hI':f∉l.take (k+1):=by
    rw[List.take_add_one,List.getElem?_eq_getElem g,List.mem_append];rintro(h|h)
    ·exact hI h
    ·simp only[Option.toList,List.mem_cons,List.not_mem_nil,or_false]at h
     exact e ((Ah.zero _ _).2 h.symm)
   refine⟨l.length-(k+1),by omega,k+1,?_⟩
   (and_intros<;>first|assumption|rfl|omega)
 ·have d1:=decide_eq_false (show¬(k:Int)<l.length by omega)
  rw[List.take_of_length_le (by omega)]at hI;simp only[go_sem,Aa,f0,f5,d1,Aj];exact Ad (r:=boo false) rfl _ σ (c1.view _) ⟨by rw[decide_eq_false hI],rfl⟩
theorem Amg{v:AV}{N:List Fa}(h:NV v N)(f:Fa)(hl:N.length≤1000000000000)(hls:∀x∈N,x.Sm)(hf:f.Sm):AT Tryz.prog 28 [v,.agg f.cs] σ fun v σ'=>v= .sl 4 (faC (A1 Ai f N))∧σ'=σ:=
 AT.pre (H1 N f hl hls hf) (by kernel_rfl) (svr σ) (vws_cons (h.vw σ σ) (Bu _))
theorem Aju{p:Fa→Bool}{l:List Fa}{i:Nat}(h:i<l.length):(l.take (i+1)).filter p=(l.take i).filter p++(if p l[i]=true then[l[i]]else[]):=by
 rw[List.take_add_one,List.getElem?_eq_getElem h,List.filter_append];by_cases e:p l[i]=true
 ·rw[if_pos e];simp[e]
 ·rw[if_neg e];simp[e]
theorem Ahg(a b:List Fa)(ha:a.length≤1000000000000)(sa:∀x∈a,x.Sm)(hb:b.length≤1000000000000)(sb:∀x∈b,x.Sm):AT Tryz.prog 20 [.sl 4 (faC a),.sl 4 (faC b)] σ fun r σ'=>NV r (Aw Ai [] (a.filter fun y=>!decide (y∈b)))∧σ'=σ:=by
 refine AT.ob Tryz.func20 rfl ?_;have fl:=Aj a;simp only[go_sem,Aa];refine⟨fun m fr σ'=>∃(k:Nat) (v:AV),m=a.length-k∧k≤a.length∧σ'=σ∧NV v (Aw Ai [] ((a.take k).filter fun y=>!decide (y∈b)))∧fr 0= .sl 4 (faC a)∧fr 1= .sl 4 (faC b)∧fr 5=v∧fr 6=int k,⟨_,0,A4,rfl,by omega,rfl,.inr ⟨rfl,rfl⟩,rfl,rfl,rfl,rfl⟩,?_⟩;rintro m fr σ ⟨k,v,rfl,hk,rfl,hN,f0,f1,f5,f6⟩;by_cases g:k<a.length
 ·have d1:=decide_eq_true (show(k:Int)<a.length by omega)
  have nx:=As k (by omega);have se:=sa _ (List.getElem_mem g);simp only[go_sem,Aa,f0,f1,f6,fl,d1,Aq g];refine⟨by omega,(Aj4 b a[k] hb sb se).p ?_⟩;by_cases hin:a[k]∈b
  ·have e1:=Aju (p:=fun y=>!decide (y∈b)) g
   rw[if_neg (by simpa using hin),List.append_nil]at e1;simp only[go_sem,Aa,decide_eq_true hin,Bool.not_true,f6,nx];exact⟨a.length-(k+1),by omega,k+1,v,rfl,by omega,by rw[e1];exact hN,f0,f1,f5,rfl⟩
  ·have e1:=Aju (p:=fun y=>!decide (y∈b)) g
   rw[if_pos (by simpa using hin)]at e1;simp only[go_sem,Aa,decide_eq_false hin,Bool.not_false,f0,f5,f6,fl,Aq g];have hm:∀x∈Aw Ai [] ((a.take k).filter fun y=>!decide (y∈b)),x.Sm:=fun x hx=>by
    rcases(Ar Ah).1 hx with h|h
    ·exact sa x (List.mem_of_mem_take (List.mem_filter.1 h).1)
    ·cases h
   have hn:(Aw Ai [] ((a.take k).filter fun y=>!decide (y∈b))).length≤1000000000000:=by
    have h1:=Bn (c:=Ai) (l:=(a.take k).filter fun y=>!decide (y∈b)) (s:=[]);have h2:=List.length_filter_le (fun y=>!decide (y∈b)) (a.take k);rw[List.length_take]at h2;simp only[List.length_nil]at h1;omega
   refine⟨by omega,(Amg hN a[k] hn hm se).p ?_⟩;simp only[go_sem,Aa,f6,nx];exact⟨a.length-(k+1),by omega,k+1,_,rfl,by omega,.inl (by rw[e1,Ef];rfl),f0,f1,rfl,rfl⟩
 ·have d1:=decide_eq_false (show¬(k:Int)<a.length by omega)
  rw[List.take_of_length_le (by omega)]at hN;simp only[go_sem,Aa,f0,f5,f6,fl,d1];exact Ae (r:=v) rfl ⟨hN,rfl⟩
end
def TmR(t:Tm):Prop:=t.v=emp→t= .zero∨Cf t.val=true
def RlR(r:Rl):Prop:=Ew r.nm=true∧r.ar.length≤48∧∀t∈r.ar,TmR t
section
variable{σ:St}
theorem Ak8(t:Tm):AT Tryz.prog 140 [.agg t.cs] σ fun r σ'=>r=boo (decide (t= .zero))∧σ'=σ:=by
 refine AT.ob Tryz.func140 rfl ?_;simp only[go_sem];refine Ctx.nil.alloc fun p σ1 c1=>?_;simp only[go_sem,c1.g0];refine Abi ?_;simp only[go_sem];exact Ad (r:=boo (decide (t= .zero))) rfl _ σ (c1.view _) ⟨rfl,rfl⟩
theorem Lz(t:Tm):AT Tryz.prog 81 [.agg t.cs] σ fun r σ'=>(∃b:Bool,r=boo b∧(b=true→TmR t))∧σ'=σ:=by
 refine AT.ob Tryz.func81 rfl ?_;simp only[go_sem];refine Ctx.nil.alloc fun p σ1 c1=>?_;have hp:=c1.g0;have hs:=c1.sub;clear c1;by_cases hv:t.v=emp
 ·have d1:=decide_eq_true hv
  have d2:decide (¬t.v=emp)=false:=decide_eq_false fun h=>h hv;simp only[go_sem,hp];refine aIf_by (fun _=>?_) (fun h=>absurd hv h);simp only[go_sem,hp];refine(Ak8 t).p ?_;by_cases hz:t= .zero
  ·simp only[go_sem,decide_eq_true hz]
   exact Ad (r:=boo true) rfl _ σ (An hs) ⟨⟨true,rfl,fun _ _=>.inl hz⟩,rfl⟩
  ·simp only[go_sem,decide_eq_false hz,hp]
   refine(Aaz t.val).p ?_;simp only[go_sem];exact Ad (r:=boo (Cf t.val)) rfl _ σ (An hs) ⟨⟨_,rfl,fun h _=>.inr h⟩,rfl⟩
 ·simp only[go_sem,hp]
  refine aIf_by (fun h=>absurd h hv) (fun _=>?_);simp only[go_sem,hp];refine(Ho t.v).p ?_;cases htx:Ew t.v with
  |false=>
   simp only[go_sem,htx];exact Ad (r:=boo false) rfl _ σ (An hs) ⟨⟨false,rfl,fun h=>by cases h⟩,rfl⟩
  |true=>
   simp only[go_sem,htx,hp];refine Ais (b:=⟨false,0,emp⟩) ?_;simp only[go_sem];exact Ad (r:=boo (decide (t.val=⟨false,0,emp⟩))) rfl _ σ (An hs) ⟨⟨_,rfl,fun _ h=>absurd h hv⟩,rfl⟩
theorem Wg(l:List Tm)(hl:l.length≤1000000):AT Tryz.prog 82 [.sl 4 (tmC l)] σ fun r σ'=>(∃b:Bool,r=boo b∧(b=true→l.length≤48∧∀t∈l,TmR t))∧σ'=σ:=by
 refine AT.ob Tryz.func82 rfl ?_;by_cases h48:(48:Int)<l.length
 ·have d1:=decide_eq_true h48
  simp only[go_sem,d1];exact Ae (r:=boo false) rfl ⟨⟨false,rfl,fun h=>by cases h⟩,rfl⟩
 have d1:=decide_eq_false h48;simp only[go_sem,d1];refine⟨fun m fr σ'=>∃i:Nat,m=l.length-i∧i≤l.length∧σ'=σ∧(∀t∈l.take i,TmR t)∧fr 0= .sl 4 (tmC l)∧fr 3=int i,⟨_,0,rfl,by omega,rfl,fun t ht=>by simp at ht,rfl,rfl⟩,?_⟩;rintro m fr σ ⟨i,rfl,hi,rfl,hI,f0,f3⟩;simp only[go_sem,f0,f3];refine aIf_by (fun hlt=>?_) (fun hlt=>?_)
 ·have hil:i<l.length:=by omega
  simp only[go_sem,Aa,f0,f3,H0 hil];refine⟨by omega,(Lz l[i]).mono ?_⟩;rintro _ σ ⟨⟨b,rfl,hb⟩,rfl⟩;cases b with
  |false=>
   simp only[go_sem,Aa,Bool.not_false];exact Ae (r:=boo false) rfl ⟨⟨false,rfl,fun h=>by cases h⟩,rfl⟩
  |true=>
   simp only[go_sem,Aa,Bool.not_true,f3,As i (by omega)]
   exact⟨l.length-(i+1),by omega,i+1,rfl,by omega,fun t ht=>by
    rw[List.take_add_one,List.getElem?_eq_getElem hil]at ht;rcases List.mem_append.1 ht with h|h
    ·exact hI t h
    ·simp at h;subst h;exact hb rfl,f0,rfl⟩
 ·rw[List.take_of_length_le (by omega)]at hI
  simp only[go_sem,Aa];exact Ae (r:=boo true) rfl ⟨⟨true,rfl,fun _=>⟨by omega,hI⟩⟩,rfl⟩
theorem Ahw(r:Rl)(hr:r.S4):AT Tryz.prog 40 [.agg r.cs] σ fun v σ'=>(∃b:Bool,v=boo b∧(b=true→RlR r))∧σ'=σ:=by
 refine AT.ob Tryz.func40 rfl ?_;have h1:=hr.1.1;have h2:=hr.1.2;have h3:=hr.2;simp only[go_sem];refine Ctx.nil.alloc fun p σ1 c1=>?_;have hp:=c1.g0;have hs:=c1.sub;clear c1;have no:∀{fr:Fr} {σ':St},(∀y o,σ y=some o→σ' y=some o)→A9 Tryz.prog fr σ' (Tryz.f40).results.toList=some (boo false)→Dw Tryz.prog (fun v σ'=>(∃b:Bool,v=boo b∧(b=true→RlR r))∧σ'=σ) (Tryz.f40).results.toList fr σ':=fun hs hr=>
  Ad hr _ σ (An hs) ⟨⟨false,rfl,fun h=>by cases h⟩,rfl⟩
 simp only[go_sem,hp];refine(Lz r.ho).mono ?_;rintro _ σ1 ⟨⟨b1,rfl,hb1⟩,rfl⟩;cases b1 with
 |false=>
  simp only[go_sem,Bool.not_false];exact no hs rfl
 |true=>
 simp only[go_sem,Bool.not_true,hp];refine(Lz r.at').mono ?_;rintro _ σ1 ⟨⟨b2,rfl,hb2⟩,rfl⟩;cases b2 with
 |false=>
  simp only[go_sem,Bool.not_false];exact no hs rfl
 |true=>
 simp only[go_sem,Bool.not_true,hp];refine(Ho r.nm).p ?_;cases htx:Ew r.nm with
 |false=>
  simp only[go_sem,htx,Bool.not_false];exact no hs rfl
 |true=>
 simp only[go_sem,htx,Bool.not_true,hp];refine(Wg r.ar (by omega)).mono ?_;rintro _ σ1 ⟨⟨b3,rfl,hb3⟩,rfl⟩;cases b3 with
 |false=>
  simp only[go_sem,Bool.not_false];exact no hs rfl
 |true=>
 have hR:RlR r:=⟨htx,hb3 rfl⟩;by_cases g5:(5:Int)<r.bo.length
 ·simp only[go_sem,Bool.not_true,hp,D7,decide_eq_true g5]
  exact no hs rfl
 simp only[go_sem,Bool.not_true,hp,D7,decide_eq_false g5];refine⟨fun m fr σ'=>∃i:Nat,m=r.bo.length-i∧i≤r.bo.length∧(∀y o,σ y=some o→σ' y=some o)∧σ' p=some (.cells r.cs)∧fr 1=ptr p∧fr 3=int i,⟨_,0,rfl,by omega,hs,hp,rfl,rfl⟩,?_⟩;clear hs hp;rintro m fr σ1 ⟨i,rfl,hi,hs,hp,f1,f3⟩;simp only[go_sem,f1,f3,hp,D7];refine aIf_by (fun hlt=>?_) (fun hlt=>?_)
 ·have hil:i<r.bo.length:=by omega
  have hla:=h2 _ (List.getElem_mem hil);simp only[go_sem,Aa,f1,f3,hp,D7,D6 hil];refine⟨by omega,Ctx.nil.alloc fun q σ2 c2=>?_⟩;obtain⟨σ3,e3,c3⟩:=c2.abs 0 rfl (.cells r.bo[i].cs);have hq:σ3 q=some (.cells r.bo[i].cs):=c3.g0;have hs3:∀y o,σ y=some o→σ3 y=some o:=fun y o hy=>c3.sub _ _ (hs y o hy);have hp3:=c3.sub _ _ hp;simp only[go_sem,Aa,c2.g0,e3,hq];clear e3 c3 c2;refine(Lz r.bo[i].by').mono ?_;rintro _ σ3 ⟨⟨b1,rfl,_⟩,rfl⟩;cases b1 with
  |false=>
   simp only[go_sem,Aa,Bool.not_false];exact no hs3 rfl
  |true=>
  simp only[go_sem,Aa,Bool.not_true,hq];refine(Lz r.bo[i].at').mono ?_;rintro _ σ3 ⟨⟨b2,rfl,_⟩,rfl⟩;cases b2 with
  |false=>
   simp only[go_sem,Aa,Bool.not_false];exact no hs3 rfl
  |true=>
  simp only[go_sem,Aa,Bool.not_true,hq];refine(Ho r.bo[i].nm).p ?_;cases htx:Ew r.bo[i].nm with
  |false=>
   simp only[go_sem,Aa,htx,Bool.not_false];exact no hs3 rfl
  |true=>
  simp only[go_sem,Aa,htx,Bool.not_true,hq];refine(Wg r.bo[i].ar (by omega)).mono ?_;rintro _ σ3 ⟨⟨b3,rfl,_⟩,rfl⟩;cases b3 with
  |false=>
   simp only[go_sem,Aa,Bool.not_false];exact no hs3 rfl
  |true=>
  simp only[go_sem,Aa,Bool.not_true,f3,As i (by omega)];exact⟨r.bo.length-(i+1),by omega,i+1,rfl,by omega,hs3,hp3,f1,rfl⟩
 ·simp only[go_sem,Aa]
  exact Ad (r:=boo true) rfl _ σ (An hs) ⟨⟨true,rfl,fun _=>hR⟩,rfl⟩
theorem Ahx(me:ByteArray)(names:List ByteArray)(lim:Int)(rs:List Rl)(hn:names.length≤1000000)(hl:rs.length≤1000000)(hr:∀r∈rs,r.S4):AT Tryz.prog 11 [.agg (c7C me names lim rs)] σ fun v σ'=>(∃b:Bool,v=boo b∧(b=true→(∀r∈rs,RlR r)∧∀s∈names,Ew s=true))∧σ'=σ:=by
 refine AT.ob Tryz.func11 rfl ?_;have ho:(c7C me names lim rs).all AV.one=true:=rfl;simp only[go_sem,ho];refine Ctx.nil.alloc fun p σ1 c1=>?_;have hp:=c1.g0;have hs:=c1.sub;clear c1;have no:∀{fr:Fr} {σ':St},(∀y o,σ y=some o→σ' y=some o)→A9 Tryz.prog fr σ' (Tryz.f11).results.toList=some (boo false)→Dw Tryz.prog (fun v σ'=>(∃b:Bool,v=boo b∧(b=true→(∀r∈rs,RlR r)∧∀s∈names,Ew s=true))∧σ'=σ) (Tryz.f11).results.toList fr σ':=fun hs hr=>
  Ad hr _ σ (An hs) ⟨⟨false,rfl,fun h=>by cases h⟩,rfl⟩
 simp only[go_sem];refine⟨fun m fr σ'=>∃i:Nat,m=rs.length-i∧i≤rs.length∧σ'=σ1∧(∀r∈rs.take i,RlR r)∧fr 1=ptr p∧fr 3=int i,⟨_,0,rfl,by omega,rfl,fun t ht=>by simp at ht,rfl,rfl⟩,?_⟩;rintro m fr σ1 ⟨i,rfl,hi,rfl,hI,f1,f3⟩;simp only[go_sem,f1,f3,hp,Ci];refine aIf_by (fun hlt=>?_) (fun hlt=>?_)
 ·have hil:i<rs.length:=by omega
  simp only[go_sem,Aa,f1,f3,hp,Ci,C4 hil];refine⟨by omega,(Ahw rs[i] (hr _ (List.getElem_mem hil))).mono ?_⟩;rintro _ σ1 ⟨⟨b,rfl,hb⟩,rfl⟩;cases b with
  |false=>
   simp only[go_sem,Aa,Bool.not_false];exact no hs rfl
  |true=>
   simp only[go_sem,Aa,Bool.not_true,f3,As i (by omega)]
   exact⟨rs.length-(i+1),by omega,i+1,rfl,by omega,fun t ht=>by
    rw[List.take_add_one,List.getElem?_eq_getElem hil]at ht;rcases List.mem_append.1 ht with h|h
    ·exact hI t h
    ·simp at h;subst h;exact hb rfl,f1,rfl⟩
 ·rw[List.take_of_length_le (by omega)]at hI
  simp only[go_sem,Aa];refine⟨fun m fr σ'=>∃i:Nat,m=names.length-i∧i≤names.length∧σ'=σ1∧(∀s∈names.take i,Ew s=true)∧fr 1=ptr p∧fr 4=int i,⟨_,0,rfl,by omega,rfl,fun t ht=>by simp at ht,f1,rfl⟩,?_⟩;clear f1 f3 hi;rintro m fr σ1 ⟨i,rfl,hi,rfl,hN,f1,f4⟩;simp only[go_sem,f1,f4,hp,Pw];refine aIf_by (fun hlt=>?_) (fun hlt=>?_)
  ·have hil:i<names.length:=by omega
   simp only[go_sem,Aa,f1,f4,hp,Pw,Kr hil];refine⟨by omega,(Ho names[i]).p ?_⟩;cases htx:Ew names[i]with
   |false=>
    simp only[go_sem,Aa,htx,Bool.not_false];exact no hs rfl
   |true=>
    simp only[go_sem,Aa,htx,Bool.not_true,f4,As i (by omega)]
    exact⟨names.length-(i+1),by omega,i+1,rfl,by omega,fun t ht=>by
     rw[List.take_add_one,List.getElem?_eq_getElem hil]at ht;rcases List.mem_append.1 ht with h|h
     ·exact hN t h
     ·simp at h;subst h;exact htx,f1,rfl⟩
  ·rw[List.take_of_length_le (by omega)]at hN
   simp only[go_sem,Aa];exact Ad (r:=boo true) rfl _ σ (An hs) ⟨⟨true,rfl,fun _=>⟨hI,hN⟩⟩,rfl⟩
end
theorem Vq{v:ByteArray}{c:Cn}:∀{e:List Bi},(∀x∈e,Cf x.c=true)→Ex e v=some c→Cf c=true
 | [],_,h=>by cases h
 |x::e,hg,h=>by
  unfold Ex at h;split at h
  ·injection h with h;subst h;exact hg x (by simp)
  ·exact Vq (fun y hy=>hg y (by simp[hy])) h
theorem Abl{t:Tm}{c:Cn}{e e':List Bi}(hg:∀x∈e,Cf x.c=true)(hc:Cf c=true)(h:Bd t c e=some e'):∀x∈e',Cf x.c=true:=by
 unfold Bd at h;split at h
 ·split at h
  ·injection h with h;subst h;exact hg
  ·cases h
 ·split at h
  ·cases h
  ·injection h with h
   subst h;intro x hx;rcases List.mem_append.1 hx with hx|hx
   ·exact hg x hx
   ·rw[List.mem_singleton.1 hx];exact hc
theorem Wj:∀{l:List (Tm×Cn)} {e e':List Bi},(∀x∈e,Cf x.c=true)→(∀p∈l,Cf p.2=true)→Fy l e=some e'→∀x∈e',Cf x.c=true
 | [],e,e',hg,_,h=>by
  unfold Fy at h;injection h with h;subst h;exact hg
 |p::l,e,e',hg,hl,h=>by
  unfold Fy at h;obtain⟨e1,h1,h2⟩:=Option.bind_eq_some_iff.1 h;exact Wj (Abl hg (hl p (by simp)) h1) (fun q hq=>hl q (by simp[hq])) h2
theorem Xh{s:ByteArray}(h:Ew s=true):Cf (nmC s)=true:=by
 unfold Cf nmC;simp[h]
theorem Ahn{f:Fa}(h:okF f=true):Ew f.at'=true∧Ew f.by'=true∧Ew f.pr=true∧f.ar.length≤48∧∀c∈f.ar,Cf c=true:=by
 unfold okF at h;simp only[Bool.and_eq_true,decide_eq_true_eq,List.all_eq_true]at h;obtain⟨⟨⟨⟨h1,h2⟩,h3⟩,h4⟩,h5⟩:=h;exact⟨h1,h2,h3,by omega,h5⟩
theorem Akn{ho:Tm}{l:Li}{f:Fa}{e e':List Bi}(hg:∀x∈e,Cf x.c=true)(hf:okF f=true)(h:Be ho l f e=some e'):∀x∈e',Cf x.c=true:=by
 obtain⟨h1,h2,_,_,h5⟩:=Ahn hf;unfold Be at h;split at h
 ·refine Wj hg (fun p hp=>?_) h
  unfold eqs at hp;rcases List.mem_cons.1 hp with rfl|hp
  ·exact Xh h1
  ·rcases List.mem_append.1 hp with hp|hp
   ·split at hp
    ·cases hp
    ·rw[List.mem_singleton.1 hp];exact Xh h2
   ·exact h5 _ (List.of_mem_zip hp).2
 ·cases h
theorem Y3{ho:Tm}:∀{ls:List Li} {xs:List Fa} {e e':List Bi},(∀x∈e,Cf x.c=true)→(∀f∈xs,okF f=true)→Cy ho ls xs e=some e'→∀x∈e',Cf x.c=true
 | [],[],e,e',hg,_,h=>by
  unfold Cy at h;injection h with h;subst h;exact hg
 | [],_::_,e,e',_,_,h=>by simp[Cy]at h
 |_::_,[],e,e',_,_,h=>by simp[Cy]at h
 |l::ls,x::xs,e,e',hg,hf,h=>by
  unfold Cy at h;obtain⟨e1,h1,h2⟩:=Option.bind_eq_some_iff.1 h;exact Y3 (Akn hg (hf x (by simp)) h1) (fun f hf'=>hf f (by simp[hf'])) h2
theorem Wo{env:List Bi}(hg:∀x∈env,Cf x.c=true):∀{l:List Tm} {a:List Cn},(∀t∈l,TmR t)→Dz l env=some a→∀c∈a,Cf c=true
 | [],a,_,h,c,hc=>by
  unfold Dz at h;injection h with h;subst h;cases hc
 |t::l,a,hl,h,c,hc=>by
  unfold Dz at h;cases hx:C6 t env with
  |none=>rw[hx]at h;cases h
  |some x=>
  rw[hx]at h;obtain⟨b,hb,rfl⟩:=Option.map_eq_some_iff.1 h;rcases List.mem_cons.1 hc with rfl|hc
  ·unfold C6 at hx
   split at hx
   ·cases hx
   ·rename_i hz
    split at hx
    ·rename_i hv
     injection hx with hx;subst hx;exact(hl t (by simp) hv).resolve_left hz
    ·exact Vq hg hx
  ·exact Wo hg (fun t ht=>hl t (by simp[ht])) hb c hc
theorem Aoy{r:Rl}{env:List Bi}{f:Fa}(hr:RlR r)(hg:∀x∈env,Cf x.c=true)(h:C8 r env=some f)(ha:Ew f.at'=true)(hb:Ew f.by'=true):okF f=true:=by
 unfold C8 at h;obtain⟨b,_,h⟩:=Option.bind_eq_some_iff.1 h;obtain⟨a,_,h⟩:=Option.bind_eq_some_iff.1 h;obtain⟨l,hl,rfl⟩:=Option.map_eq_some_iff.1 h;have h1:=P5 hl;have h2:=Wo hg hr.2.2 hl;unfold okF;simp only at ha hb⊢;rw[ha,hb,hr.1];simp only[Bool.true_and,Bool.and_eq_true,decide_eq_true_eq,List.all_eq_true];exact⟨by have:=hr.2.1;omega,h2⟩
theorem Aak{ho:Tm}{m:List Fa}:∀{ls:List Li} {e e':List Bi},e'∈lvE ho m ls e→∃k,e'=e++k
 | [],e,e',h=>⟨[],by simpa[lvE]using h⟩
 |l::ls,e,e',h=>by
  unfold lvE at h;obtain⟨x,_,hx⟩:=List.mem_flatMap.1 h;split at hx
  ·rename_i e1 h1
   obtain⟨k1,rfl⟩:=Tv h1;obtain⟨k2,rfl⟩:=Aak hx;exact⟨k1++k2,by rw[List.append_assoc]⟩
  ·cases hx
theorem Aaq{names:List ByteArray}{m:List Fa}{r:Rl}{h:ByteArray}{f:Fa}(hf:f∈Pj names m r h):f.by'=h∧f.at'∈names:=by
 unfold Pj at hf;split at hf
 ·rename_i env hu
  obtain⟨e,he,hh⟩:=List.mem_filterMap.1 hf;obtain⟨k,rfl⟩:=Aak he;have hv:C6 r.ho (env++k)=some (nmC h):=P4 (Sc hu);have hn:Eh r.ho (env++k)=some h:=H3 hv rfl;unfold hdN at hh;split at hh
  ·rename_i g hg
   split at hh
   ·rename_i hin
    injection hh with hh;subst hh;refine⟨?_,hin⟩;unfold C8 at hg;obtain⟨b,hb,hg⟩:=Option.bind_eq_some_iff.1 hg;obtain⟨a,_,hg⟩:=Option.bind_eq_some_iff.1 hg;obtain⟨l,_,rfl⟩:=Option.map_eq_some_iff.1 hg;rw[hn]at hb;injection hb with hb;exact hb.symm
   ·cases hh
  ·cases hh
 ·cases hf
theorem Aap{homes names:List ByteArray}{rs:List Rl}{m:List Fa}{f:Fa}(hf:f∈Ls homes names rs m):f.by'∈homes∧f.at'∈names:=by
 rcases(Ar Ah).1 hf with hf|hf
 ·obtain⟨r,_,hf⟩:=List.mem_flatMap.1 hf
  obtain⟨h,hh,hf⟩:=List.mem_flatMap.1 hf;obtain⟨h1,h2⟩:=Aaq hf;exact⟨by rw[h1];exact hh,h2⟩
 ·cases hf
theorem Aaj{ho:Tm}{m z:List Fa}(hm:∀x∈m,x∈z):∀{ls:List Li} {e e':List Bi},e'∈lvE ho m ls e→e'∈lvE ho z ls e
 | [],e,e',h=>h
 |l::ls,e,e',h=>by
  unfold lvE at h⊢;obtain⟨x,hx,hx2⟩:=List.mem_flatMap.1 h;refine List.mem_flatMap.2 ⟨x,hm x hx,?_⟩;split at hx2
  ·exact Aaj hm hx2
  ·cases hx2
theorem Ac2{homes names:List ByteArray}{rs rs':List Rl}{m z:List Fa}(hr:∀r∈rs,r∈rs')(hm:∀x∈m,x∈z):∀x∈Ls homes names rs m,x∈Ls homes names rs' z:=fun f hf=>by
 rcases(Ar Ah).1 hf with hf|hf
 ·obtain⟨r,hrr,hf⟩:=List.mem_flatMap.1 hf
  obtain⟨h,hh,hf⟩:=List.mem_flatMap.1 hf;refine(Ar Ah).2 (.inl (List.mem_flatMap.2 ⟨r,hr r hrr,List.mem_flatMap.2 ⟨h,hh,?_⟩⟩));unfold Pj at hf⊢;split at hf
  ·rename_i env hu
   obtain⟨e,he,h1⟩:=List.mem_filterMap.1 hf;exact List.mem_filterMap.2 ⟨e,Aaj hm he,h1⟩
  ·cases hf
 ·cases hf
theorem Aac{b:Fa}:∀{l:List Fa},(A1 Ai b l).length=l.length→b∈l
 | [],h=>by simp[A1]at h
 |x::l,h=>by
  unfold A1 at h;split at h
  ·exact List.mem_cons_of_mem _ (Aac (by simpa using h))
  ·split at h
   ·rename_i h1
    rw[(Ah.zero x b).1 h1];exact List.mem_cons_self
   ·simp at h
theorem Vo:∀{l s:List Fa},(Aw Ai s l).length=s.length→∀y∈l,y∈s
 | [],s,h,y,hy=>by cases hy
 |x::l,s,h,y,hy=>by
  have h1:s.length≤(A1 Ai x s).length:=Acn;have h2:(A1 Ai x s).length≤(Aw Ai (A1 Ai x s) l).length:=R8;have h3:(Aw Ai (A1 Ai x s) l).length=s.length:=h;have hx:=Aac (b:=x) (l:=s) (by omega);rcases List.mem_cons.1 hy with rfl|hy
  ·exact hx
  ·rcases(Cs Ah).1 (Vo (l:=l) (s:=A1 Ai x s) (by omega) y hy)with rfl|h
   ·exact hx
   ·exact h
structure FixP(homes names:List ByteArray)(rs:List Rl)(m x:List Fa):Prop where
 up:B5 Ai x
 le:x.length≤400
 cl:∀y∈Ls homes names rs x,y∈x
 has:∀y∈m,y∈x
 cnt:cntL homes rs x≤900000
 min:∀z:List Fa,(∀y∈Ls homes names rs z,y∈z)→(∀y∈m,y∈z)→∀y∈x,y∈z
 wh:∀y∈x,y∈m∨y.by'∈homes∧y.at'∈names
theorem Aag{homes names:List ByteArray}{rs:List Rl}:∀(n:Nat) {m:List Fa},B5 Ai m→402≤m.length+n→1≤n→OkP homes names rs n m→(leaP homes names rs n m).2=0→FixP homes names rs m (leaP homes names rs n m).1
 |0,m,_,_,h,_,_=>by omega
 |n+1,m,hr,h1,h2,ho,h0=>by
  unfold leaP at h0⊢;unfold OkP at ho;by_cases h3:400<m.length
  ·rw[if_pos h3]at h0;exact absurd h0 (by decide)
  ·rw[if_neg h3]at h0⊢
   obtain⟨hc,ho⟩:=ho (by omega);have e:nxP homes names rs m=Aw Ai m (Ls homes names rs m):=Aab Ah hr;have hge:m.length≤(nxP homes names rs m).length:=by rw[e];exact R8
   by_cases h4:(nxP homes names rs m).length=m.length
   ·rw[if_pos h4]
    refine⟨hr,by simp only;omega,fun y hy=>?_,fun y hy=>hy,hc,fun z _ h y hy=>h y hy,fun y hy=>.inl hy⟩;rw[e]at h4;exact Vo h4 y hy
   ·rw[if_neg h4]at h0⊢
    have hup:B5 Ai (nxP homes names rs m):=by rw[e];exact Bh Ah hr
    have F:=Aag n hup (by omega) (by omega) (ho h4) h0;have hin:∀y∈m,y∈nxP homes names rs m:=fun y hy=>by rw[e];exact(Ar Ah).2 (.inr hy)
    have hnx:∀y∈nxP homes names rs m,y∈Ls homes names rs m∨y∈m:=fun y hy=>by rw[e]at hy;exact(Ar Ah).1 hy
    refine⟨F.up,F.le,F.cl,fun y hy=>F.has y (hin y hy),F.cnt,fun z hz hm y hy=>F.min z hz (fun w hw=>?_) y hy,fun y hy=>?_⟩
    ·rcases hnx w hw with h|h
     ·exact hz w (Ac2 (fun r hr=>hr) hm w h)
     ·exact hm w h
    ·rcases F.wh y hy with h|h
     ·rcases hnx y h with h|h
      ·exact .inr (Aap h)
      ·exact .inl h
     ·exact .inr h
theorem R9{ho:Tm}{z:List Fa}:∀{ls:List Li} {e e':List Bi},e'∈lvE ho z ls e↔∃xs,(∀x∈xs,x∈z)∧Cy ho ls xs e=some e'
 | [],e,e'=>by
  unfold lvE;constructor
  ·intro h
   rw[List.mem_singleton.1 h];exact⟨[],(fun x hx=>by cases hx),rfl⟩
  ·rintro⟨xs,_,h⟩
   cases xs with
   |nil=>unfold Cy at h;injection h with h;subst h;simp
   |cons x xs=>simp[Cy]at h
 |l::ls,e,e'=>by
  unfold lvE;rw[List.mem_flatMap];constructor
  ·rintro⟨x,hx,h⟩
   split at h
   ·rename_i e1 h1
    obtain⟨xs,h2,h3⟩:=R9.1 h;exact⟨x::xs,fun y hy=>by rcases List.mem_cons.1 hy with rfl|hy;exact hx;exact h2 y hy,by unfold Cy;rw[h1];exact h3⟩
   ·cases h
  ·rintro⟨xs,h1,h2⟩
   cases xs with
   |nil=>simp[Cy]at h2
   |cons x xs=>
    unfold Cy at h2;obtain⟨e1,h3,h4⟩:=Option.bind_eq_some_iff.1 h2;refine⟨x,h1 x (by simp),?_⟩;rw[h3];exact R9.2 ⟨xs,fun y hy=>h1 y (by simp[hy]),h4⟩
theorem Tz{me:ByteArray}{names:List ByteArray}{rs:List Rl}{z:List Fa}{f:Fa}:f∈Ls [me] names rs z↔∃r∈rs,∃b,(∀y∈b,y∈z)∧hdE me r b=some f∧f.at'∈names:=by
 unfold Ls Aar;rw[Ar Ah];simp only[List.not_mem_nil,or_false,List.mem_flatMap,List.mem_singleton,exists_eq_left];refine exists_congr fun r=>and_congr Iff.rfl ?_;unfold Pj;cases hu:Bd r.ho (nmC me) []with
 |none=>
  constructor
  ·intro h;cases h
  ·rintro⟨b,_,h,_⟩
   unfold hdE at h;rw[hu]at h;cases h
 |some e0=>
  simp only[List.mem_filterMap];constructor
  ·rintro⟨e1,h1,h2⟩
   obtain⟨b,h3,h4⟩:=R9.1 h1;unfold hdN at h2;split at h2
   ·rename_i g hg
    split at h2
    ·rename_i hn
     injection h2 with h2;subst h2;exact⟨b,h3,by unfold hdE;rw[hu];show(Cy r.ho r.bo b e0).bind (C8 r)=_;rw[h4];exact hg,hn⟩
    ·cases h2
   ·cases h2
  ·rintro⟨b,h1,h2,h3⟩
   unfold hdE at h2;rw[hu]at h2;obtain⟨e1,h4,h5⟩:=Option.bind_eq_some_iff.1 (show(Cy r.ho r.bo b e0).bind (C8 r)=some f from h2);refine⟨e1,R9.2 ⟨b,h1,h4⟩,?_⟩;unfold hdN;rw[h5];simp only;rw[if_pos h3]
theorem Aua{me:ByteArray}{r:Rl}{b:List Fa}{f:Fa}(h:hdE me r b=some f):f.by'=me:=by
 obtain⟨e0,e1,h0,h1,h2⟩:=Ov h;obtain⟨k,rfl⟩:=Y4 h1;have hv:C6 r.ho (e0++k)=some (nmC me):=P4 (Sc h0);have hn:Eh r.ho (e0++k)=some me:=H3 hv rfl;unfold C8 at h2;obtain⟨b,hb,h2⟩:=Option.bind_eq_some_iff.1 h2;obtain⟨a,_,h2⟩:=Option.bind_eq_some_iff.1 h2;obtain⟨l,_,rfl⟩:=Option.map_eq_some_iff.1 h2;rw[hn]at hb;injection hb with hb;exact hb.symm
theorem Asg{me:ByteArray}{names:List ByteArray}{r:Rl}{b:List Fa}{f:Fa}(hr:RlR r)(hn:∀s∈names,Ew s=true)(hm:me∈names)(h:hdE me r b=some f)(hf:f.at'∈names)(hb:∀y∈b,okF y=true):okF f=true:=by
 have hby:=Aua h;obtain⟨e0,e1,h0,h1,h2⟩:=Ov h;have g0:∀x∈e0,Cf x.c=true:=Abl (e:=[]) (fun x hx=>by cases hx) (Xh (hn _ hm)) h0;exact Aoy hr (Y3 g0 hb h1) h2 (hn _ hf) (by rw[hby];exact hn _ hm)
theorem Ase{me:ByteArray}{names:List ByteArray}{rs:List Rl}{G m:List Fa}(F:FixP [me] names rs G m)(hr:∀r∈rs,RlR r)(hn:∀s∈names,Ew s=true)(hm:me∈names)(hG:∀f∈G,okF f=true):∀f,f∈m↔LM me names rs G f:=by
 have okL:∀{f},LM me names rs G f→okF f=true:=fun{f} h=>by
  cases h with
  |base h=>exact hG _ h
  |step h _=>obtain⟨_,_,_,_,_,h⟩:=h;exact h
 intro f;constructor
 ·intro hf
  have key:∀y∈m,y∈m.filter fun y=>@decide (LM me names rs G y) (Classical.propDecidable _):=F.min _ (fun y hy=>?_) (fun y hy=>?_)
  ·have:=(List.mem_filter.1 (key f hf)).2
   simpa using this
  ·obtain⟨r,hrm,b,hb,h1,h2⟩:=Tz.1 hy
   refine List.mem_filter.2 ⟨F.cl y (Tz.2 ⟨r,hrm,b,fun z hz=>(List.mem_filter.1 (hb z hz)).1,h1,h2⟩),?_⟩;have hbl:∀z∈b,LM me names rs G z:=fun z hz=>by
    have:=(List.mem_filter.1 (hb z hz)).2;simpa using this
   obtain⟨i,hi,e⟩:=List.mem_iff_getElem.1 hrm;have hok:=Asg (hr r hrm) hn hm h1 h2 fun z hz=>okL (hbl z hz);have hd:Der me names rs ⟨i,y,b⟩:=⟨i,hi,rfl,by rw[e];exact h1,h2,hok⟩;have:=LM.step hd hbl;simpa using this
  ·refine List.mem_filter.2 ⟨F.has y hy,?_⟩
   have:=LM.base (me:=me) (names:=names) (rs:=rs) hy;simpa using this
 ·intro h
  induction h with
  |base h=>exact F.has _ h
  | @step d hd _ ih=>
   obtain⟨i,hi,_,h1,h2,_⟩:=hd;exact F.cl _ (Tz.2 ⟨rs[i],List.getElem_mem hi,d.bo,ih,h1,h2⟩)
theorem Q2{p:Fa→Bool}{l:List Fa}(h:B5 Ai l):B5 Ai (l.filter p):=h.filter p
theorem Ag7{me:ByteArray}{names:List ByteArray}{rs:List Rl}{s:ES}{m:List Fa}(h:Inv s)(hq:s.queue=[])(e1:s.me=me)(e2:s.names=names)(e3:s.rules=rs)(hT:B5 Ai s.T)(F:FixP [me] names rs (Aw Ai [] s.given) m)(hr:∀r∈rs,RlR r)(hn:∀s∈names,Ew s=true)(hm:me∈names):
  s.T=m.filter (fun y=>decide (y.at'=me))∧M3 s=m.filter fun y=>!decide (y.at'=me):=by
 have hG:∀f∈Aw Ai [] s.given,okF f=true:=fun f hf=>by
  rw[Ar Ah]at hf;exact(h.gme f (by simpa using hf)).2
 have L:=Ase F hr hn hm hG;obtain⟨k1,k2⟩:=Aj8 h hq;rw[e1,e2,e3]at k1 k2;have same:∀f,LM me names rs (Aw Ai [] s.given) f↔LM me names rs s.given f:=fun f=>
  ⟨fun h=>h.mono fun y hy=>by rw[Ar Ah]at hy;simpa using hy,fun h=>h.mono fun y hy=>(Ar Ah).2 (.inl hy)⟩
 constructor
 ·refine D2 Ah hT (Q2 F.up) fun y=>?_
  rw[k1,←same,←L,List.mem_filter];simp
 ·refine D2 Ah ?_ (Q2 F.up) fun y=>?_
  ·unfold M3 hdsF
   exact Q2 (Bh Ah .nil)
  ·have hx:y∈M3 s↔y.at'≠me∧∃d∈s.B,d.hd=y:=by
    unfold M3 hdsF;rw[List.mem_filter,Ar Ah,e1];simp only[List.not_mem_nil,or_false,List.mem_map,Bool.not_eq_true',decide_eq_false_iff_not];exact and_comm
   rw[hx,k2,←same,←L,List.mem_filter];simp
theorem Om{p:Fa→Bool}{l:List Fa}{i:Nat}(h:i<l.length):(l.take (i+1)).filter p=(l.take i).filter p++(if p l[i]=true then[l[i]]else[]):=by
 rw[List.take_add_one,List.getElem?_eq_getElem h,List.filter_append];by_cases e:p l[i]=true
 ·rw[if_pos e];simp[e]
 ·rw[if_neg e];simp[e]
section
variable{σ:St}
theorem An2(me:ByteArray)(names:List ByteArray)(lim:Int)(rs:List Rl)(G:List Fa)(hr:∀r∈rs,r.S4)(hn:names.length≤1000000)(hl:rs.length≤1000)(hG:G.length≤1000000)(hGs:∀f∈G,f.Sm):
  AT Tryz.prog 14 [.agg (c7C me names lim rs),.sl 4 (faC G)] σ fun v σ'=>∃(m:List Fa) (b:Bool),v= .tup [.sl 4 (faC (m.filter fun y=>decide (y.at'=me))),.sl 4 (faC (m.filter fun y=>!decide (y.at'=me))),boo b]∧(b=true→FixP [me] names rs (Aw Ai [] G) m)∧m.length≤400∧(∀f∈m,f.Sm)∧σ'=σ:=by
 refine AT.ob Tryz.func14 rfl ?_;have ho:(c7C me names lim rs).all AV.one=true:=rfl;simp only[go_sem,ho];refine Ctx.nil.alloc fun p σ1 c1=>?_;have hp:=c1.g0;simp only[go_sem,hp];refine c1.alloc fun q σ2 c2=>?_;have hp2:=c2.g1.1.2;have hq2:=c2.g1.1.1;have hs2:=c2.sub;have hqp:q≠p:=c2.g1.2.1;have fq:σ q=none:=c2.f0;have fp:σ p=none:=c2.f1;clear c1 c2;simp only[go_sem,hp2];have hv:SV σ2 (σ2.set q (.cells (wC [me] names 0))):=Ks hq2 (show VWs _ _ [.fsl 1 [[str me]],.sl 1 (stC names),int 0,boo false] (wC [me] names 0)from vws_cons (LAt.full.vw_same fun z hz=>absurd hz A3) (Bu _)) fun y o _ hy=>hy;have hrl2:rs.length*1≤100000:=by omega
 refine(AT.pre (Acr [me] names rs G hr (by simp) hn hl hG hGs (σ:=σ2.set q (.cells (wC [me] names 0))) Ab) (by kernel_rfl) hv (Bu _)).mono ?_;rintro _ σ3 ⟨rfl,e3⟩;rw[Ct]at e3;have hsame:=Aah [me] names rs hrl2 402 (Aw Ai [] G) 0 (Bh Ah .nil)
 obtain⟨hR2,hR3⟩:=Ae6 (homes:=[me]) (names:=names) hr 402 (m:=Aw Ai [] G) (d:=0) (fun f hf=>by
  rcases(Ar Ah).1 hf with h|h
  ·exact hGs f h
  ·cases h)
 revert hsame hR2 hR3 e3;generalize K3 [me] names rs 402 (Aw Ai [] G) 0=R;obtain⟨m,e,d⟩:=R;intro e3 hsame hR2 hR3;simp only at hsame hR2 hR3 e3;have h3q:σ3 q=some (.cells (wC [me] names d)):=by rw[e3];exact Ab
 have h3p:σ3 p=some (.cells (c7C me names lim rs)):=by rw[e3,Ag hqp.symm];exact hp2
 have hs3:∀y o,σ y=some o→σ3 y=some o:=fun y o hy=>by
  rw[e3,Ag (fun e=>by rw[e,fq]at hy;cases hy)];exact hs2 y o hy
 clear e3 hv hp2 hq2 hs2 hp;have fl:=Aj m;simp only[go_sem];refine⟨fun mm fr σ'=>∃(i:Nat) (lo lx:AV),mm=m.length-i∧i≤m.length∧LAt 4 σ' lo (faC ((m.take i).filter fun y=>decide (y.at'=me)))∧LAt 4 σ' lx (faC ((m.take i).filter fun y=>!decide (y.at'=me)))∧Cg σ3 σ' lo∧Cg σ3 σ' lx∧(∀y,Own lo y→¬Own lx y)∧fr 2=ptr p∧fr 7=ptr q∧fr 8= .sl 4 (faC m)∧fr 9=int e∧fr 10=lo∧fr 11=lx∧fr 12=int i,⟨_,0,A4,A4,rfl,by omega,.none,.none,.nil,.nil,fun y ho=>absurd ho B4,rfl,rfl,rfl,rfl,rfl,rfl,rfl⟩,?_⟩;rintro mm fr σ4 ⟨i,lo,lx,rfl,hi,hLo,hLx,hGo,hGx,hdj,f2,f7,f8,f9,f10,f11,f12⟩;have hp4:=(hGo _ _ h3p).1;have hq4:=(hGo _ _ h3q).1;simp only[go_sem,f8,f12,fl];refine aIf_by (fun hlt=>?_) (fun hlt=>?_)
 ·have him:i<m.length:=by omega
  have nx:=As i (by omega);simp only[go_sem,Aa];refine Af [.rd 0 false,.rd 1 false,.rd 2 false,.rd 3 false,.rd 4 true,.rd 5 false,.rd 6 true,.rd 7 false] ?_;simp only[go_sem,Aa,f2,f8,f12,hp4,Aq him,fl];refine⟨by omega,?_⟩;by_cases ha:m[i].at'=me
  ·have e1:(m.take (i+1)).filter (fun y=>decide (y.at'=me))=(m.take i).filter (fun y=>decide (y.at'=me))++[m[i]]:=by rw[Om him,if_pos (by simpa using ha)]
   have e2:(m.take (i+1)).filter (fun y=>!decide (y.at'=me))=(m.take i).filter fun y=>!decide (y.at'=me):=by rw[Om him,if_neg (by simpa using ha),List.append_nil]
   simp only[go_sem,Aa,decide_eq_true ha,f8,f10,f12,Aq him,fl];refine⟨by omega,?_⟩;refine Ap (ys:=[m[i].cs]) rfl (by decide) (by decide) (by decide) (hLo.app (by rw[Aj];have:=List.length_filter_le (fun y:Fa=>decide (y.at'=me)) (m.take i);rw[List.length_take]at this;simp only[List.length_cons,List.length_nil];omega) fun lo' σ5 h5 s5=>?_);rw[show faC ((m.take i).filter fun y=>decide (y.at'=me))++[m[i].cs]=faC ((m.take (i+1)).filter fun y=>decide (y.at'=me)) by rw[e1];simp[faC]]at h5;have hLx5:LAt 4 σ5 lx (faC ((m.take (i+1)).filter fun y=>!decide (y.at'=me))):=by
    rw[e2];exact hLx.keep fun y o hy ho=>(s5 y o hy fun h=>hdj y h ho).1
   simp only[go_sem,Aa,f12,nx]
   exact⟨m.length-(i+1),by omega,i+1,lo',lx,rfl,by omega,h5,hLx5,hGo.step s5,fun y o hy=>⟨(hGo.step s5 y o hy).1,(hGx y o hy).2⟩,fun y h1 h2=>by
    obtain⟨c,hc⟩:=hLx.own_rows h2;exact(s5 y _ hc fun h=>hdj y h h2).2 h1,f2,f7,f8,f9,rfl,f11,rfl⟩
  ·have e1:(m.take (i+1)).filter (fun y=>decide (y.at'=me))=(m.take i).filter fun y=>decide (y.at'=me):=by rw[Om him,if_neg (by simpa using ha),List.append_nil]
   have e2:(m.take (i+1)).filter (fun y=>!decide (y.at'=me))=(m.take i).filter (fun y=>!decide (y.at'=me))++[m[i]]:=by rw[Om him,if_pos (by simpa using ha)]
   simp only[go_sem,Aa,decide_eq_false ha,f8,f11,f12,Aq him,fl];refine⟨by omega,?_⟩;refine Ap (ys:=[m[i].cs]) rfl (by decide) (by decide) (by decide) (hLx.app (by rw[Aj];have:=List.length_filter_le (fun y:Fa=>!decide (y.at'=me)) (m.take i);rw[List.length_take]at this;simp only[List.length_cons,List.length_nil];omega) fun lx' σ5 h5 s5=>?_);rw[show faC ((m.take i).filter fun y=>!decide (y.at'=me))++[m[i].cs]=faC ((m.take (i+1)).filter fun y=>!decide (y.at'=me)) by rw[e2];simp[faC]]at h5;have hLo5:LAt 4 σ5 lo (faC ((m.take (i+1)).filter fun y=>decide (y.at'=me))):=by
    rw[e1];exact hLo.keep fun y o hy ho=>(s5 y o hy (hdj y ho)).1
   simp only[go_sem,Aa,f12,nx]
   exact⟨m.length-(i+1),by omega,i+1,lo,lx',rfl,by omega,hLo5,h5,fun y o hy=>⟨(hGx.step s5 y o hy).1,(hGo y o hy).2⟩,hGx.step s5,fun y h1 h2=>by
    obtain⟨c,hc⟩:=hLo.own_rows h1;exact(s5 y _ hc (hdj y h1)).2 h2,f2,f7,f8,f9,f10,rfl,rfl⟩
 ·rw[List.take_of_length_le (by omega)]at hLo hLx
  have hs4:∀y o,σ y=some o→σ4 y=some o:=fun y o hy=>(hGo y o (hs3 y o hy)).1;have vw:∀b:Bool,Hf σ4 (.tup [lo,lx,boo b]) σ (.tup [.sl 4 (faC (m.filter fun y=>decide (y.at'=me))),.sl 4 (faC (m.filter fun y=>!decide (y.at'=me))),boo b]):=fun b=>
   view_of (Es fun y o hy=>.inl (hs4 y o hy)) (.tup _ _ rfl (vws_cons (hLo.vw_same fun y hy=>by
    cases hc:σ y with
    |none=>rfl
    |some o=>exact absurd hy (hGo y o (hs3 y o hc)).2) (vws_cons (hLx.vw_same fun y hy=>by
    cases hc:σ y with
    |none=>rfl
    |some o=>exact absurd hy (hGx y o (hs3 y o hc)).2) (Bu _))).2)
  by_cases hd:60000<d
  ·have dd:=decide_eq_true hd
   simp only[go_sem,Aa,f7,f9,f10,f11,hq4,dd];exact Ad (r:=.tup [lo,lx,boo false]) rfl _ σ (vw false) ⟨m,false,rfl,(fun h=>by cases h),hR2,hR3,rfl⟩
  ·have dd:=decide_eq_false hd
   obtain⟨k1,k2⟩:=hsame (by omega);simp only[go_sem,Aa,f7,f9,f10,f11,hq4,dd];refine Ad (r:=.tup [lo,lx,boo (decide (e=0))]) rfl _ σ (vw (decide (e=0))) ⟨m,_,rfl,fun h=>?_,hR2,hR3,rfl⟩;have he:e=0:=of_decide_eq_true h;subst he;have F:=Aag 402 (Bh Ah .nil) (by omega) (by omega) k2 (by rw[k1]);rw[k1]at F;exact F
end
section
variable{σ:St}{t b1 b2:Nat}{T:List Fa}{lim:Int}
theorem Qr(h:TB σ t T lim)(hT:TOk T lim)(h1:σ b1=some (.cells [ptr t]))(h2:σ b2=some (.cells [fnv 117])):AT Tryz.prog 18 [Sp b1 b2] σ fun r σ'=>r= .sl 4 (faC T)∧σ'=σ:=by
 have hm:AT Tryz.prog 18 [Sp b1 b2] σ fun r σ'=>LAt 4 σ' r (faC T)∧Cg σ σ' r:=by
  refine AT.ob Tryz.func18 rfl ?_;have tlen:=hT.len;simp only[go_sem];refine Ay fun d hd hdm=>?_;have hI0:=OnI.start hd;obtain⟨σ2,e2⟩:∃s,s=σ.set d (.cells [A4]):=⟨_,rfl⟩;rw[←e2]at hI0⊢;clear e2 hdm;simp only[go_sem,Aa];refine⟨by kernel_rfl,?_⟩;refine Qs (fun fr=>fr 3=ptr d) rfl fun assign body fr hA hB f3=>?_;intro n l hl hlm;have htl:=hI0.none hl;have hsl:∀y o,σ2 y=some o→(σ2.set l (.loop fr n [9] assign body .ready none)) y=some o:=B7 hl fun _ _ h=>h;refine(Q8 (t:=t) (b1:=b1) (b2:=b2) hT (fun i σ'=>OnI σ d (T.take i) σ'∧σ' l=some (.loop fr n [9] assign body .ready none)) ?_ ?_ ?_ ⟨by simpa using hI0.more hsl,Ab⟩).mono ?_
  ·rintro i σ5 ⟨g1,g2⟩
   exact⟨g1.sub h,g1.sub h1,g1.sub h2⟩
  ·rintro i σ5 σ6 ⟨g1,g2⟩ hs
   exact⟨g1.more hs,hs _ _ g2⟩
  ·rintro i σ5 hil ⟨g1,g2⟩
   refine Uw hA g2 rfl (by rw[hA,hB];rfl) ?_;have hbg:=fun k fr1 σ1=>Ww (P:=Tryz.prog) (l:=l) (fr:=fr) (fr1:=fr1) (σ1:=σ1) (ps:=[9]) (n:=n) (assign:=assign) (k:=k) hB;simp only[go_sem];refine Ay fun q hq hqm=>?_;obtain⟨σ6,e6⟩:∃s,s=σ5.set q (.cells T[i].cs):=⟨_,rfl⟩;have hs6:∀y o,σ5 y=some o→σ6 y=some o:=by rw[e6];exact B7 hq fun _ _ h=>h
   have hq6:σ6 q=some (.cells T[i].cs):=by rw[e6];exact Ab
   have g1':=g1.more hs6;have g2':=hs6 _ _ g2;simp only[go_sem,Ab,Ct,←e6,hbg];clear e6 hqm hq g1 g2;refine⟨g2',?_⟩;have g3:=g1'.loop (σ':=σ6.set l (.loop fr n [9] assign body .busy none)) g2' htl fun y hy=>Ag hy;have g4:(σ6.set l (.loop fr n [9] assign body .busy none)) l=some (.loop fr n [9] assign body .busy none):=Ab;have g5:(σ6.set l (.loop fr n [9] assign body .busy none)) q=some (.cells T[i].cs):=by rw[Ag (fun e=>by rw[e,g2']at hq6;cases hq6)];exact hq6
   revert g3 g4 g5;generalize σ6.set l (.loop fr n [9] assign body .busy none)=σ7;intro g3 g4 g5;obtain⟨hd0,lv,k1,k2,k3⟩:=g3;have hld:l≠d:=fun e=>by rw[e,k1]at g4;cases g4
   have nl:¬Own lv l:=fun ho=>by obtain⟨cap,h⟩:=k2.own_rows ho;rw[g4]at h;cases h
   simp only[go_sem,Aa,f3,k1,g5];refine Ap (ys:=[T[i].cs]) rfl (by decide) (by decide) (by decide) (k2.app (by rw[Aj,List.length_take];simp only[List.length_cons,List.length_nil];omega) fun lv' σ8 hL4 hs4=>?_);obtain⟨g6,g7⟩:=OnI.app hd0 k1 k2 k3 hL4 hs4;have m6:=hs4 _ _ g4 nl;simp only[go_sem,Aa,g7,f3,hL4.one,hL4.cells,X5];have g6':(σ8.set d (.cells [lv'])) l=some (.loop fr n [9] assign body .busy none):=by rw[Ag hld];exact m6.1
   have ht:T.take i++[T[i]]=T.take (i+1):=by rw[List.take_add_one,List.getElem?_eq_getElem hil];rfl
   rw[ht]at g6;exact⟨⟨_,g6'⟩,g6.loop (σ':=(σ8.set d (.cells [lv'])).set l (.loop fr n [9] assign body .ready none)) g6' htl (fun y hy=>Ag hy)⟩
  ·rintro _ σ5 ⟨g1,g2⟩
   rw[List.take_of_length_le (by omega)]at g1;have hdel:∀y,y≠l→(σ5.del l) y=σ5 y:=fun y hy=>by simp only[St.del];rw[if_neg hy]
   have g3:=g1.loop g2 htl hdel;unfold Nc;rw[g2];refine⟨(by intro h;cases h),?_⟩;unfold Sj
   dsimp only
   obtain⟨_,lv,k1,k2,k3⟩:=g3;simp only[go_sem,Aa,f3,k1];exact Ae (r:=lv) rfl ⟨k2,k3⟩
 exact hm.post (by kernel_rfl) fun r σ' ⟨h1,h2⟩=>⟨_,_,Gz h1 h2,rfl,rfl⟩
end
section
variable{σ:St}
set_option maxHeartbeats 1600000 in
theorem evalFull_at(hlive:∀σ,AT Tryz.prog 12 [] σ fun r σ'=>r=boo true∧σ'=σ)(me:ByteArray)(names:List ByteArray)(lim:Int)(rs:List Rl)(l:List Fa)(hr1:rs.length≤140737488351232)(hr2:∀r∈rs,r.Wf)(hl:l.length≤140737488351232)(hf:∀f∈l,f.Wf):
  AT Tryz.prog 3 [.agg (c7C me names lim rs),.sl 4 (faC l)] σ fun v σ'=>v=boo true:=by
 refine AT.ob Tryz.func3 rfl ?_;have ho:(c7C me names lim rs).all AV.one=true:=rfl;have fl:=Aj l;simp only[go_sem,ho];refine Ctx.nil.alloc fun p σ1 c1=>?_;have hp:=c1.g0;clear c1;simp only[go_sem];refine⟨fun mm fr σ'=>∃(i:Nat) (la:AV),mm=l.length-i∧i≤l.length∧i≤60∧LAt 5 σ' la (acC (Dq (l.take i)))∧Cg σ1 σ' la∧fr 1= .sl 4 (faC l)∧fr 2=ptr p∧fr 5=la∧fr 6=int i,⟨_,0,A4,rfl,by omega,by omega,.none,.nil,rfl,rfl,rfl,rfl⟩,?_⟩;rintro mm fr σ2 ⟨i,la,rfl,hi,h60,hLa,hGa,f1,f2,f5,f6⟩;have hp2:=(hGa _ _ hp).1;by_cases g:i<l.length∧i<60
 ·have hil:=g.1
  have d1:=decide_eq_true (show(i:Int)<l.length by omega);have d2:=decide_eq_true (show(i:Int)<60 by omega);simp only[go_sem,Aa,f1,f5,f6,fl,d1,d2,Aq hil];refine⟨by omega,?_⟩;refine Ap (ys:=[Ac.cs ⟨0,l[i]⟩]) rfl (by decide) (by decide) (by decide) (hLa.app (by rw[Dj,Pl,List.length_take];simp only[List.length_cons,List.length_nil];omega) fun la' σ3 h3 s3=>?_);rw[show acC (Dq (l.take i))++[Ac.cs ⟨0,l[i]⟩]=acC (Dq (l.take (i+1))) by rw[List.take_add_one,List.getElem?_eq_getElem hil];unfold acC Dq;rw[List.map_append,List.map_append];rfl]at h3;simp only[go_sem,Aa,f6,As i (by omega)];exact⟨l.length-(i+1),by omega,i+1,la',rfl,by omega,by omega,h3,hGa.step s3,f1,f2,rfl,rfl⟩
 have no:∀{fr:Fr} {σ':St},A9 Tryz.prog fr σ' (Tryz.f3).results.toList=some (boo true)→Dw Tryz.prog (fun v σ'=>v=boo true) (Tryz.f3).results.toList fr σ':=fun hr=>Ae hr rfl;by_cases g1:60≤l.length
 ·have d0:=decide_eq_true (show(60:Int)≤l.length by omega)
  have d2:=decide_eq_false (show¬(i:Int)<60 by omega);by_cases g2:(i:Int)<l.length
  ·simp only[go_sem,Aa,f1,f6,fl,decide_eq_true g2,d2,d0]
   refine(hlive _).p ?_;simp only[go_sem,Aa];exact no rfl
  ·simp only[go_sem,Aa,f1,f6,fl,decide_eq_false g2,d2,d0]
   refine(hlive _).p ?_;simp only[go_sem,Aa];exact no rfl
 obtain rfl:i=l.length:=by omega
 have d0:=decide_eq_false (show¬(60:Int)≤l.length by omega);have d1:=decide_eq_false (show¬(l.length:Int)<l.length by omega);rw[List.take_of_length_le (Nat.le_refl _)]at hLa;simp only[go_sem,Aa,f1,f2,f5,f6,fl,d1,d0,hp2];have ra:Rd 5 σ2 la (acC (Dq l)):=.of hLa;refine(Ag3 me names lim rs (Dq l) ⟨hr1,hr2,by rw[Pl];omega,fun a ha=>by obtain⟨f,h,rfl⟩:=Ak0.1 ha;exact hf f h⟩ ra).mono ?_;rintro _ σ3 ⟨⟨b1,rfl,hb1⟩,rfl⟩;cases b1 with
 |false=>
  simp only[go_sem,Aa,Bool.not_false];refine(hlive _).p ?_;simp only[go_sem,Aa];exact no rfl
 |true=>
 have hS:=hb1 rfl;have rl80:=hS.rl;have nm8:=hS.nm;simp only[go_sem,Aa,Bool.not_true,f2,hp2];refine(Ahx me names lim rs (by omega) (by omega) hS.rs).mono ?_;rintro _ σ3 ⟨⟨b1,rfl,hb3⟩,rfl⟩;cases b1 with
 |false=>
  simp only[go_sem,Aa,Bool.not_false];refine(hlive _).p ?_;simp only[go_sem,Aa];exact no rfl
 |true=>
 obtain⟨hR,hN⟩:=hb3 rfl;by_cases c1:lim<1
 ·simp only[go_sem,Aa,Bool.not_true,f2,hp2,decide_eq_true c1]
  refine(hlive _).p ?_;simp only[go_sem,Aa];exact no rfl
 by_cases c2:20<lim
 ·simp only[go_sem,Aa,Bool.not_true,f2,hp2,decide_eq_false c1,decide_eq_true c2]
  refine(hlive _).p ?_;simp only[go_sem,Aa];exact no rfl
 simp only[go_sem,Aa,Bool.not_true,f2,f5,hp2,decide_eq_false c1,decide_eq_false c2];refine(Asw me names lim rs (Dq l) hS ra).mono ?_;rintro _ σ4 (⟨rfl,hs4⟩|⟨x,a,y,b,rfl,Fn,B,F4⟩)
 ·simp only[go_sem,Aa,Bool.not_false]
  refine(hlive _).p ?_;simp only[go_sem,Aa];exact no rfl
 obtain⟨fD,t,et,tlen,tris,tsub,tfull,tlike⟩:=Aj1 Fn (by omega) (show 1≤lim by omega) (by omega);obtain⟨s,hs⟩:∃s,s=M4 me names rs (Dq l):=⟨_,rfl⟩;rw[←hs]at Fn B tsub tfull tlike;have hp4:=(F4 _ _ hp2).1;have hy:=B.ey.cx;have hgv:=B.ey.gsl;have gl:=Fn.gl;have tok:=Fn.ok.tok;have tl:=tok.len;simp only[go_sem,Aa,Bool.not_true];refine Af [.rd 0 true,.rd 1 false,.rd 2 false,.rd 3 false,.rd 4 true,.ef 5 [],.rd 6 false,.rd 7 false,.rd 8 false,.rd 9 false,.rd 10 false,.rd 11 false,.rd 12 false] ?_;simp only[go_sem,Aa,f2,hp4,hy,hgv];refine(An2 me names lim rs s.given hS.rs (by omega) (by omega) (by omega) Fn.ok.gs).mono ?_;rintro _ σ3 ⟨m,b3,rfl,hF,hm1,hm2,rfl⟩;cases b3 with
 |false=>
  simp only[go_sem,Aa,Bool.not_false];refine(hlive _).p ?_;simp only[go_sem,Aa];exact no rfl
 |true=>
 obtain⟨e1,e2⟩:=Ag7 Fn.inv Fn.q Fn.eme Fn.enames Fn.erules tok.rises (hF rfl) hR hN Fn.nm;rw[←e1,←e2];have hb:¬K0 rs:=by have:=Fn.inv.good;rw[Fn.erules]at this;exact this
 simp only[go_sem,Aa,Bool.not_true,f2,hp4];refine(Xc me names lim rs (by omega) (by omega) hS.rs).mono ?_;rintro _ σ5 (⟨_,hbad,_⟩|⟨_,_,k1,k2,x,a,rfl,E5,F5⟩)
 ·exfalso
  rcases hbad with h|h|h
  ·exact h Fn.nm
  ·exact hb h
  ·exact h (by omega)
 obtain⟨hp5,np5⟩:=F5 _ _ hp4;have O0:SOk (2*rs.length) (Ch me names lim rs):=by
  have:=Ux (n:=0) (me:=me) (rules:=rs) (Lk (me:=me) (names:=names) (by omega) (by omega) hS.rs (by omega) (by omega)) rs.length;rw[Nat.zero_add]at this;exact this
 have gz:(Ch me names lim rs).given.length=0:=by rw[(Ahb me names lim rs).1];rfl
 simp only[go_sem,Aa];refine⟨fun mm fr σ'=>∃(i:Nat) (a':EA) (s':ES),mm=l.length-i∧i≤l.length∧s'=C2 (Dq (l.take i)) (Ch me names lim rs)∧EV false σ' x a' s' false∧SOk (2*rs.length+i) s'∧s'.given.length≤i∧σ' p=some (.cells (c7C me names lim rs))∧¬Bo x a' p∧fr 1= .sl 4 (faC l)∧fr 2=ptr p∧fr 10= .sl 4 (faC s.T)∧fr 13=ptr x∧fr 15=int i,⟨_,0,a,_,rfl,by omega,rfl,E5,O0,by show(Ch me names lim rs).given.length≤0;omega,hp5,np5,f1,f2,rfl,rfl,rfl⟩,?_⟩;clear E5 hp5 np5 F5 hp4 F4 hy hgv B f1 f2 f5 f6;rintro mm fr σ6 ⟨i,a,s',rfl,hi,hs',hE,hO,hg,hp6,np6,f1,f2,f10,f13,f15⟩;by_cases g:i<l.length
 ·have d1:=decide_eq_true (show(i:Int)<l.length by omega)
  simp only[go_sem,Aa,f1,f13,f15,fl,d1,Aq g];refine⟨by omega,(Nj hE hO (by omega) l[i]).mono ?_⟩;rintro _ σ7 ⟨rfl,a2,E2,F2⟩;have hr:(Dp s' l[i]).2=C2 (Dq (l.take (i+1))) (Ch me names lim rs):=by
   have:Dq (l.take (i+1))=Dq (l.take i)++[⟨0,l[i]⟩]:=by rw[List.take_add_one,List.getElem?_eq_getElem g];unfold Dq;rw[List.map_append];rfl
   rw[this];unfold C2;rw[List.foldl_append,hs'];rfl
  obtain⟨o1,o2⟩:=R7 (f:=l[i]) hO hg (by omega);obtain⟨q1,q2⟩:=F2 _ _ hp6 np6;simp only[go_sem,Aa,f15,As i (by omega)];exact⟨l.length-(i+1),by omega,i+1,a2,_,rfl,by omega,hr,E2,o1,o2,q1,q2,f1,f2,f10,f13,rfl⟩
 have d1:=decide_eq_false (show¬(i:Int)<l.length by omega);rw[List.take_of_length_le (by omega)]at hs';have sr:s'.rules=rs:=by rw[hs'];exact(H5 _ _).rules.trans (show(Ch me names lim rs).rules=rs from(Ep me rs (Lj me names lim rs) rs.length).rules)
 have lt:Cr s'.rules s'.rules.length≤80:=by rw[sr];exact hS.lt
 rw[←hs']at fD et;obtain⟨j1,_,_⟩:=W4 400 hO lt fD;simp only[go_sem,Aa,f1,f13,f15,fl,d1];refine(Vi hE hO lt 400 (by omega) fD).mono ?_;rintro _ σ7 ⟨a2,E2,F2⟩;obtain⟨hp7,np7⟩:=F2 _ _ hp6 np6;rw[←et]at E2 j1;have tk:=j1.tok;have tn:=tk.len;simp only[go_sem,Aa,f13];refine(Qk E2).mono ?_;rintro _ σ8 ⟨b1,b2,rfl,c4⟩;have E8:=E2.more c4.sub;obtain⟨⟨k1',k2'⟩,_⟩:=c4.g1;have hp8:=c4.sub _ _ hp7;have htx:TB σ8 a2.t t.T t.lim:=E8.ct;simp only[go_sem,Aa];refine(Qr htx tk k2' k1').p ?_;have dl:=decide_eq_true tlen;have fT:=Aj t.T;have fS:=Aj s.T;have hz:Aw Ai [] (t.T.filter fun y=>!decide (y∈s.T))=[]:=by
  rw[List.filter_eq_nil_iff.2 (fun y hy=>by simpa using tsub y hy)];rfl
 simp only[go_sem,Aa];refine Af [.rd 0 false,.rd 1 false,.rd 2 false,.rd 3 true,.rd 4 false,.rd 5 false,.rd 6 false,.rd 7 false,.ef 8 [],.rd 9 false,.rd 10 false,.rd 11 false,.rd 12 false,.rd 13 false,.rd 15 false,.rd 16 false,.rd 17 false,.rd 18 true,.rd 19 false,.ef 14 [18],.rd 20 false,.rd 21 false,.rd 22 false,.rd 23 false,.ef 24 [],.rd 25 false,.rd 26 false,.rd 27 false,.ef 28 [],.rd 29 false,.rd 30 false,.rd 31 false,.ef 32 [],.rd 33 false,.rd 34 false] ?_;simp only[go_sem,Aa,f2,f10,f13,hp8,fT,fS,dl];refine(Ahg t.T s.T (by omega) tk.sm (by omega) tok.sm).mono ?_;rintro r σ8 ⟨hW,rfl⟩;rw[hz]at hW;have z0:(faC []).length=0:=rfl;rcases hW with rfl|⟨rfl,_⟩
 case' inl=>simp only[go_sem,Aa,z0,f2,f10,f13,hp8,fS]
 case' inr=>simp only[go_sem,Aa,f2,f10,f13,hp8,fS]
 all_goals
  refine(Zy E8).p ?_;simp only[go_sem,Aa,tfull,f2,f10,f13,hp8,fS,decide_true];refine(Zy E8).p ?_;cases hb:t.full with
  |true=>
   simp only[go_sem,Aa];refine(hlive _).p ?_;simp only[go_sem,Aa];exact no rfl
  |false=>
   have e:t.T=s.T:=tlike.resolve_left (by rw[hb];decide);simp only[go_sem,Aa,f10];rw[e];refine(Akh (a:=s.T) (b:=s.T) .sl .sl (by omega) tok.sm (by omega) tok.sm).p ?_;simp only[go_sem,Aa,decide_true];refine(hlive _).p ?_;simp only[go_sem,Aa];exact no rfl
end
def txA:ByteArray:=⟨#[97]⟩
def tmX:Tm:=⟨⟨#[88]⟩,false,0,emp⟩
def rlA:Rl:=⟨⟨⟨#[65]⟩,false,0,emp⟩,⟨#[112]⟩,[tmX],.zero,[⟨.zero,⟨#[113]⟩,[tmX],.zero⟩]⟩
def faA:Fa:=⟨txA,txA,⟨#[113]⟩,[⟨true,1,emp⟩]⟩
def fpA:Fa:=⟨txA,txA,⟨#[112]⟩,[⟨true,1,emp⟩]⟩
def liv(T:List Fa)(B:List De)(g q:List Fa):ES:=⟨txA,[txA],[rlA],T,9,B,g,q,[],false⟩
def deA:De:=⟨0,fpA,[faA]⟩
theorem Aq4:Ch txA [txA] 9 [rlA]=liv [] [] [] []:=by kernel_rfl
theorem Akp:Dp (liv [] [] [] []) faA=(0,liv [] [] [faA] [faA]):=by kernel_rfl
theorem Akq:A5 (liv [] [] [faA] [faA])=(true,liv [faA] [deA] [faA] [fpA]):=by kernel_rfl
theorem Akr:A5 (liv [faA] [deA] [faA] [fpA])=(true,liv [fpA,faA] [deA] [faA] []):=by kernel_rfl
theorem Aq5:Gr (liv [fpA,faA] [deA] [faA] []) faA=(0,liv [] [] [] []):=by kernel_rfl
theorem Afa:Hv (liv [] [] [faA] [faA]):=fun _ f q hq _ _ i hi j hj=>by
 injection hq with e1 e2;subst e1;obtain rfl:i=0:=by have:i<1:=hi;omega
 obtain rfl:j=0:=by have:j<1:=hj;omega
 exact Nat.le_of_ble_eq_true (by kernel_rfl)
theorem Afb:Hv (liv [faA] [deA] [faA] [fpA]):=fun _ f q hq _ _ i hi j hj=>by
 injection hq with e1 e2;subst e1;obtain rfl:i=0:=by have:i<1:=hi;omega
 obtain rfl:j=0:=by have:j<1:=hj;omega
 exact Nat.le_of_ble_eq_true (by kernel_rfl)
theorem Alr:∀r∈[rlA],r.S4:=fun r hr=>by
 rw[List.mem_singleton.1 hr];exact⟨⟨by decide,fun l hl=>by rw[List.mem_singleton.1 hl];decide⟩,by decide⟩
theorem Acu:SOk 2 (liv [] [] [] []):=by
 rw[←Aq4];exact Ux (n:=0) (Lk (by omega) (by omega) Alr (by decide) (by decide)) 1
theorem Aks:SOk 3 (liv [] [] [faA] [faA]):=by
 have:=(R7 (f:=faA) (g:=0) Acu (Nat.le_refl _) (by decide)).1;rw[Akp]at this;exact this
theorem Akt:SOk 60005 (liv [faA] [deA] [faA] [fpA]):=by
 have:=Uf Aks Afa;rw[Akq]at this;exact this
theorem Aku:SOk 120007 (liv [fpA,faA] [deA] [faA] []):=by
 have:=Uf Akt Afb;rw[Akr]at this;exact this
theorem Asm:SOk 120007 (liv [] [] [] []):=Acu.le (by decide)
section
variable{σ:St}
theorem elive_at(hp:∀σ,AT Tryz.prog 42 [str ⟨#[65,58,32,112,40,88,41,32,58,45,32,113,40,88,41,46]⟩] σ fun r σ'=>r= .tup [.sl 11 (rlC [rlA]),int 0,int 0]∧σ'=σ):AT Tryz.prog 12 [] σ fun r σ'=>r=boo true∧σ'=σ:=by
 refine AT.ob Tryz.func12 rfl ?_;simp only[go_sem];refine(hp σ).p ?_;simp only[go_sem];have hnew:=Xc (σ:=σ) txA [txA] 9 [rlA] (by decide) (by decide) Alr;refine(AT.weak hnew (show VWs σ σ [str txA,.fsl 1 [[str txA]],int 9,.sl 11 (rlC [rlA])] [str txA,.sl 1 (stC [txA]),int 9,.sl 11 (rlC [rlA])]from vws_same Ou)).mono ?_;rintro _ σ1 (⟨rfl,hbad,hs3⟩|⟨_,_,_,_,x,a,rfl,E1,F1⟩)
 ·rcases hbad with h|h|h
  ·exact absurd (List.mem_singleton.2 rfl) h
  ·obtain⟨r,hr,y,hy,hne⟩:=h
   rw[List.mem_singleton.1 hr]at hy;rw[List.mem_singleton.1 hy]at hne;exact absurd rfl hne
  ·exact absurd ⟨by omega,by omega⟩ h
 rw[Aq4]at E1;simp only[go_sem];clear hnew;refine Ay fun q hq _=>?_;have nq:¬Bo x a q:=fun hf=>by obtain⟨o,ho⟩:=Ig E1 hf;rw[hq]at ho;cases ho
 have sq:σ q=none:=Df (fun y o hy=>(F1 y o hy).1) hq;simp only[go_sem,Ab,Ct];have hvw:∀{τ τ':St},VWs τ τ' [str txA,str txA,str ⟨#[113]⟩,.fsl 3 [[boo true,int 1,str emp]]] faA.cs:=fun{τ τ'}=>
  vws_same (vws_same (vws_same (vws_cons (LAt.full.vw_same fun z hz=>absurd hz A3) By)))
 have sv:SV (σ1.set q (.cells [str txA,str txA,str ⟨#[113]⟩,.fsl 3 [[boo true,int 1,str emp]]])) (σ1.set q (.cells faA.cs)):=Ks (o:=.cells [str txA,str txA,str ⟨#[113]⟩,.fsl 3 [[boo true,int 1,str emp]]]) Ab hvw fun y o hy ho=>by rw[Ag hy];exact ho
 have E2:EV false (σ1.set q (.cells faA.cs)) x a (liv [] [] [] []) false:=E1.more (B7 hq fun _ _ h=>h);have hq2:(σ1.set q (.cells faA.cs)) q=some (.cells faA.cs):=Ab;have F2:∀y o,σ y=some o→(σ1.set q (.cells faA.cs)) y=some o:=fun y o hy=>by rw[Ag fun e=>by rw[e,sq]at hy;cases hy];exact(F1 y o hy).1
 have hsm:faA.Sm:=by show([⟨true,1,emp⟩]:List Cn).length≤_;simp
 refine(AT.pre (Nj E2 Acu (by decide) faA) (by kernel_rfl) sv (vws_same (vws_cons (.agg [str txA,str txA,str ⟨#[113]⟩,.fsl 3 [[boo true,int 1,str emp]]] faA.cs rfl hvw.2) By))).mono ?_;generalize σ1.set q (.cells faA.cs)=σ2 at hq2 F2;rintro _ σ3 ⟨rfl,a3,E3,G3⟩;have q3:=G3 _ _ hq2 nq;have F3:∀y o,σ y=some o→σ3 y=some o∧¬Bo x a3 y:=fun y o hy=>G3 _ _ (F2 y o hy) (F1 y o hy).2;rw[Akp]at E3;simp only[go_sem,Akp];refine(Oj E3 Aks (by decide) Afa).mono ?_;rintro _ σ4 ⟨rfl,a4,E4,G4⟩;have q4:=G4 _ _ q3.1 q3.2;have F4:∀y o,σ y=some o→σ4 y=some o∧¬Bo x a4 y:=fun y o hy=>G4 _ _ (F3 y o hy).1 (F3 y o hy).2;rw[Akq]at E4;simp only[go_sem,Akq,Bool.not_true];refine(Z0 E4).p ?_;have e1:(((liv [faA] [deA] [faA] [fpA]).queue.length:Nat):Int)=1:=rfl;simp only[go_sem,e1];refine(Oj E4 Akt (by decide) Afb).mono ?_;rintro _ σ5 ⟨rfl,a5,E5,G5⟩;have q5:=G5 _ _ q4.1 q4.2;have F5:∀y o,σ y=some o→σ5 y=some o∧¬Bo x a5 y:=fun y o hy=>G5 _ _ (F4 y o hy).1 (F4 y o hy).2;rw[Akr]at E5;simp only[go_sem,Akr,Bool.not_true];refine(Qk E5).mono ?_;rintro _ σ6 ⟨b1,b2,rfl,c6⟩;obtain⟨⟨k2,k1⟩,_⟩:=c6.g1;have E6:=E5.more c6.sub;have q6:=c6.sub _ _ q5.1;have F6:∀y o,σ y=some o→σ6 y=some o∧¬Bo x a5 y:=fun y o hy=>⟨c6.sub _ _ (F5 y o hy).1,(F5 y o hy).2⟩;clear c6;simp only[go_sem];refine(Qr (E6.ct) Aku.tok k1 k2).p ?_;have e2:decide ((((liv [fpA,faA] [deA] [faA] []).T.length:Nat):Int)=2)=true:=rfl;simp only[go_sem,e2,q6];refine(Te E6 Aku (by decide) faA hsm).mono ?_;rintro _ σ7 ⟨rfl,a7,E7,G7⟩;have F7:∀y o,σ y=some o→σ7 y=some o:=fun y o hy=>(G7 _ _ (F6 y o hy).1 (F6 y o hy).2).1;rw[Aq5]at E7;simp only[go_sem,Aq5];refine(Qk E7).mono ?_;rintro _ σ8 ⟨b3,b4,rfl,c8⟩;obtain⟨⟨k4,k3⟩,_⟩:=c8.g1;have E8:=E7.more c8.sub;have F8:∀y o,σ y=some o→σ8 y=some o:=fun y o hy=>c8.sub _ _ (F7 y o hy);simp only[go_sem];refine(Qr (E8.ct) Asm.tok k3 k4).p ?_;have e3:decide ((((liv [] [] [] []).T.length:Nat):Int)=0)=true:=rfl;simp only[go_sem,e3];exact Ad (r:=boo true) rfl _ σ (An F8) ⟨rfl,rfl⟩
end
theorem Atz{n:Nat}{cs:List AV}(h:Ty Tryz.prog (n+3) 86 cs):∃c:Cn,cs=c.cs∧c.Wf:=by
 have hx:=Ul Tryz.underlying86 h;obtain⟨x1,y1,rfl,h1,x2,y2,rfl,h2,x3,y3,rfl,h3,rfl⟩:=hx;obtain⟨b,rfl⟩:=Agf Tryz.underlying4 h1;obtain⟨k,rfl,_⟩:=Adx Tryz.underlying3 h2;obtain⟨s,rfl,hs⟩:=Jh Tryz.underlying9 h3;exact⟨⟨b,k,s⟩,rfl,hs⟩
theorem Ait{n:Nat}:∀(es:List (List AV)),(∀x∈es,Ty Tryz.prog (n+3) 86 x)→∃l:List Cn,es=cnC l∧∀c∈l,c.Wf
 | [],_=>⟨[],rfl,fun x hx=>by cases hx⟩
 |x::es,h=>by
  obtain⟨l,rfl,hl⟩:=Ait es fun y hy=>h y (by simp[hy]);obtain⟨t,rfl,ht⟩:=Atz (h x (by simp));exact⟨t::l,rfl,fun y hy=>by rcases List.mem_cons.1 hy with rfl|hy;exact ht;exact hl y hy⟩
theorem At5{n:Nat}{cs:List AV}(h:Ty Tryz.prog (n+5) 30 cs):∃f:Fa,cs=f.cs∧f.Wf:=by
 have hx:=Ul Tryz.underlying30 h;obtain⟨x1,y1,rfl,h1,x2,y2,rfl,h2,x3,y3,rfl,h3,x4,y4,rfl,h4,rfl⟩:=hx;obtain⟨a,rfl,ha⟩:=Jh Tryz.underlying9 h1;obtain⟨b,rfl,hb⟩:=Jh Tryz.underlying9 h2;obtain⟨p,rfl,hp⟩:=Jh Tryz.underlying9 h3;obtain⟨es,rfl,hl,he⟩:=Uk Tryz.underlying28 h4;obtain⟨ts,rfl,hts⟩:=Ait es he;have e1:Tryz.prog.cellsOf 86=3:=by kernel_rfl
 have e2:Tryz.prog.bytesOf 86=32:=by kernel_rfl
 rw[e1];rw[e2,Hy]at hl;exact⟨⟨a,b,p,ts⟩,rfl,by show ts.length≤_;omega,ha,hb,hp,hts⟩
theorem Ajs{n:Nat}:∀(es:List (List AV)),(∀x∈es,Ty Tryz.prog (n+5) 30 x)→∃l:List Fa,es=faC l∧∀x∈l,x.Wf
 | [],_=>⟨[],rfl,fun x hx=>by cases hx⟩
 |x::es,h=>by
  obtain⟨l,rfl,hl⟩:=Ajs es fun y hy=>h y (by simp[hy]);obtain⟨t,rfl,ht⟩:=At5 (h x (by simp));exact⟨t::l,rfl,fun y hy=>by rcases List.mem_cons.1 hy with rfl|hy;exact ht;exact hl y hy⟩
theorem Ar5{n:Nat}{cs:List AV}(h:Ty Tryz.prog (n+6) 26 cs):∃l:List Fa,cs=[.sl 4 (faC l)]∧l.length*72≤140737488351232∧∀x∈l,x.Wf:=by
 obtain⟨es,rfl,hl,he⟩:=Uk Tryz.underlying26 h;obtain⟨ts,rfl,hts⟩:=Ajs es he;have e1:Tryz.prog.cellsOf 30=4:=by kernel_rfl
 have e2:Tryz.prog.bytesOf 30=72:=by kernel_rfl
 rw[e1];rw[e2,Aj]at hl;exact⟨ts,rfl,by omega,hts⟩
theorem Afz{n:Nat}:∀(es:List (List AV)),(∀x∈es,Ty Tryz.prog (n+7) 92 x)→∃l:List Rl,es=rlC l∧∀x∈l,x.Wf
 | [],_=>⟨[],rfl,fun x hx=>by cases hx⟩
 |x::es,h=>by
  obtain⟨l,rfl,hl⟩:=Afz es fun y hy=>h y (by simp[hy]);obtain⟨t,rfl,ht⟩:=Auo (h x (by simp));exact⟨t::l,rfl,fun y hy=>by rcases List.mem_cons.1 hy with rfl|hy;exact ht;exact hl y hy⟩
theorem Apn{n:Nat}{cs:List AV}(h:Ty Tryz.prog (n+8) 23 cs):∃l:List Rl,cs=[.sl 11 (rlC l)]∧l.length≤140737488351232∧∀x∈l,x.Wf:=by
 obtain⟨es,rfl,hl,he⟩:=Uk Tryz.underlying23 h;obtain⟨ts,rfl,hts⟩:=Afz es he;have e1:Tryz.prog.cellsOf 92=11:=by kernel_rfl
 have e2:1≤Tryz.prog.bytesOf 92:=Nat.le_of_ble_eq_true (by kernel_rfl);rw[e1];rw[Ci]at hl;exact⟨ts,rfl,Nat.le_trans (Nat.le_mul_of_pos_right _ e2) hl,hts⟩
theorem Aga{n:Nat}:∀(es:List (List AV)),(∀x∈es,Ty Tryz.prog (n+1) 9 x)→∃l:List ByteArray,es=stC l
 | [],_=>⟨[],rfl⟩
 |x::es,h=>by
  obtain⟨l,rfl⟩:=Aga es fun y hy=>h y (by simp[hy]);obtain⟨t,rfl,_⟩:=Jh Tryz.underlying9 (h x (by simp));exact⟨t::l,rfl⟩
theorem Apv{n:Nat}{cs:List AV}(h:Ty Tryz.prog (n+2) 22 cs):∃l:List ByteArray,cs=[.sl 1 (stC l)]:=by
 obtain⟨es,rfl,_,he⟩:=Uk Tryz.underlying22 h;obtain⟨ts,rfl⟩:=Aga es he;have e1:Tryz.prog.cellsOf 9=1:=by kernel_rfl
 rw[e1];exact⟨ts,rfl⟩
theorem Atu{n:Nat}{cs:List AV}(h:Ty Tryz.prog (n+9) 25 cs):∃(me:ByteArray) (names:List ByteArray) (lim:Int) (rs:List Rl),cs=c7C me names lim rs∧rs.length≤140737488351232∧∀r∈rs,r.Wf:=by
 have hx:=Ul Tryz.underlying25 h;obtain⟨x1,y1,rfl,h1,x2,y2,rfl,h2,x3,y3,rfl,h3,x4,y4,rfl,h4,rfl⟩:=hx;obtain⟨me,rfl,_⟩:=Jh Tryz.underlying9 h1;obtain⟨names,rfl⟩:=Apv h2;obtain⟨lim,rfl,_⟩:=Adx Tryz.underlying3 h3;obtain⟨rs,rfl,h5,h6⟩:=Apn h4;exact⟨me,names,lim,rs,rfl,h5,h6⟩
theorem c7a_of{a:AV}(ha:TyA Tryz.prog 9 25 a):∃(me:ByteArray) (names:List ByteArray) (lim:Int) (rs:List Rl),a= .agg (c7C me names lim rs)∧rs.length≤140737488351232∧∀r∈rs,r.Wf:=by
 obtain⟨cs,rfl,hx⟩:∃cs,a= .agg cs∧Ty Tryz.prog 9 25 cs:=by
  unfold TyA at ha;rw[Tryz.underlying25]at ha;exact ha
 obtain⟨me,names,lim,rs,rfl,h⟩:=Atu (n:=0) hx;exact⟨me,names,lim,rs,rfl,h⟩
theorem fal9_of{b:AV}(hb:TyA Tryz.prog 9 26 b):∃l:List Fa,b= .sl 4 (faC l)∧l.length≤140737488351232∧∀x∈l,x.Wf:=by
 have hb':Ty Tryz.prog 9 26 [b]:=by
  unfold TyA at hb;rw[Tryz.underlying26]at hb;exact hb
 obtain⟨l,e,h1,h2⟩:=Ar5 (n:=3) hb';obtain rfl:b= .sl 4 (faC l):=by simpa using e
 exact⟨l,rfl,by omega,h2⟩
def te3:TE:=⟨⟨false,1,[.int .i64 0],.int .i64⟩,false,false,false,false,false,true,none⟩
theorem Aus:Gl Tryz.prog 3 te3:=⟨by kernel_rfl,by kernel_rfl,by kernel_rfl,by kernel_rfl,by kernel_rfl,by kernel_rfl,by kernel_rfl,fun ls h=>by cases h⟩
def te5:TE:=⟨⟨false,1,[.int .u8 0],.int .u8⟩,false,false,false,false,false,true,none⟩
theorem Aut:Gl Tryz.prog 5 te5:=⟨by kernel_rfl,by kernel_rfl,by kernel_rfl,by kernel_rfl,by kernel_rfl,by kernel_rfl,by kernel_rfl,fun ls h=>by cases h⟩
def te9:TE:=⟨⟨false,1,[.string ⟨#[]⟩],.str⟩,false,false,false,false,false,true,none⟩
theorem Auu:Gl Tryz.prog 9 te9:=⟨by kernel_rfl,by kernel_rfl,by kernel_rfl,by kernel_rfl,by kernel_rfl,by kernel_rfl,by kernel_rfl,fun ls h=>by cases h⟩
def te20:TE:=⟨⟨false,1,[.nilIface],.iface⟩,false,false,false,false,false,false,none⟩
theorem As1:Gl Tryz.prog 20 te20:=⟨by kernel_rfl,by kernel_rfl,by kernel_rfl,by kernel_rfl,by kernel_rfl,by kernel_rfl,by kernel_rfl,fun ls h=>by cases h⟩
def te23:TE:=⟨⟨false,1,[.slice none 0 0],.sl 11 160 [.string ⟨#[]⟩,.bool false,.int .i64 0,.string ⟨#[]⟩,.string ⟨#[]⟩,.slice none 0 0,.string ⟨#[]⟩,.bool false,.int .i64 0,.string ⟨#[]⟩,.slice none 0 0] false⟩,true,false,false,false,false,true,none⟩
theorem As2:Gl Tryz.prog 23 te23:=⟨by kernel_rfl,by kernel_rfl,by kernel_rfl,by kernel_rfl,by kernel_rfl,by kernel_rfl,by kernel_rfl,fun ls h=>by cases h⟩
def te47:TE:=⟨⟨false,1,[.int .i64 0],.int .i64⟩,false,false,false,false,false,true,none⟩
theorem As3:Gl Tryz.prog 47 te47:=⟨by kernel_rfl,by kernel_rfl,by kernel_rfl,by kernel_rfl,by kernel_rfl,by kernel_rfl,by kernel_rfl,fun ls h=>by cases h⟩
def te86:TE:=⟨⟨true,3,[.bool false,.int .i64 0,.string ⟨#[]⟩],.st [(0,1,false),(1,1,false),(2,1,false)]⟩,false,false,false,false,false,true,(some [.b,.i .i64,.s])⟩
theorem As4:Gl Tryz.prog 86 te86:=⟨by kernel_rfl,by kernel_rfl,by kernel_rfl,by kernel_rfl,by kernel_rfl,by kernel_rfl,by kernel_rfl,fun ls h=>by cases h;exact⟨by kernel_rfl,by kernel_rfl,by kernel_rfl⟩⟩
def te88:TE:=⟨⟨true,4,[.string ⟨#[]⟩,.bool false,.int .i64 0,.string ⟨#[]⟩],.st [(0,1,false),(1,3,true)]⟩,false,false,false,false,false,true,(some [.s,.b,.i .i64,.s])⟩
theorem As5:Gl Tryz.prog 88 te88:=⟨by kernel_rfl,by kernel_rfl,by kernel_rfl,by kernel_rfl,by kernel_rfl,by kernel_rfl,by kernel_rfl,fun ls h=>by cases h;exact⟨by kernel_rfl,by kernel_rfl,by kernel_rfl⟩⟩
def te89:TE:=⟨⟨false,1,[.slice none 0 0],.sl 4 48 [.string ⟨#[]⟩,.bool false,.int .i64 0,.string ⟨#[]⟩] false⟩,true,false,false,false,false,true,none⟩
theorem As6:Gl Tryz.prog 89 te89:=⟨by kernel_rfl,by kernel_rfl,by kernel_rfl,by kernel_rfl,by kernel_rfl,by kernel_rfl,by kernel_rfl,fun ls h=>by cases h⟩
def te90:TE:=⟨⟨false,1,[.slice none 0 0],.sl 10 136 [.string ⟨#[]⟩,.bool false,.int .i64 0,.string ⟨#[]⟩,.string ⟨#[]⟩,.slice none 0 0,.string ⟨#[]⟩,.bool false,.int .i64 0,.string ⟨#[]⟩] false⟩,true,false,false,false,false,true,none⟩
theorem As7:Gl Tryz.prog 90 te90:=⟨by kernel_rfl,by kernel_rfl,by kernel_rfl,by kernel_rfl,by kernel_rfl,by kernel_rfl,by kernel_rfl,fun ls h=>by cases h⟩
def te92:TE:=⟨⟨true,11,[.string ⟨#[]⟩,.bool false,.int .i64 0,.string ⟨#[]⟩,.string ⟨#[]⟩,.slice none 0 0,.string ⟨#[]⟩,.bool false,.int .i64 0,.string ⟨#[]⟩,.slice none 0 0],.st [(0,4,true),(4,1,false),(5,1,false),(6,4,true),(10,1,false)]⟩,false,false,false,false,false,true,none⟩
theorem As8:Gl Tryz.prog 92 te92:=⟨by kernel_rfl,by kernel_rfl,by kernel_rfl,by kernel_rfl,by kernel_rfl,by kernel_rfl,by kernel_rfl,fun ls h=>by cases h⟩
def Ard:TE:=⟨⟨true,10,[.string ⟨#[]⟩,.bool false,.int .i64 0,.string ⟨#[]⟩,.string ⟨#[]⟩,.slice none 0 0,.string ⟨#[]⟩,.bool false,.int .i64 0,.string ⟨#[]⟩],.st [(0,4,true),(4,1,false),(5,1,false),(6,4,true)]⟩,false,false,false,false,false,true,none⟩
theorem Apy:Gl Tryz.prog 104 Ard:=⟨by kernel_rfl,by kernel_rfl,by kernel_rfl,by kernel_rfl,by kernel_rfl,by kernel_rfl,by kernel_rfl,fun ls h=>by cases h⟩
def Are:TE:=⟨⟨false,1,[.slice none 0 0],.sl 4 40 [.int .i64 0,.string ⟨#[]⟩,.int .i64 0,.int .i64 0] false⟩,true,false,false,false,false,true,none⟩
theorem Apz:Gl Tryz.prog 130 Are:=⟨by kernel_rfl,by kernel_rfl,by kernel_rfl,by kernel_rfl,by kernel_rfl,by kernel_rfl,by kernel_rfl,fun ls h=>by cases h⟩
def Arf:TE:=⟨⟨false,1,[.pointer none],.ptr 135⟩,false,true,false,false,false,true,none⟩
theorem Ap0:Gl Tryz.prog 133 Arf:=⟨by kernel_rfl,by kernel_rfl,by kernel_rfl,by kernel_rfl,by kernel_rfl,by kernel_rfl,by kernel_rfl,fun ls h=>by cases h⟩
def Arh:TE:=⟨⟨true,2,[.slice none 0 0,.int .i64 0],.st [(0,1,false),(1,1,false)]⟩,false,false,false,false,false,true,none⟩
theorem Ap1:Gl Tryz.prog 135 Arh:=⟨by kernel_rfl,by kernel_rfl,by kernel_rfl,by kernel_rfl,by kernel_rfl,by kernel_rfl,by kernel_rfl,fun ls h=>by cases h⟩
def Ari:TE:=⟨⟨true,2,[.int .i64 0,.int .i64 0],.st [(0,1,false),(1,1,false)]⟩,false,false,false,false,false,true,(some [.i .i64,.i .i64])⟩
theorem Ap2:Gl Tryz.prog 137 Ari:=⟨by kernel_rfl,by kernel_rfl,by kernel_rfl,by kernel_rfl,by kernel_rfl,by kernel_rfl,by kernel_rfl,fun ls h=>by cases h;exact⟨by kernel_rfl,by kernel_rfl,by kernel_rfl⟩⟩
def Arj:TE:=⟨⟨true,4,[.int .i64 0,.string ⟨#[]⟩,.int .i64 0,.int .i64 0],.st [(0,1,false),(1,1,false),(2,1,false),(3,1,false)]⟩,false,false,false,false,false,true,(some [.i .i64,.s,.i .i64,.i .i64])⟩
theorem Ap3:Gl Tryz.prog 186 Arj:=⟨by kernel_rfl,by kernel_rfl,by kernel_rfl,by kernel_rfl,by kernel_rfl,by kernel_rfl,by kernel_rfl,fun ls h=>by cases h;exact⟨by kernel_rfl,by kernel_rfl,by kernel_rfl⟩⟩
def Ark:TE:=⟨⟨false,1,[.nilFunc],.other⟩,false,false,true,false,false,true,none⟩
theorem Ap4:Gl Tryz.prog 218 Ark:=⟨by kernel_rfl,by kernel_rfl,by kernel_rfl,by kernel_rfl,by kernel_rfl,by kernel_rfl,by kernel_rfl,fun ls h=>by cases h⟩
def tyT:Tr TE:=(.n (.n (.n (.n .e (.n (.n .e (.n .e (.n (.n (.n (.l Ard) .e) .e) .e))) (.n (.n .e (.n (.n (.n (.l te88) .e) .e) .e)) .e))) (.n (.n .e (.n (.n (.n (.n (.n (.l te20) .e) .e) .e) .e) .e)) (.n .e (.n (.n .e (.n (.n (.n (.l te92) .e) .e) .e)) .e)))) (.n (.n (.n (.n (.n (.n .e (.n (.n (.l Are) .e) .e)) .e) .e) .e) (.n .e (.n (.n .e (.n (.n (.n (.l te90) .e) .e) (.n (.n (.l Ark) .e) .e))) (.n (.n .e (.n (.n (.l Arj) .e) .e)) .e)))) (.n (.n .e (.n (.n .e (.n (.n (.n (.l te86) .e) .e) .e)) .e)) .e))) (.n (.n (.n .e (.n (.n (.n (.n (.n (.n (.l te9) .e) .e) (.n (.n (.l Ari) .e) .e)) .e) .e) (.n (.n .e (.n (.n (.n (.l te89) .e) .e) .e)) .e))) (.n (.n (.n (.n (.n (.n (.n (.l te5) .e) .e) (.n (.n (.l Arf) .e) .e)) .e) .e) .e) .e)) (.n (.n (.n (.n (.n (.n (.n (.n (.l te3) .e) .e) .e) .e) .e) .e) .e) (.n (.n (.n (.n (.n .e (.n (.n (.l Arh) .e) .e)) .e) .e) (.n (.n (.n (.n (.n (.l te23) .e) .e) .e) .e) .e)) (.n (.n .e (.n (.n (.n (.n (.l te47) .e) .e) .e) .e)) .e)))))
theorem tyOk:tyT.All 10 (Gl Tryz.prog):=⟨⟨⟨⟨trivial,⟨⟨trivial,⟨trivial,⟨⟨⟨Apy,trivial⟩,trivial⟩,trivial⟩⟩⟩,⟨⟨trivial,⟨⟨⟨As5,trivial⟩,trivial⟩,trivial⟩⟩,trivial⟩⟩⟩,⟨⟨trivial,⟨⟨⟨⟨⟨As1,trivial⟩,trivial⟩,trivial⟩,trivial⟩,trivial⟩⟩,⟨trivial,⟨⟨trivial,⟨⟨⟨As8,trivial⟩,trivial⟩,trivial⟩⟩,trivial⟩⟩⟩⟩,⟨⟨⟨⟨⟨⟨trivial,⟨⟨Apz,trivial⟩,trivial⟩⟩,trivial⟩,trivial⟩,trivial⟩,⟨trivial,⟨⟨trivial,⟨⟨⟨As7,trivial⟩,trivial⟩,⟨⟨Ap4,trivial⟩,trivial⟩⟩⟩,⟨⟨trivial,⟨⟨Ap3,trivial⟩,trivial⟩⟩,trivial⟩⟩⟩⟩,⟨⟨trivial,⟨⟨trivial,⟨⟨⟨As4,trivial⟩,trivial⟩,trivial⟩⟩,trivial⟩⟩,trivial⟩⟩⟩,⟨⟨⟨trivial,⟨⟨⟨⟨⟨⟨Auu,trivial⟩,trivial⟩,⟨⟨Ap2,trivial⟩,trivial⟩⟩,trivial⟩,trivial⟩,⟨⟨trivial,⟨⟨⟨As6,trivial⟩,trivial⟩,trivial⟩⟩,trivial⟩⟩⟩,⟨⟨⟨⟨⟨⟨⟨Aut,trivial⟩,trivial⟩,⟨⟨Ap0,trivial⟩,trivial⟩⟩,trivial⟩,trivial⟩,trivial⟩,trivial⟩⟩,⟨⟨⟨⟨⟨⟨⟨⟨Aus,trivial⟩,trivial⟩,trivial⟩,trivial⟩,trivial⟩,trivial⟩,trivial⟩,⟨⟨⟨⟨⟨trivial,⟨⟨Ap1,trivial⟩,trivial⟩⟩,trivial⟩,trivial⟩,⟨⟨⟨⟨⟨As2,trivial⟩,trivial⟩,trivial⟩,trivial⟩,trivial⟩⟩,⟨⟨trivial,⟨⟨⟨⟨As3,trivial⟩,trivial⟩,trivial⟩,trivial⟩⟩,trivial⟩⟩⟩⟩⟩
noncomputable def fe42:FE:=⟨Tryz.f42,[(3,[.rd 0 true,.rd 1 true,.ef 2 [0,1],.ef 3 [1],.ef 4 []]),(9,[.rd 0 true,.rd 1 false,.ef 2 [0],.rd 3 false,.ef 4 [],.ef 5 []])]⟩
noncomputable def fe83:FE:=⟨Tryz.f83,[]⟩
noncomputable def fe84:FE:=⟨Tryz.f84,[(3,[.rd 0 false,.rd 1 true,.rd 2 false,.rd 3 true,.ef 4 [1,3],.ef 5 [3],.ef 6 []])]⟩
noncomputable def fe85:FE:=⟨Tryz.f85,[]⟩
noncomputable def fe86:FE:=⟨Tryz.f86,[]⟩
noncomputable def fe87:FE:=⟨Tryz.f87,[(10,[.rd 0 false,.rd 1 true,.rd 2 false,.ef 3 [1],.rd 4 false,.ef 5 [],.rd 6 false,.ef 7 []])]⟩
noncomputable def Aqf:FE:=⟨Tryz.f142,[]⟩
noncomputable def Aqg:FE:=⟨Tryz.f143,[(7,[.rd 0 false,.rd 1 false,.rd 2 false,.rd 3 true,.rd 4 false,.ef 5 [3],.rd 6 false,.ef 7 []]),(10,[.rd 0 false,.rd 1 false,.rd 2 false,.rd 3 true,.rd 4 false,.ef 5 [3],.rd 6 false,.ef 7 []]),(24,[.rd 0 false,.rd 1 false,.rd 2 false,.rd 3 true,.rd 4 false,.ef 5 [3],.rd 6 false,.ef 7 []]),(26,[.rd 0 false,.rd 1 false,.rd 2 false,.rd 3 true,.rd 4 false,.ef 5 [3],.rd 6 false,.ef 7 []])]⟩
noncomputable def Aqh:FE:=⟨Tryz.f144,[]⟩
noncomputable def Aqi:FE:=⟨Tryz.f145,[]⟩
noncomputable def Aqj:FE:=⟨Tryz.f146,[]⟩
noncomputable def Aqk:FE:=⟨Tryz.f147,[]⟩
noncomputable def Aql:FE:=⟨Tryz.f148,[]⟩
noncomputable def Aqm:FE:=⟨Tryz.f149,[]⟩
noncomputable def Aqn:FE:=⟨Tryz.f150,[]⟩
noncomputable def Aqo:FE:=⟨Tryz.f151,[]⟩
noncomputable def Aqp:FE:=⟨Tryz.f182,[]⟩
noncomputable def Aqq:FE:=⟨Tryz.f183,[]⟩
noncomputable def Aqr:FE:=⟨Tryz.f184,[]⟩
noncomputable def Aqs:FE:=⟨Tryz.f185,[]⟩
noncomputable def Aqt:FE:=⟨Tryz.f186,[]⟩
noncomputable def Aqu:FE:=⟨Tryz.f187,[]⟩
noncomputable def Aqv:FE:=⟨Tryz.f188,[]⟩
noncomputable def Aqw:FE:=⟨Tryz.f189,[]⟩
noncomputable def Aqx:FE:=⟨Tryz.f190,[]⟩
noncomputable def Aqy:FE:=⟨Tryz.f191,[]⟩
noncomputable def Aqz:FE:=⟨Tryz.f227,[]⟩
theorem Ar6:Fx Tryz.prog 42 fe42:=⟨Tryz.func42,by decide,by kernel_rfl⟩
theorem Ar7:Fx Tryz.prog 83 fe83:=⟨Tryz.func83,by decide,by kernel_rfl⟩
theorem Ar8:Fx Tryz.prog 84 fe84:=⟨Tryz.func84,by decide,by kernel_rfl⟩
theorem Ar9:Fx Tryz.prog 85 fe85:=⟨Tryz.func85,by decide,by kernel_rfl⟩
theorem Asa:Fx Tryz.prog 86 fe86:=⟨Tryz.func86,by decide,by kernel_rfl⟩
theorem Asb:Fx Tryz.prog 87 fe87:=⟨Tryz.func87,by decide,by kernel_rfl⟩
theorem An7:Fx Tryz.prog 142 Aqf:=⟨Tryz.func142,by decide,by kernel_rfl⟩
theorem An8:Fx Tryz.prog 143 Aqg:=⟨Tryz.func143,by decide,by kernel_rfl⟩
theorem An9:Fx Tryz.prog 144 Aqh:=⟨Tryz.func144,by decide,by kernel_rfl⟩
theorem Aoa:Fx Tryz.prog 145 Aqi:=⟨Tryz.func145,by decide,by kernel_rfl⟩
theorem Aob:Fx Tryz.prog 146 Aqj:=⟨Tryz.func146,by decide,by kernel_rfl⟩
theorem Aoc:Fx Tryz.prog 147 Aqk:=⟨Tryz.func147,by decide,by kernel_rfl⟩
theorem Aod:Fx Tryz.prog 148 Aql:=⟨Tryz.func148,by decide,by kernel_rfl⟩
theorem Aoe:Fx Tryz.prog 149 Aqm:=⟨Tryz.func149,by decide,by kernel_rfl⟩
theorem Aof:Fx Tryz.prog 150 Aqn:=⟨Tryz.func150,by decide,by kernel_rfl⟩
theorem Aog:Fx Tryz.prog 151 Aqo:=⟨Tryz.func151,by decide,by kernel_rfl⟩
theorem Aoh:Fx Tryz.prog 182 Aqp:=⟨Tryz.func182,by decide,by kernel_rfl⟩
theorem Aoi:Fx Tryz.prog 183 Aqq:=⟨Tryz.func183,by decide,by kernel_rfl⟩
theorem Aoj:Fx Tryz.prog 184 Aqr:=⟨Tryz.func184,by decide,by kernel_rfl⟩
theorem Aok:Fx Tryz.prog 185 Aqs:=⟨Tryz.func185,by decide,by kernel_rfl⟩
theorem Aol:Fx Tryz.prog 186 Aqt:=⟨Tryz.func186,by decide,by kernel_rfl⟩
theorem Aom:Fx Tryz.prog 187 Aqu:=⟨Tryz.func187,by decide,by kernel_rfl⟩
theorem Aon:Fx Tryz.prog 188 Aqv:=⟨Tryz.func188,by decide,by kernel_rfl⟩
theorem Aoo:Fx Tryz.prog 189 Aqw:=⟨Tryz.func189,by decide,by kernel_rfl⟩
theorem Aop:Fx Tryz.prog 190 Aqx:=⟨Tryz.func190,by decide,by kernel_rfl⟩
theorem Aoq:Fx Tryz.prog 191 Aqy:=⟨Tryz.func191,by decide,by kernel_rfl⟩
theorem Aor:Fx Tryz.prog 227 Aqz:=⟨Tryz.func227,by decide,by kernel_rfl⟩
noncomputable def ftT:Tr FE:=(.n (.n (.n (.n (.n .e (.n (.n (.n .e (.n (.n (.l Aqh) .e) .e)) .e) .e)) (.n .e (.n .e (.n (.n .e (.n (.n (.l Aqr) .e) .e)) .e)))) (.n (.n .e (.n (.n (.n .e (.n (.n (.l Aql) .e) .e)) (.n (.n (.n (.l fe84) .e) .e) .e)) .e)) (.n .e (.n .e (.n (.n .e (.n (.n (.l Aqv) .e) .e)) .e))))) (.n (.n (.n .e (.n (.n (.n .e (.n (.n (.l Aqj) .e) .e)) .e) .e)) (.n (.n .e (.n (.n (.n (.n (.l fe42) .e) .e) .e) .e)) (.n .e (.n (.n .e (.n (.n (.l Aqt) .e) .e)) .e)))) (.n (.n .e (.n (.n (.n .e (.n (.n (.l Aqn) .e) .e)) (.n (.n (.n (.l fe86) .e) .e) .e)) (.n (.n .e (.n (.n (.l Aqp) .e) .e)) .e))) (.n (.n (.n (.n .e (.n (.n (.l Aqf) .e) .e)) .e) .e) (.n .e (.n (.n .e (.n (.n (.l Aqx) .e) .e)) .e)))))) (.n (.n (.n (.n .e (.n (.n (.n .e (.n (.n (.l Aqi) .e) .e)) .e) .e)) (.n .e (.n .e (.n (.n .e (.n (.n (.l Aqs) .e) .e)) .e)))) (.n (.n .e (.n (.n (.n .e (.n (.n (.l Aqm) .e) .e)) (.n (.n (.n (.l fe85) .e) .e) .e)) .e)) (.n .e (.n .e (.n (.n .e (.n (.n (.l Aqw) .e) .e)) .e))))) (.n (.n (.n (.n .e (.n .e (.n .e (.n (.n (.l Aqz) .e) .e)))) (.n (.n (.n .e (.n (.n (.l Aqk) .e) .e)) (.n (.n (.n (.l fe83) .e) .e) .e)) .e)) (.n .e (.n .e (.n (.n .e (.n (.n (.l Aqu) .e) .e)) .e)))) (.n (.n .e (.n (.n (.n .e (.n (.n (.l Aqo) .e) .e)) (.n (.n (.n (.l fe87) .e) .e) .e)) (.n (.n .e (.n (.n (.l Aqq) .e) .e)) .e))) (.n (.n (.n (.n .e (.n (.n (.l Aqg) .e) .e)) .e) .e) (.n .e (.n (.n .e (.n (.n (.l Aqy) .e) .e)) .e)))))))
theorem ftOk:ftT.All 10 (Fx Tryz.prog):=⟨⟨⟨⟨⟨trivial,⟨⟨⟨trivial,⟨⟨An9,trivial⟩,trivial⟩⟩,trivial⟩,trivial⟩⟩,⟨trivial,⟨trivial,⟨⟨trivial,⟨⟨Aoj,trivial⟩,trivial⟩⟩,trivial⟩⟩⟩⟩,⟨⟨trivial,⟨⟨⟨trivial,⟨⟨Aod,trivial⟩,trivial⟩⟩,⟨⟨⟨Ar8,trivial⟩,trivial⟩,trivial⟩⟩,trivial⟩⟩,⟨trivial,⟨trivial,⟨⟨trivial,⟨⟨Aon,trivial⟩,trivial⟩⟩,trivial⟩⟩⟩⟩⟩,⟨⟨⟨trivial,⟨⟨⟨trivial,⟨⟨Aob,trivial⟩,trivial⟩⟩,trivial⟩,trivial⟩⟩,⟨⟨trivial,⟨⟨⟨⟨Ar6,trivial⟩,trivial⟩,trivial⟩,trivial⟩⟩,⟨trivial,⟨⟨trivial,⟨⟨Aol,trivial⟩,trivial⟩⟩,trivial⟩⟩⟩⟩,⟨⟨trivial,⟨⟨⟨trivial,⟨⟨Aof,trivial⟩,trivial⟩⟩,⟨⟨⟨Asa,trivial⟩,trivial⟩,trivial⟩⟩,⟨⟨trivial,⟨⟨Aoh,trivial⟩,trivial⟩⟩,trivial⟩⟩⟩,⟨⟨⟨⟨trivial,⟨⟨An7,trivial⟩,trivial⟩⟩,trivial⟩,trivial⟩,⟨trivial,⟨⟨trivial,⟨⟨Aop,trivial⟩,trivial⟩⟩,trivial⟩⟩⟩⟩⟩⟩,⟨⟨⟨⟨trivial,⟨⟨⟨trivial,⟨⟨Aoa,trivial⟩,trivial⟩⟩,trivial⟩,trivial⟩⟩,⟨trivial,⟨trivial,⟨⟨trivial,⟨⟨Aok,trivial⟩,trivial⟩⟩,trivial⟩⟩⟩⟩,⟨⟨trivial,⟨⟨⟨trivial,⟨⟨Aoe,trivial⟩,trivial⟩⟩,⟨⟨⟨Ar9,trivial⟩,trivial⟩,trivial⟩⟩,trivial⟩⟩,⟨trivial,⟨trivial,⟨⟨trivial,⟨⟨Aoo,trivial⟩,trivial⟩⟩,trivial⟩⟩⟩⟩⟩,⟨⟨⟨⟨trivial,⟨trivial,⟨trivial,⟨⟨Aor,trivial⟩,trivial⟩⟩⟩⟩,⟨⟨⟨trivial,⟨⟨Aoc,trivial⟩,trivial⟩⟩,⟨⟨⟨Ar7,trivial⟩,trivial⟩,trivial⟩⟩,trivial⟩⟩,⟨trivial,⟨trivial,⟨⟨trivial,⟨⟨Aom,trivial⟩,trivial⟩⟩,trivial⟩⟩⟩⟩,⟨⟨trivial,⟨⟨⟨trivial,⟨⟨Aog,trivial⟩,trivial⟩⟩,⟨⟨⟨Asb,trivial⟩,trivial⟩,trivial⟩⟩,⟨⟨trivial,⟨⟨Aoi,trivial⟩,trivial⟩⟩,trivial⟩⟩⟩,⟨⟨⟨⟨trivial,⟨⟨An8,trivial⟩,trivial⟩⟩,trivial⟩,trivial⟩,⟨trivial,⟨⟨trivial,⟨⟨Aoq,trivial⟩,trivial⟩⟩,trivial⟩⟩⟩⟩⟩⟩⟩
theorem Ash(vs:Array Value):Yr Tryz.prog 84 vs:=fun w=>by
 refine callsDIn_of_wpSIn Tryz.func84 rfl trivial fun c₀ cs hu=>?_;have hsz:14≤(vs++Array.replicate (14-vs.size) undef).size:=by simp;omega
 rw[show Tryz.f84.ntmps=14 from rfl];revert hsz;generalize vs++Array.replicate (14-vs.size) undef=tm;intro hsz;apply wpSIn_seq;apply wpSIn_region;simp[wpOpsSIn,go_sem,recoverD,hu,Exit.thenS];apply wpSIn_seq;apply wpSIn_region;have h3:3<tm.size:=by omega
 have h5:5<tm.size:=by omega
 have h6:6<tm.size:=by omega
 have h7:7<tm.size:=by omega
 simp[wpOpsSIn,go_sem,Exit.thenS,h3,h5,h6,h7,Act.eval,Act.put];refine wpSIn_cond (t:=false) (by simp[Act.eval,h3,h5,h6,h7]) ?_;simp only[Bool.false_eq_true,if_false];refine wpSIn_of_wpIn rfl (wpIn_skip ?_);cases c₀
 simp_all [bodyPostS,results,show Tryz.f84.results= #[]from rfl]
theorem prOk:PrOk Tryz.prog tyT ftT (fun f=>Nat.beq f 84) where
 mx:=by kernel_rfl
 ty:=fun t e ht he=>Tr.all_get tyOk (by simpa using ht) he
 ft:=fun t e ht he=>Tr.all_get ftOk (by simpa using ht) he
 idle:=fun f hf=>by
  rw[A2]at hf;subst hf;exact⟨⟨_,Tryz.func84,rfl,by decide⟩,Ash⟩
def txtL:RS:=.v (.string ⟨#[65,58,32,112,40,88,41,32,58,45,32,113,40,88,41,46]⟩)
def resT:AV:=.tup [.sl 11 [[.v (.string ⟨#[65]⟩),.v (.bool false),.v (.int .i64 0),.v (.string ⟨#[]⟩),.v (.string ⟨#[112]⟩),.sl 4 [[.v (.string ⟨#[88]⟩),.v (.bool false),.v (.int .i64 0),.v (.string ⟨#[]⟩)]],.v (.string ⟨#[]⟩),.v (.bool false),.v (.int .i64 0),.v (.string ⟨#[]⟩),
 .sl 10 [[.v (.string ⟨#[]⟩),.v (.bool false),.v (.int .i64 0),.v (.string ⟨#[]⟩),.v (.string ⟨#[113]⟩),.sl 4 [[.v (.string ⟨#[88]⟩),.v (.bool false),.v (.int .i64 0),.v (.string ⟨#[]⟩)]],.v (.string ⟨#[]⟩),.v (.bool false),.v (.int .i64 0),.v (.string ⟨#[]⟩)]]]],.v (.int .i64 0),.v (.int .i64 0)]
theorem runP:runV Tryz.prog tyT ftT (fun f=>Nat.beq f 84) 100000 40 12 42 [txtL]=some resT:=by kernel_rfl
theorem parse1_at{σ:St}:AT Tryz.prog 42 [.v (.string ⟨#[65,58,32,112,40,88,41,32,58,45,32,113,40,88,41,46]⟩)] σ fun r σ'=>r=resT∧σ'=σ:=by
 have h:=Aps (σ:=σ) prOk runP (by kernel_rfl) (fun _=>.v (.bool false)) (fun _=>⟨rfl,rfl⟩) (by simp only[RS.wfs,RS.wf,txtL];trivial);have e:RS.ivs ⟨fun i=>i,fun i=>i,fun _=>.v (.bool false)⟩ [txtL]=[.v (.string ⟨#[65,58,32,112,40,88,41,32,58,45,32,113,40,88,41,46]⟩)]:=by
  simp only[RS.ivs,RS.iv,RS.vv,txtL]
 rw[e]at h;exact h
end Go.Proofs.YtmifmncabejffaaGreat
