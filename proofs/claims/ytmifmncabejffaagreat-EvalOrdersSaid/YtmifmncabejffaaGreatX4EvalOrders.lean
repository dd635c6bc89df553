/-
  Contracts of the functions that the statement reaches, and the plain laws of what they reckon.
  Conditions: none.
-/
import Derived.Test.YtmifmncabejffaaGreatRows
import Derived.RecoverIn
import Derived.BigFrame
import Derived.Test.YtmifmncabejffaaGreatV1EvalOrders
import Derived.Test.YtmifmncabejffaaGreatV2EvalOrders
import Derived.Test.YtmifmncabejffaaGreatV3EvalOrders
import Derived.Test.YtmifmncabejffaaGreatX1EvalOrders
import Derived.Test.YtmifmncabejffaaGreatX2EvalOrders
import Derived.Test.YtmifmncabejffaaGreatX3EvalOrders
set_option linter.unusedVariables false
set_option linter.unusedSimpArgs false
set_option linter.unusedSectionVars false
set_option maxRecDepth 100000
namespace Go.Proofs.YtmifmncabejffaaGreat
open Go Go.Av
def zerD(me:ByteArray)(rules:List Rl)(k:Nat)(P:ES×Bool):ES×Bool:=(List.range k).foldl (fun P i=>if(rules.getD i rlZ).bo.length=0 then lkD me faZ [] i (rules.getD i rlZ) (-1) P else P) P
def newD(me:ByteArray)(names:List ByteArray)(lim:Int)(rules:List Rl):ES×Bool:=zerD me rules rules.length (Om me names lim rules,false)
theorem Mv{me:ByteArray}{rules:List Rl}{k:Nat}{P:ES×Bool}:zerD me rules (k+1) P=if(rules.getD k rlZ).bo.length=0 then lkD me faZ [] k (rules.getD k rlZ) (-1) (zerD me rules k P)else zerD me rules k P:=by
 unfold zerD;rw[List.range_succ,List.foldl_append];rfl
theorem Mu(me:ByteArray)(rules:List Rl)(P:ES×Bool):∀k,SK P.1 (zerD me rules k P).1
 |0=>.refl _
 |k+1=>by
  rw[Mv];split
  ·exact(Mu me rules P k).trans (Fz _ _ _)
  ·exact Mu me rules P k
theorem X6{me:ByteArray}{rules:List Rl}{P:ES×Bool}:∀k,(zerD me rules k P).2=false→P.2=false∧(zerD me rules k P).1=zerS me rules k P.1
 |0,h=>⟨h,rfl⟩
 |k+1,h=>by
  rw[Mv]at h⊢;rw[J8];split at h
  ·rename_i h0
   rw[if_pos h0,if_pos h0];obtain⟨h1,h2,_⟩:=Ajf h;obtain⟨k1,k2⟩:=X6 k h1;exact⟨k1,by rw[h2,k2]⟩
  ·rename_i h0
   rw[if_neg h0,if_neg h0];exact X6 k h
theorem Aih:faZ.Sm:=by show([]:List Cn).length≤_;simp
theorem X7{n:Nat}{me:ByteArray}{rules:List Rl}{P:ES×Bool}(h:SOk n P.1)(hr:∀r∈rules,r.S4):∀k,k≤rules.length→SOk (n+k*60004) (zerD me rules k P).1
 |0,_=>h.le (Nat.le_add_right _ _)
 |k+1,hk=>by
  have ih:=X7 (me:=me) (rules:=rules) h hr k (by omega);rw[Mv];split
  ·rename_i h0
   have e:rules.getD k rlZ=rules[k]:=Dd (by omega) _;rw[e]at h0⊢;have hr4:=hr _ (List.getElem_mem (show k<rules.length by omega));have h3:=docl (r:=rules[k]) (me:=me) (first:= -1) (f:=faZ) (l:=[]);exact(P5 k (m:=rules[k].bo.length) (by have:=hr4.1.1;omega) _ _ ih (Wk Aih (fun y hy=>by cases hy))).le (by omega)
  ·exact ih.le (by omega)
section
variable{σ:St}
set_option maxHeartbeats 1600000 in
theorem Anz(me:ByteArray)(names:List ByteArray)(lim:Int)(rules:List Rl)(hn:names.length≤1000000)(hl:rules.length≤1000000)(hr:∀r∈rules,r.S4):
  AT Tryz.prog 29 [str me,.sl 1 (stC names),int lim,.sl 11 (rlC rules)] σ fun v σ'=>
   (v= .tup [.v (.pointer none),int 2]∧(me∉names∨My rules∨¬(1≤lim∧lim≤4096))∧∀y o,σ y=some o→σ' y=some o)∨
   (me∈names∧¬My rules∧1≤lim∧lim≤4096∧∃x a,v= .tup [ptr x,int 0]∧EV true σ' x a (newD me names lim rules).1 (newD me names lim rules).2∧∀y o,σ y=some o→σ' y=some o∧¬Bo x a y):=by
 refine AT.ob Tryz.func29 rfl ?_;have no:(me∉names∨My rules∨¬(1≤lim∧lim≤4096))→∀{fr:Fr} {σ':St},(∀y o,σ y=some o→σ' y=some o)→A7 Tryz.prog fr σ' (Tryz.f29).results.toList=some (.tup [.v (.pointer none),int 2])→Dp Tryz.prog (fun v σ'=>(v= .tup [.v (.pointer none),int 2]∧(me∉names∨My rules∨¬(1≤lim∧lim≤4096))∧∀y o,σ y=some o→σ' y=some o)∨(me∈names∧¬My rules∧1≤lim∧lim≤4096∧∃x a,v= .tup [ptr x,int 0]∧EV true σ' x a (newD me names lim rules).1 (newD me names lim rules).2∧∀y o,σ y=some o→σ' y=some o∧¬Bo x a y)) (Tryz.f29).results.toList fr σ':=fun h _ _ hs hr=>
  Ad hr (.inl ⟨rfl,h,hs⟩)
 simp only[go_sem];refine(Aka names me (by omega)).p ?_;by_cases hnm:me∈names
 case neg=>
  simp only[go_sem,decide_eq_false hnm,Bool.not_false];exact no (.inl hnm) (fun _ _ h=>h) rfl
 simp only[go_sem,decide_eq_true hnm,Bool.not_true,Ch];refine⟨fun m fr σ'=>∃i:Nat,m=rules.length-i∧i≤rules.length∧(∀k (hk:k<rules.length),k<i→∀y∈rules[k].bo,y.at'= .zero)∧σ'=σ∧fr 0=str me∧fr 1= .sl 1 (stC names)∧fr 2=int lim∧fr 3= .sl 11 (rlC rules)∧fr 10=int i,⟨_,0,rfl,by omega,fun k hk h=>by omega,rfl,rfl,rfl,rfl,rfl,rfl⟩,?_⟩;rintro m fr σ ⟨i,rfl,hi,hz,rfl,f0,f1,f2,f3,f10⟩;simp only[go_sem,f3,f10,Ch];refine aIf_by (fun hlt=>?_) (fun hlt=>?_)
 case' refine_1=>
  have hil:i<rules.length:=by omega
  obtain⟨r,hrr⟩:∃r,r=rules[i]:=⟨_,rfl⟩;have hr4:=hr _ (List.getElem_mem hil);rw[←hrr]at hr4;have rg:(rlC rules).getD i []=r.cs:=by rw[hrr];exact C8 hil
  have h1:=hr4.1.1;have lcl:=Dz r.bo;simp only[go_sem,Aa];refine⟨fun m fr σ'=>∃j:Nat,m=r.bo.length-j∧j≤r.bo.length∧(∀k (hk:k<r.bo.length),k<j→r.bo[k].at'= .zero)∧σ'=σ∧fr 0=str me∧fr 1= .sl 1 (stC names)∧fr 2=int lim∧fr 3= .sl 11 (rlC rules)∧fr 10=int i∧fr 11=int j,⟨_,0,rfl,by omega,fun k hk h=>by omega,rfl,f0,f1,f2,f3,f10,rfl⟩,?_⟩;clear f0 f1 f2 f3 f10;rintro m fr σ ⟨j,rfl,hj,hz2,rfl,f0,f1,f2,f3,f10,f11⟩;simp only[go_sem,f3,f10,f11,rg,Ch];refine⟨by omega,?_⟩;refine aIf_by (fun hlt=>?_) (fun hlt=>?_)
  ·have hjl:j<r.bo.length:=by omega
   simp only[go_sem,Aa,f3,f10,f11,rg,Ch,Eg hjl,lcl];refine⟨by omega,by omega,Ako ?_⟩;by_cases hat:r.bo[j].at'= .zero
   ·simp only[go_sem,Aa,decide_eq_true hat,f11,Aw j (by omega)]
    refine⟨r.bo.length-(j+1),by omega,j+1,rfl,by omega,fun k hk hkj=>?_,f0,f1,f2,f3,f10,rfl⟩;by_cases e:k=j
    ·subst e;exact hat
    ·exact hz2 k hk (by omega)
   ·simp only[go_sem,Aa,decide_eq_false hat]
    refine no (.inr (.inl ⟨r,by rw[hrr];exact List.getElem_mem hil,_,List.getElem_mem hjl,hat⟩)) (fun _ _ h=>h) rfl
  ·simp only[go_sem,Aa,f10,Aw i (by omega)]
   refine⟨rules.length-(i+1),by omega,i+1,rfl,by omega,fun k hk hki=>?_,f0,f1,f2,f3,rfl⟩;by_cases e:k=i
   ·subst e
    intro y hy;rw[←hrr]at hy;obtain⟨q,hq,e⟩:=List.mem_iff_getElem.1 hy;rw[←e];exact hz2 q hq (by omega)
   ·exact hz k hk (by omega)
 have hgood:¬My rules:=fun⟨r,hm,y,hy,hne⟩=>by
  obtain⟨k,hk,e⟩:=List.mem_iff_getElem.1 hm;exact hne (hz k hk (by omega) y (by rw[e];exact hy))
 clear hz;simp only[go_sem,Aa,f2];refine(Akj lim).mono ?_;intro v σ2 htn;by_cases hlim:1≤lim∧lim≤4096
 case neg=>
  rw[if_neg hlim]at htn;obtain⟨rfl,rfl⟩:=htn;simp only[go_sem,Aa];exact no (.inr (.inr hlim)) (fun _ _ h=>h) rfl
 rw[if_pos hlim]at htn;obtain⟨t,ft,rfl,rfl⟩:=htn;obtain⟨σ2,e2⟩:∃s,s=σ.set t (tbC [] lim):=⟨_,rfl⟩;have ht2:σ2 t=some (tbC [] lim):=by rw[e2];exact Ab
 have hs2:∀y o,σ y=some o→σ2 y=some o:=by rw[e2];exact B4 ft fun _ _ h=>h
 rw[←e2];clear e2;simp only[go_sem,Aa,f0,f1,f3];refine Ax fun b fb _=>?_;simp only[go_sem,Aa];obtain⟨σ3,e3⟩:∃s,s=σ2.set b (.cells [.v (.slice none 0 0)]):=⟨_,rfl⟩;have hb3:σ3 b=some (.cells [A0]):=by rw[e3];exact Ab
 have hs3:∀y o,σ2 y=some o→σ3 y=some o:=by rw[e3];exact B4 fb fun _ _ h=>h
 rw[←e3];clear e3;refine Ax fun x hx _=>?_;obtain⟨raw,hraw⟩:∃r:List AV,r=[.v (.string me),.sl 1 (stC names),.sl 11 (rlC rules),.v (.pointer (some ⟨t,0,none⟩)),.v (.pointer (some ⟨b,0,none⟩)),.v (.slice none 0 0),.v (.slice none 0 0),.v (.slice none 0 0),.v (.bool false),.v (.bool false)]:=⟨_,rfl⟩;rw[←hraw];obtain⟨s0,hs0⟩:∃s0,s0=Om me names lim rules:=⟨_,rfl⟩;obtain⟨a0,ha0⟩:∃a0:EA,a0=⟨t,b,.sl 4 (faC []),A0,A0⟩:=⟨_,rfl⟩;have O0:SOk 0 s0:=by rw[hs0];exact Nl hlim.1 hlim.2 hr hl hn
 have ht3:=hs3 _ _ ht2;have nxt:x≠t:=fun e=>by rw[e,ht3]at hx;cases hx
 have nxb:x≠b:=fun e=>by rw[e,hb3]at hx;cases hx
 have ntb:t≠b:=fun e=>by rw[←e,ht2]at fb;cases fb
 have at0:a0.t=t:=by rw[ha0]
 have ab0:a0.b=b:=by rw[ha0]
 have nq0:∀y,¬Own a0.gv y∧¬I9 a0.qv y∧¬Own a0.ov y:=fun y=>by rw[ha0];exact⟨Gx,Tt,B5⟩
 have E4:EV true ((σ3.set b (rkC [])).set x (.cells (evC true s0 a0 false))) x a0 s0 false:=⟨Ab,by rw[at0,Af nxt.symm,Af ntb,ht3,hs0];rfl,by rw[ab0,Af nxb.symm,Ab,hs0];rfl,by rw[if_pos rfl,ha0,hs0];rfl,by rw[ha0,hs0];exact .nil,by rw[ha0,hs0];exact .none,by rw[at0];exact nxt,by rw[ab0];exact nxb,by rw[at0,ab0];exact ntb,fun y ho=>absurd ho (nq0 y).1⟩;have F4:∀y o,σ y=some o→((σ3.set b (rkC [])).set x (.cells (evC true s0 a0 false))) y=some o∧¬Bo x a0 y:=fun y o hy=>by
  have y2:=hs2 _ _ hy;have y3:=hs3 _ _ y2;have nyx:y≠x:=fun e=>by rw[e,hx]at y3;cases y3
  have nyb:y≠b:=fun e=>by rw[e,fb]at y2;cases y2
  refine⟨by rw[Af nyx,Af nyb];exact y3,fun hf=>?_⟩;rcases hf with e|e|e|e|e|e
  ·exact nyx e
  ·rw[e,at0,ft]at hy;cases hy
  ·exact nyb (by rw[e,ab0])
  ·exact(nq0 y).1 e
  ·exact(nq0 y).2.1 e
  ·exact(nq0 y).2.2 e
 have V4:SV (σ3.set x (.cells raw)) ((σ3.set b (rkC [])).set x (.cells (evC true s0 a0 false))):=Gh fun y o hy=>by
  by_cases e1:y=x
  ·rw[e1,Ab]at hy
   injection hy with hy;subst hy;refine .inr ⟨.cells raw,by rw[e1,Ab],?_⟩;rw[hraw,ha0,hs0];exact vws_same (vws_same (vws_same (vws_same (vws_same (vws_cons (.nil 4) (By _))))))
  ·by_cases e2:y=b
   ·rw[Af e1,e2,Ab]at hy
    injection hy with hy;subst hy;exact .inr ⟨.cells [A0],by rw[Af e1,e2];exact hb3,vws_cons (.nil 6) B6⟩
   ·rw[Af e1,Af e2]at hy
    exact .inl (by rw[Af e1];exact hy)
 generalize (σ3.set b (rkC [])).set x (.cells (evC true s0 a0 false))=σE at E4 F4 V4;generalize σ3.set x (.cells raw)=σ4 at V4⊢;clear hx nxt nxb ntb nq0 at0 ab0 ht3 hb3 hs3 fb ht2 hs2 ft hraw;have m0:s0.me=me:=by rw[hs0];rfl
 have r0:s0.rules=rules:=by rw[hs0];rfl
 have T0:s0.T=[]:=by rw[hs0];rfl
 simp only[go_sem,Aa];refine⟨fun m fr σ'=>∃(i:Nat) (a':EA) (P:ES×Bool) (σE:St),m=rules.length-i∧i≤rules.length∧P=zerD me rules i (s0,false)∧SOk (0+i*60004) P.1∧SV σ' σE∧EV true σE x a' P.1 P.2∧(∀y o,σ y=some o→σE y=some o∧¬Bo x a' y)∧fr 3= .sl 11 (rlC rules)∧fr 14=ptr x∧fr 15=int i,⟨_,0,a0,(s0,false),σE,rfl,by omega,rfl,O0,V4,E4,F4,f3,rfl,rfl⟩,?_⟩;clear E4 F4 V4 f0 f1 f2 f3 f10 O0;rintro m fr σ1 ⟨i,a',P,σE,rfl,hi,hP,hO,hV,hE,hF,f3,f14,f15⟩;simp only[go_sem,f3,f15,Ch];refine aIf_by (fun hlt=>?_) (fun hlt=>?_)
 case' refine_2=>
  have ei:i=rules.length:=by omega
  rw[ei]at hP;simp only[go_sem,Aa,f14];exact Ae (r:=.tup [ptr x,int 0]) rfl _ σE (view_of hV (.refl _)) (.inr ⟨hnm,hgood,hlim.1,hlim.2,x,a',rfl,by rw[show newD me names lim rules=P by rw[hP,hs0];rfl];exact hE,hF⟩)
 have hil:i<rules.length:=by omega
 obtain⟨r,hrr⟩:∃r,r=rules[i]:=⟨_,rfl⟩;have hr4:=hr _ (List.getElem_mem hil);rw[←hrr]at hr4;have rg:(rlC rules).getD i []=r.cs:=by rw[hrr];exact C8 hil
 have hgr:rules.getD i rlZ=r:=by rw[Dd hil,hrr]
 have K':SK s0 P.1:=by rw[hP];exact Mu me rules (s0,false) i
 have lcl:=Dz r.bo;have nx:=Aw i (by omega);have es:=Mv (me:=me) (rules:=rules) (k:=i) (P:=(s0,false));rw[hgr,←hP]at es;by_cases hbo:r.bo.length=0
 case neg=>
  rw[if_neg hbo]at es;have d1:=decide_eq_false (show¬(r.bo.length:Int)=0 by omega);simp only[go_sem,Aa,f3,f15,rg,Ch,lcl,d1,nx];exact⟨by omega,rules.length-(i+1),by omega,i+1,a',P,σE,rfl,by omega,es.symm,hO.le (by omega),hV,hE,hF,f14,rfl⟩
 rw[if_pos hbo]at es;have d1:=decide_eq_true (show(r.bo.length:Int)=0 by omega);have hil':i<P.1.rules.length:=by rw[K'.rules,r0];exact hil
 have hri:P.1.rules[i]=r:=by rw[hrr];exact List.getElem_of_eq (K'.rules.trans r0) hil'
 have mP:P.1.me=me:=K'.me.trans m0;have TP:P.1.T=[]:=K'.T.trans T0;simp only[go_sem,Aa,f3,f14,f15,rg,Ch,lcl,d1];have hc:=Z8 hE hO (by omega) i hil' (-1) faZ Aih;rw[hri,mP,TP]at hc;refine⟨by omega,(AT.pre hc (by kernel_rfl) hV (vws_same (vws_same (vws_same (vws_cons (.agg [str emp,str emp,str emp,A0] faZ.cs rfl (show VWs _ _ [str emp,str emp,str emp,A0] faZ.cs from vws_same (vws_same (vws_same (vws_cons (.nil 3) B6)))).2) B6))))).mono ?_⟩;rintro _ σ5 ⟨a2,E2,G2⟩;have O2:=X7 (n:=0) (me:=me) (rules:=rules) (P:=(s0,false)) (by rw[hs0];exact Nl hlim.1 hlim.2 hr hl hn) hr (i+1) (by omega);rw[es,Nat.zero_add]at O2;simp only[go_sem,Aa,f15,nx];exact⟨rules.length-(i+1),by omega,i+1,a2,lkD me faZ [] i r (-1) P,σ5,rfl,by omega,es.symm,O2,Gh fun _ _ h=>.inl h,E2,fun y o hy=>G2 y o (hF y o hy).1 (hF y o hy).2,f3,f14,rfl⟩
end
def Ke(P:ES×Bool)(a:Ac):ES×Bool:=if a.k=0 then((Dx P.1 a.f).2,P.2)else if a.k=1 then((Gb P.1 a.f).2,P.2)else if a.k=2 then(Cw P.1 P.2).2 else P
theorem Ak3{P:ES×Bool}{a:Ac}(h:(Ke P a).2=false):P.2=false∧(Ke P a).1=Ht P.1 a∧(a.k=2→H6 P.1):=by
 unfold Ke at h⊢;unfold Ht;by_cases k0:a.k=0
 ·rw[if_pos k0]at h⊢;rw[if_pos k0];exact⟨h,rfl,fun e=>by omega⟩
 rw[if_neg k0]at h⊢;rw[if_neg k0];by_cases k1:a.k=1
 ·rw[if_pos k1]at h⊢;rw[if_pos k1];exact⟨h,rfl,fun e=>by omega⟩
 rw[if_neg k1]at h⊢;rw[if_neg k1];by_cases k2:a.k=2
 ·rw[if_pos k2]at h⊢;rw[if_pos k2]
  obtain⟨h1,_,h3⟩:=Xx h;exact⟨h1,h3,fun _=>Xy h⟩
 ·rw[if_neg k2]at h⊢;rw[if_neg k2];exact⟨h,rfl,fun e=>absurd e k2⟩
theorem Ak4{n g:Nat}{P:ES×Bool}{a:Ac}{rs:List Rl}(h:SOk n P.1)(hg:P.1.given.length≤g)(g1:g+1≤1000000)(hr:P.1.rules=rs)(hl:Cp rs rs.length≤80):SOk (n+4800320) (Ke P a).1∧(Ke P a).1.given.length≤g+1∧(Ke P a).1.rules=rs:=by
 unfold Ke;split
 ·have:=W3 (f:=a.f) h hg g1
  exact⟨this.1.le (by omega),this.2,(Vd P.1 a.f).rules.trans hr⟩
 ·split
  ·have:=Adc (f:=a.f) h hg
   exact⟨this.1.le (by omega),Nat.le_trans this.2 (Nat.le_succ g),(Ux P.1 a.f).rules.trans hr⟩
  ·split
   ·obtain⟨k1,k2⟩:=Ae3 (hv:=P.2) h
    have k3:(Cw P.1 P.2).2.1.given=P.1.given:=by
     unfold Cw;split
     ·rfl
     split
     ·rfl
     split
     ·rfl
     split
     ·exact(Lr _ _ _ _ _ _).given
     ·rfl
    rw[hr]at k1;refine⟨k1.le (Nat.add_le_add_left (Nat.le_trans (Nat.mul_le_mul hl (Nat.le_refl 60004)) (by decide)) n),by rw[k3];omega,k2.trans hr⟩
   ·exact⟨h.le (by omega),by omega,hr⟩
section
variable{σ:St}
set_option maxHeartbeats 1600000 in
theorem Aca{lv:AV}(me:ByteArray)(names:List ByteArray)(lim:Int)(rs:List Rl)(l:List Ac)(hS:C7Sm names rs l)(h0:Rd 5 σ lv (acC l)):
  AT Tryz.prog 13 [.agg (c7C me names lim rs),lv] σ fun v σ'=>
   (v= .tup [.v (.pointer none),.v (.pointer none),boo false]∧∀z o,σ z=some o→σ' z=some o)∨
   (∃x a y b,v= .tup [ptr x,ptr y,boo true]∧Fin7 me names rs l (S9 me names rs l)∧Both σ' x a y b (S9 me names rs l)∧∀z o,σ z=some o→σ' z=some o∧¬Bo x a z∧¬Bo y b z):=by
 refine AT.ob Tryz.func13 rfl ?_;have ho:(c7C me names lim rs).all AV.one=true:=rfl;have al:=hS.al;have rl80:=hS.rl;have nm8:=hS.nm;have n8:∀m,m+4860324≤800000000000→m+Cp rs rs.length*60004+60004≤800000000000:=by
  have:=hS.lt;revert this;generalize Cp rs rs.length=L;intro h m hm;have:=Nat.mul_le_mul h (Nat.le_refl 60004);omega
 have n7:∀m,m+4860324≤800000000000→m+Cp rs rs.length*60002≤800000000000:=by
  have:=hS.lt;revert this;generalize Cp rs rs.length=L;intro h m hm;have:=Nat.mul_le_mul h (Nat.le_refl 60002);omega
 have no:∀{fr:Fr} {σ':St},(∀y o,σ y=some o→σ' y=some o)→A7 Tryz.prog fr σ' (Tryz.f13).results.toList=some (.tup [.v (.pointer none),.v (.pointer none),boo false])→Dp Tryz.prog (fun v σ'=>(v= .tup [.v (.pointer none),.v (.pointer none),boo false]∧∀z o,σ z=some o→σ' z=some o)∨
   (∃x a y b,v= .tup [ptr x,ptr y,boo true]∧Fin7 me names rs l (S9 me names rs l)∧Both σ' x a y b (S9 me names rs l)∧∀z o,σ z=some o→σ' z=some o∧¬Bo x a z∧¬Bo y b z)) (Tryz.f13).results.toList fr σ':=fun hs hr=>
  Ad hr (.inl ⟨rfl,hs⟩)
 simp only[go_sem,ho];refine Ctx.nil.alloc fun p σ1 c1=>?_;have hp:=c1.g0;have hs1:=c1.sub;have fp:=c1.f0;clear c1;simp only[go_sem,hp];refine(Anz me names 4096 rs (by omega) (by omega) hS.rs).mono ?_;rintro _ σ2 (⟨rfl,hbad,hs2⟩|⟨n1,n2,n3,n4,y,b,rfl,E2,F2⟩)
 ·simp only[go_sem]
  exact no (fun z o hz=>hs2 _ _ (hs1 _ _ hz)) rfl
 simp only[go_sem];obtain⟨s0,hs0⟩:∃s0,s0=Et me names 4096 rs:=⟨_,rfl⟩;have hr0:s0.rules=rs:=by rw[hs0];exact(H5 me rs (Om me names 4096 rs) rs.length).rules
 have O0:SOk (4800320+0*4800320) s0:=by
  rw[hs0];exact(X8 (n:=0) (me:=me) (rules:=rs) (Nl n3 n4 hS.rs (by omega) (by omega)) rs.length).le (by omega)
 have G0:s0.given.length≤0:=by
  rw[hs0,show(Et me names 4096 rs).given=[]from(H5 me rs (Om me names 4096 rs) rs.length).given];exact Nat.le_refl _
 obtain⟨P0,hP0⟩:∃P0,P0=newD me names 4096 rs:=⟨_,rfl⟩;have e0:P0.2=false→P0.1=s0:=fun h=>by rw[hP0]at h⊢;rw[hs0];exact(X6 _ h).2
 have OP0:SOk 4800320 P0.1∧P0.1.given.length≤0∧P0.1.rules=rs:=by
  have k:=Mu me rs (Om me names 4096 rs,false) rs.length;refine⟨?_,?_,?_⟩
  ·rw[hP0]
   exact(X7 (n:=0) (P:=(Om me names 4096 rs,false)) (me:=me) (Nl n3 n4 hS.rs (by omega) (by omega)) hS.rs rs.length (Nat.le_refl _)).le (by omega)
  ·rw[hP0];show(zerD me rs rs.length _).1.given.length≤0;rw[k.given];exact Nat.le_refl _
  ·rw[hP0];exact k.rules
 rw[←hP0]at E2;have hp2:=F2 _ _ hp;have FF2:∀z o,σ z=some o→σ2 z=some o∧¬Bo y b z:=fun z o hz=>F2 _ _ (hs1 _ _ hz);refine⟨fun m fr σ'=>∃(i:Nat) (b:EA) (P:ES×Bool),m=l.length-i∧i≤l.length∧EV true σ' y b P.1 P.2∧SOk (4800320+i*4800320) P.1∧P.1.given.length≤i∧P.1.rules=rs∧(P.2=false→P.1=Ew (l.take i) s0∧∀j (hj:j<l.length),j<i→l[j].k=2→H6 (Ew (l.take j) s0))∧(∀z o,σ z=some o→σ' z=some o∧¬Bo y b z)∧σ' p=some (.cells (c7C me names lim rs))∧¬Bo y b p∧fr 1=lv∧fr 2=ptr p∧fr 7=ptr y∧fr 9=int i,⟨_,0,b,P0,rfl,by omega,E2,OP0.1,OP0.2.1,OP0.2.2,fun h=>⟨e0 h,fun j hj h=>by omega⟩,FF2,hp2.1,hp2.2,rfl,rfl,rfl,rfl⟩,?_⟩;clear E2 OP0 e0 F2 FF2 hp2 hp hs1;rintro m fr σ3 ⟨i,b,P,rfl,hi,E3,O3,G3,R3,hrun,F3,hp3,np3,f1,f2,f7,f9⟩;have hlv:Rd 5 σ3 lv (acC l):=h0.keep fun z o hz=>(F3 z o hz).1;by_cases hil:i<l.length
 ·have d1:=decide_eq_true (show(i:Int)<l.length by omega)
  have hfs:=hS.fs _ (List.getElem_mem hil);have nx:=Aw i (by omega);simp only[go_sem,Aa,f1,f9,hlv.len,C4,d1];refine hlv.elem (by omega) (by rw[C4];omega) fun q0 hq0=>?_;rw[Int.toNat_natCast,Kd hil]at hq0;simp only[go_sem];refine hq0.fld (by decide) (by rw[Ac.len];omega) fun q1 hq1=>?_;simp only[go_sem];refine hq1.load1 (by decide) (by rw[Ac.len];omega) ?_;simp only[go_sem,Ac.at0];refine Jh (fun fr σ'=>∃b',EV true σ' y b' (Ke P l[i]).1 (Ke P l[i]).2∧(∀z o,σ z=some o→σ' z=some o∧¬Bo y b' z)∧σ' p=some (.cells (c7C me names lim rs))∧¬Bo y b' p∧fr 1=lv∧fr 2=ptr p∧fr 7=ptr y∧fr 9=int i) ?_ ?_
  ·by_cases k0:l[i].k=0
   ·have ea:Ke P l[i]=((Dx P.1 l[i].f).2,P.2):=by unfold Ke;rw[if_pos k0]
    simp only[go_sem,Aa,decide_eq_true k0,f1,f7,f9];refine hlv.elem (by omega) (by rw[C4];omega) fun r0 hr0=>?_;rw[Int.toNat_natCast,Kd hil]at hr0;simp only[go_sem];refine hr0.fld (by decide) (by rw[Ac.len];omega) fun r1 hr1=>?_;simp only[go_sem];refine hr1.load (by decide) (by rw[Ac.len];omega) ?_;simp only[go_sem,Ac.fa];refine(Acg E3 O3 (by omega) l[i].f).mono ?_;rintro _ σ4 ⟨rfl,b2,E4,G4⟩;simp only[go_sem,Aa];exact⟨b2,by rw[ea];exact E4,fun z o hz=>G4 z o (F3 z o hz).1 (F3 z o hz).2,(G4 _ _ hp3 np3).1,(G4 _ _ hp3 np3).2,f1,f2,f7,f9⟩
   by_cases k1:l[i].k=1
   ·have ea:Ke P l[i]=((Gb P.1 l[i].f).2,P.2):=by unfold Ke;rw[if_neg k0,if_pos k1]
    simp only[go_sem,Aa,decide_eq_false k0,decide_eq_true k1,f1,f7,f9];refine hlv.elem (by omega) (by rw[C4];omega) fun r0 hr0=>?_;rw[Int.toNat_natCast,Kd hil]at hr0;simp only[go_sem];refine hr0.fld (by decide) (by rw[Ac.len];omega) fun r1 hr1=>?_;simp only[go_sem];refine hr1.load (by decide) (by rw[Ac.len];omega) ?_;simp only[go_sem,Ac.fa];refine(Acc E3 O3 (by omega) l[i].f hfs).mono ?_;rintro _ σ4 ⟨rfl,b2,E4,G4⟩;simp only[go_sem,Aa];exact⟨b2,by rw[ea];exact E4,fun z o hz=>G4 z o (F3 z o hz).1 (F3 z o hz).2,(G4 _ _ hp3 np3).1,(G4 _ _ hp3 np3).2,f1,f2,f7,f9⟩
   by_cases k2:l[i].k=2
   ·have ea:Ke P l[i]=(Cw P.1 P.2).2:=by unfold Ke;rw[if_neg k0,if_neg k1,if_pos k2]
    simp only[go_sem,Aa,decide_eq_false k0,decide_eq_false k1,decide_eq_true k2,f7];refine(Aaa E3 O3 (by rw[R3];exact n8 _ (by omega))).mono ?_;rintro _ σ4 ⟨rfl,b2,E4,G4⟩;simp only[go_sem,Aa];exact⟨b2,by rw[ea];exact E4,fun z o hz=>G4 z o (F3 z o hz).1 (F3 z o hz).2,(G4 _ _ hp3 np3).1,(G4 _ _ hp3 np3).2,f1,f2,f7,f9⟩
   ·have ea:Ke P l[i]=P:=by unfold Ke;rw[if_neg k0,if_neg k1,if_neg k2]
    simp only[go_sem,Aa,decide_eq_false k0,decide_eq_false k1,decide_eq_false k2];exact⟨b,by rw[ea];exact E3,F3,hp3,np3,f1,f2,f7,f9⟩
  ·rintro fr σ4 ⟨b2,E4,F4,hp4,np4,f1,f2,f7,f9⟩
   have hy4:=E4.cx;obtain⟨q1,q2,q3⟩:=Ak4 (a:=l[i]) O3 G3 (by omega) R3 hS.lt;cases hv:(Ke P l[i]).2 with
   |true=>
    rw[hv]at hy4;simp only[go_sem,Aa,f7,hy4];exact no (fun z o hz=>(F4 z o hz).1) rfl
   |false=>
    rw[hv]at hy4;obtain⟨w1,w2,w3⟩:=Ak3 hv;obtain⟨u1,u2⟩:=hrun w1;simp only[go_sem,Aa,f7,f9,hy4,nx]
    exact⟨l.length-(i+1),by omega,i+1,b2,Ke P l[i],rfl,by omega,E4,q1.le (by omega),q2,q3,fun _=>⟨by rw[w2,u1,Qu _ hil],fun j hj hji hk=>by
     by_cases e:j=i
     ·subst e;rw[←u1];exact w3 hk
     ·exact u2 j hj (by omega) hk⟩,F4,hp4,np4,f1,f2,rfl⟩
 ·have ei:i=l.length:=by omega
  subst ei;rw[List.take_length]at hrun;have d1:=decide_eq_false (show¬((l.length:Nat):Int)<l.length by omega);simp only[go_sem,Aa,f1,f7,f9,hlv.len,C4,d1];refine(Agl E3 O3 (by rw[R3];exact hS.lt) (by omega)).mono ?_;rintro _ σ4 ⟨rfl,b2,E4,G4⟩;have F4:∀z o,σ z=some o→σ4 z=some o∧¬Bo y b2 z:=fun z o hz=>G4 z o (F3 z o hz).1 (F3 z o hz).2;have hp4:=G4 _ _ hp3 np3;cases hd:(P9 400 (P.1,P.2)).1 with
  |false=>
   simp only[go_sem,Aa,hd,Bool.not_false];exact no (fun z o hz=>(F4 z o hz).1) rfl
  |true=>
  obtain⟨w1,w2,w3,w4⟩:=Adp 400 P.1 P.2 hd;obtain⟨u1,u2⟩:=hrun w1;rw[w4,←w3,u1]at E4;rw[u1]at w2;have hw2:∀j (h:j<l.length),l[j].k=2→H6 (Ew (l.take j) (Et me names 4096 rs)):=fun j h hk=>by rw[←hs0];exact u2 j h h hk
  have Fn:=fin7 n1 n2 hS hw2 (by rw[←hs0];exact w2);have efin:S9 me names rs l=Hq 400 (Ew l s0):=by rw[hs0];rfl
  rw[←efin]at E4;clear E3 O3 G3 R3 hrun F3 hp3 np3 w1 w3 w4;simp only[go_sem,Aa,hd,f2,hp4.1,Bool.not_true];refine(Ady me names 4096 rs (by omega) (by omega) hS.rs).mono ?_;rintro _ σ5 (⟨rfl,hbad,_⟩|⟨_,_,_,_,x,a,rfl,E5,F5⟩)
  ·rcases hbad with h|h|h
   ·exact absurd n1 h
   ·exact absurd h n2
   ·exact absurd ⟨n3,n4⟩ h
  rw[←hs0]at E5;have y5:EV true σ5 y b2 (S9 me names rs l) false:=E4.keep fun z o hz _=>(F5 z o hz).1;have dj5:∀z,Bo x a z→¬Bo y b2 z:=fun z hx hy=>by
   obtain⟨o,ho⟩:=If E4 hy;exact(F5 z o ho).2 hx
  have FF5:∀z o,σ z=some o→σ5 z=some o∧¬Bo x a z∧¬Bo y b2 z:=fun z o hz=>⟨(F5 z o (F4 z o hz).1).1,(F5 z o (F4 z o hz).1).2,(F4 z o hz).2⟩;clear E4 G4 F4 hp4 F5 f2 f9;simp only[go_sem,Aa];refine⟨fun m fr σ'=>∃(j:Nat) (a:EA),m=l.length-j∧j≤l.length∧EV false σ' x a (Ew (l.take j) s0) false∧EV true σ' y b2 (S9 me names rs l) false∧(∀z,Bo x a z→¬Bo y b2 z)∧SOk (4800320+j*4800320) (Ew (l.take j) s0)∧(Ew (l.take j) s0).given.length≤j∧(∀z o,σ z=some o→σ' z=some o∧¬Bo x a z∧¬Bo y b2 z)∧fr 1=lv∧fr 7=ptr y∧fr 10=ptr x∧fr 12=int j,⟨_,0,a,rfl,by omega,E5,y5,dj5,O0,G0,FF5,f1,f7,rfl,rfl⟩,?_⟩;clear E5 y5 dj5 O0 G0 FF5 f1 f7 hlv;rintro m fr σ6 ⟨j,a,rfl,hj,E6,y6,dj6,O6,G6,F6,f1,f7,f10,f12⟩;have hlv:Rd 5 σ6 lv (acC l):=h0.keep fun z o hz=>(F6 z o hz).1;have R6:(Ew (l.take j) s0).rules=rs:=(Mm (l.take j) s0).rules.trans hr0;by_cases hjl:j<l.length
  ·have d1:=decide_eq_true (show(j:Int)<l.length by omega)
   have hfs:=hS.fs _ (List.getElem_mem hjl);have nx:=Aw j (by omega);simp only[go_sem,f1,f12,hlv.len,C4,d1];refine Jh (fun fr σ'=>∃a',EV false σ' x a' (Ht (Ew (l.take j) s0) l[j]) false∧EV true σ' y b2 (S9 me names rs l) false∧(∀z,Bo x a' z→¬Bo y b2 z)∧(∀z o,σ z=some o→σ' z=some o∧¬Bo x a' z∧¬Bo y b2 z)∧fr 1=lv∧fr 7=ptr y∧fr 10=ptr x∧fr 12=int j) ?_ ?_
   ·simp only[go_sem,Aa,f1,f12]
    refine hlv.elem (by omega) (by rw[C4];omega) fun q0 hq0=>?_;rw[Int.toNat_natCast,Kd hjl]at hq0;simp only[go_sem];refine hq0.fld (by decide) (by rw[Ac.len];omega) fun q1 hq1=>?_;simp only[go_sem];refine hq1.load1 (by decide) (by rw[Ac.len];omega) ?_;simp only[go_sem,Ac.at0];by_cases k0:l[j].k=0
    ·have ea:Ht (Ew (l.take j) s0) l[j]=(Dx (Ew (l.take j) s0) l[j].f).2:=by unfold Ht;rw[if_pos k0]
     simp only[go_sem,Aa,decide_eq_true k0,f1,f10,f12];refine hlv.elem (by omega) (by rw[C4];omega) fun r0 hr0=>?_;rw[Int.toNat_natCast,Kd hjl]at hr0;simp only[go_sem];refine hr0.fld (by decide) (by rw[Ac.len];omega) fun r1 hr1=>?_;simp only[go_sem];refine hr1.load (by decide) (by rw[Ac.len];omega) ?_;simp only[go_sem,Ac.fa];refine(S1 E6 O6 (by omega) l[j].f).mono ?_;rintro _ σ7 ⟨rfl,a2,E7,G7⟩;obtain⟨y7,dj7⟩:=y6.stay G7 fun z hz hx=>dj6 z hx hz;simp only[go_sem,Aa]
     exact⟨a2,by rw[ea];exact E7,y7,fun z hx hy=>dj7 z hy hx,fun z o hz=>by
      obtain⟨k1,k2,k3⟩:=F6 z o hz;exact⟨(G7 z o k1 k2).1,(G7 z o k1 k2).2,k3⟩,f1,f7,f10,f12⟩
    by_cases k1:l[j].k=1
    ·have ea:Ht (Ew (l.take j) s0) l[j]=(Gb (Ew (l.take j) s0) l[j].f).2:=by unfold Ht;rw[if_neg k0,if_pos k1]
     simp only[go_sem,Aa,decide_eq_false k0,decide_eq_true k1,f1,f10,f12];refine hlv.elem (by omega) (by rw[C4];omega) fun r0 hr0=>?_;rw[Int.toNat_natCast,Kd hjl]at hr0;simp only[go_sem];refine hr0.fld (by decide) (by rw[Ac.len];omega) fun r1 hr1=>?_;simp only[go_sem];refine hr1.load (by decide) (by rw[Ac.len];omega) ?_;simp only[go_sem,Ac.fa];refine(Sz E6 O6 (by omega) l[j].f hfs).mono ?_;rintro _ σ7 ⟨rfl,a2,E7,G7⟩;obtain⟨y7,dj7⟩:=y6.stay G7 fun z hz hx=>dj6 z hx hz;simp only[go_sem,Aa]
     exact⟨a2,by rw[ea];exact E7,y7,fun z hx hy=>dj7 z hy hx,fun z o hz=>by
      obtain⟨k1,k2,k3⟩:=F6 z o hz;exact⟨(G7 z o k1 k2).1,(G7 z o k1 k2).2,k3⟩,f1,f7,f10,f12⟩
    by_cases k2:l[j].k=2
    ·have ea:Ht (Ew (l.take j) s0) l[j]=(Bs (Ew (l.take j) s0)).2:=by unfold Ht;rw[if_neg k0,if_neg k1,if_pos k2]
     simp only[go_sem,Aa,decide_eq_false k0,decide_eq_false k1,decide_eq_true k2,f10];refine(Oe E6 O6 (by rw[R6];exact n7 _ (by omega)) (u2 j hjl hjl k2)).mono ?_;rintro _ σ7 ⟨rfl,a2,E7,G7⟩;obtain⟨y7,dj7⟩:=y6.stay G7 fun z hz hx=>dj6 z hx hz;simp only[go_sem,Aa]
     exact⟨a2,by rw[ea];exact E7,y7,fun z hx hy=>dj7 z hy hx,fun z o hz=>by
      obtain⟨k1,k2,k3⟩:=F6 z o hz;exact⟨(G7 z o k1 k2).1,(G7 z o k1 k2).2,k3⟩,f1,f7,f10,f12⟩
    ·have ea:Ht (Ew (l.take j) s0) l[j]=Ew (l.take j) s0:=by unfold Ht;rw[if_neg k0,if_neg k1,if_neg k2]
     simp only[go_sem,Aa,decide_eq_false k0,decide_eq_false k1,decide_eq_false k2];exact⟨a,by rw[ea];exact E6,y6,dj6,F6,f1,f7,f10,f12⟩
   ·rintro fr σ7 ⟨a2,E7,y7,dj7,F7,f1,f7,f10,f12⟩
    obtain⟨q1,q2⟩:=Ac6 (a:=l[j]) O6 G6 (by omega) (by rw[R6];exact hS.lt) (u2 j hjl hjl);rw[←Qu _ hjl]at E7 q1 q2;simp only[go_sem,Aa,f12,nx];exact⟨l.length-(j+1),by omega,j+1,a2,rfl,by omega,E7,y7,dj7,q1.le (by omega),q2,F7,f1,f7,f10,rfl⟩
  ·have ej:j=l.length:=by omega
   subst ej;rw[List.take_length]at E6 O6 R6;have d1:=decide_eq_false (show¬((l.length:Nat):Int)<l.length by omega);simp only[go_sem,Aa,f1,f10,f12,hlv.len,C4,d1];refine(Afy E6 O6 (by rw[R6];exact hS.lt) 400 (by omega) w2).mono ?_;rintro _ σ7 ⟨a2,E7,G7⟩;obtain⟨y7,dj7⟩:=y6.stay G7 fun z hz hx=>dj6 z hx hz;rw[←efin]at E7;simp only[go_sem,Aa,f7,f10]
   exact Ad (r:=.tup [ptr x,ptr y,boo true]) rfl (.inr ⟨x,a2,y,b2,rfl,Fn,⟨E7,y7,fun z hx hy=>dj7 z hy hx⟩,fun z o hz=>by
    obtain⟨k1,k2,k3⟩:=F6 z o hz;exact⟨(G7 z o k1 k2).1,(G7 z o k1 k2).2,k3⟩⟩)
end
section
variable{σ:St}{t b1 b2:Nat}{T:List Fa}{lim:Int}
theorem Mc(h:TB σ t T lim)(hT:TOk T lim)(h1:σ b1=some (.cells [ptr t]))(h2:σ b2=some (.cells [fnv 117])):AT Tryz.prog 18 [R7 b1 b2] σ fun r σ'=>r= .sl 4 (faC T)∧σ'=σ:=by
 have hm:AT Tryz.prog 18 [R7 b1 b2] σ fun r σ'=>LAt 4 σ' r (faC T)∧B9 σ σ' r:=by
  refine AT.ob Tryz.func18 rfl ?_;have tlen:=hT.len;simp only[go_sem];refine Ax fun d hd hdm=>?_;have hI0:=OnI.start hd;obtain⟨σ2,e2⟩:∃s,s=σ.set d (.cells [A0]):=⟨_,rfl⟩;rw[←e2]at hI0⊢;clear e2 hdm;simp only[go_sem,Aa];refine⟨by kernel_rfl,?_⟩;refine Qi (fun fr=>fr 3=ptr d) rfl fun assign body fr hA hB f3=>?_;intro n l hl hlm;have htl:=hI0.none hl;have hsl:∀y o,σ2 y=some o→(σ2.set l (.loop fr n [9] assign body .ready none)) y=some o:=B4 hl fun _ _ h=>h;refine(Qy (t:=t) (b1:=b1) (b2:=b2) hT (fun i σ'=>OnI σ d (T.take i) σ'∧σ' l=some (.loop fr n [9] assign body .ready none)) ?_ ?_ ?_ ⟨by simpa using hI0.more hsl,Ab⟩).mono ?_
  ·rintro i σ5 ⟨g1,g2⟩
   exact⟨g1.sub h,g1.sub h1,g1.sub h2⟩
  ·rintro i σ5 σ6 ⟨g1,g2⟩ hs
   exact⟨g1.more hs,hs _ _ g2⟩
  ·rintro i σ5 hil ⟨g1,g2⟩
   refine Uo hA g2 rfl (by rw[hA,hB];rfl) ?_;have hbg:=fun k fr1 σ1=>Wd (P:=Tryz.prog) (l:=l) (fr:=fr) (fr1:=fr1) (σ1:=σ1) (ps:=[9]) (n:=n) (assign:=assign) (k:=k) hB;simp only[go_sem];refine Ax fun q hq hqm=>?_;obtain⟨σ6,e6⟩:∃s,s=σ5.set q (.cells T[i].cs):=⟨_,rfl⟩;have hs6:∀y o,σ5 y=some o→σ6 y=some o:=by rw[e6];exact B4 hq fun _ _ h=>h
   have hq6:σ6 q=some (.cells T[i].cs):=by rw[e6];exact Ab
   have g1':=g1.more hs6;have g2':=hs6 _ _ g2;simp only[go_sem,Ab,C0,←e6,hbg];clear e6 hqm hq g1 g2;refine⟨g2',?_⟩;have g3:=g1'.loop (σ':=σ6.set l (.loop fr n [9] assign body .busy none)) g2' htl fun y hy=>Af hy;have g4:(σ6.set l (.loop fr n [9] assign body .busy none)) l=some (.loop fr n [9] assign body .busy none):=Ab;have g5:(σ6.set l (.loop fr n [9] assign body .busy none)) q=some (.cells T[i].cs):=by rw[Af (fun e=>by rw[e,g2']at hq6;cases hq6)];exact hq6
   revert g3 g4 g5;generalize σ6.set l (.loop fr n [9] assign body .busy none)=σ7;intro g3 g4 g5;obtain⟨hd0,lv,k1,k2,k3⟩:=g3;have hld:l≠d:=fun e=>by rw[e,k1]at g4;cases g4
   have nl:¬Own lv l:=fun ho=>by obtain⟨cap,h⟩:=k2.own_rows ho;rw[g4]at h;cases h
   simp only[go_sem,Aa,f3,k1,g5];refine Ap (ys:=[T[i].cs]) rfl (by decide) (by decide) (by decide) (k2.app (by rw[Al,List.length_take];simp only[List.length_cons,List.length_nil];omega) fun lv' σ8 hL4 hs4=>?_);obtain⟨g6,g7⟩:=OnI.app hd0 k1 k2 k3 hL4 hs4;have m6:=hs4 _ _ g4 nl;simp only[go_sem,Aa,g7,f3,hL4.one,hL4.cells,Xn];have g6':(σ8.set d (.cells [lv'])) l=some (.loop fr n [9] assign body .busy none):=by rw[Af hld];exact m6.1
   have ht:T.take i++[T[i]]=T.take (i+1):=by rw[List.take_add_one,List.getElem?_eq_getElem hil];rfl
   rw[ht]at g6;exact⟨⟨_,g6'⟩,g6.loop (σ':=(σ8.set d (.cells [lv'])).set l (.loop fr n [9] assign body .ready none)) g6' htl (fun y hy=>Af hy)⟩
  ·rintro _ σ5 ⟨g1,g2⟩
   rw[List.take_of_length_le (by omega)]at g1;have hdel:∀y,y≠l→(σ5.del l) y=σ5 y:=fun y hy=>by simp only[St.del];rw[if_neg hy]
   have g3:=g1.loop g2 htl hdel;unfold M7;rw[g2];refine⟨(by intro h;cases h),?_⟩;unfold R2
   dsimp only
   obtain⟨_,lv,k1,k2,k3⟩:=g3;simp only[go_sem,Aa,f3,k1];exact Ad (r:=lv) rfl ⟨k2,k3⟩
 exact hm.post (by kernel_rfl) fun r σ' ⟨h1,h2⟩=>⟨_,_,Gf h1 h2,rfl,rfl⟩
end
section
variable{σ:St}
set_option maxHeartbeats 1600000 in
theorem evalOrders_at(hlive:∀σ,AT Tryz.prog 12 [] σ fun r σ'=>r=boo true∧σ'=σ)(me:ByteArray)(names:List ByteArray)(lim:Int)(rs:List Rl)(l:List Fa)(turn:Int)(hr1:rs.length≤140737488351232)(hr2:∀r∈rs,r.Wf)(hl:l.length≤140737488351232)(hf:∀f∈l,f.Wf):
  AT Tryz.prog 4 [.agg (c7C me names lim rs),.sl 4 (faC l),int turn] σ fun v σ'=>v=boo true:=by
 refine AT.ob Tryz.func4 rfl ?_;have ho:(c7C me names lim rs).all AV.one=true:=rfl;have fl:=Al l;simp only[go_sem,ho];refine Ctx.nil.alloc fun p σ1 c1=>?_;have hp:=c1.g0;clear c1;simp only[go_sem];refine⟨fun mm fr σ'=>∃(i:Nat) (la lb:AV),mm=l.length-i∧i≤l.length∧i≤60∧LAt 5 σ' la (acC (Nq (l.take i)))∧Ow 5 σ' lb (Ph (pks l turn i))∧B9 σ1 σ' la∧B9 σ1 σ' lb∧(∀y,Own la y→¬Own lb y)∧fr 1= .sl 4 (faC l)∧fr 2=int turn∧fr 3=ptr p∧fr 7=la∧fr 8=lb∧fr 9=int i,⟨_,0,A0,A0,rfl,by omega,by omega,.none,.inl ⟨rfl,.inl rfl⟩,.nil,.nil,fun y ho=>absurd ho B5,rfl,rfl,rfl,rfl,rfl,rfl⟩,?_⟩;rintro mm fr σ2 ⟨i,la,lb,rfl,hi,h60,hLa,hLb,hGa,hGb,hdj,f1,f2,f3,f7,f8,f9⟩;have hp2:=(hGa _ _ hp).1;by_cases g:i<l.length∧i<60
 ·have hil:=g.1
  have d1:=decide_eq_true (show(i:Int)<l.length by omega);have d2:=decide_eq_true (show(i:Int)<60 by omega);obtain⟨a,b,ea,a1,a2,eb,b1,b2,eq,q0,q1,ep,hpk⟩:=Asj turn hil (by omega);have w1:IntKind.i64.wrap ((i:Int)+a)=i+a:=Ah (by omega);have w2:IntKind.i64.wrap (b+l.length)=b+l.length:=Ah (by omega);have w3:IntKind.i64.wrap ((l.length:Int)-1)=l.length-1:=Ah (by omega);have w4:IntKind.i64.wrap ((l.length:Int)-1-((i+turn)% l.length))=(pk l.length turn i:Nat):=by rw[Ah (by omega),ep]
  have n0:(l.length:Int)≠0:=by omega
  simp only[go_sem,Aa,f1,f2,f9,fl,d1,d2,ea,w1,eb,w2,eq];refine⟨n0,n0,n0,?_⟩;simp only[go_sem,Aa,f1,f7,f9,fl,Ar hil];refine⟨by omega,?_⟩;refine Ap (ys:=[Ac.cs ⟨0,l[i]⟩]) rfl (by decide) (by decide) (by decide) (hLa.app (by rw[C4,Z0,List.length_take];simp only[List.length_cons,List.length_nil];omega) fun la' σ3 h3 s3=>?_);have hLb3:Ow 5 σ3 lb (Ph (pks l turn i)):=hLb.keep fun y o hy ho=>(s3 y o hy fun h=>hdj y h ho).1;rw[show acC (Nq (l.take i))++[Ac.cs ⟨0,l[i]⟩]=acC (Nq (l.take (i+1))) by rw[List.take_add_one,List.getElem?_eq_getElem hil];unfold acC Nq;rw[List.map_append,List.map_append];rfl]at h3;simp only[go_sem,Aa,f1,f8,f9,fl,w3,w4,Ar hpk];refine⟨by omega,?_⟩;refine Ap (ys:=[Ac.cs ⟨0,l[pk l.length turn i]⟩,zzC]) rfl (by decide) (by decide) (by decide) (Ow.of_app hLb3.lat (by simp) (by have:=(Xh σ σ (pks l turn i)).1;rw[C4,Tq,Aem]at this;simp only[List.length_cons,List.length_nil];omega) fun lb' σ4 h4 s4 _=>?_);rw[show Ph (pks l turn i)++[Ac.cs ⟨0,l[pk l.length turn i]⟩,zzC]=Ph (pks l turn (i+1)) by rw[Aj2,Aj5,List.getD_eq_getElem?_getD,List.getElem?_eq_getElem hpk];rfl]at h4;have hGb3:B9 σ1 σ3 lb:=fun y o hy=>⟨(hGa.step s3 y o hy).1,(hGb y o hy).2⟩;have dj3:∀y,Own la' y→¬Own lb y:=fun y h1 h2=>by
   obtain⟨c,hc⟩:=hLb.lat.own_rows h2;exact(s3 y _ hc fun h=>hdj y h h2).2 h1
  have hLa4:LAt 5 σ4 la' (acC (Nq (l.take (i+1)))):=h3.keep fun y o hy ho=>(s4 y o hy (dj3 y ho)).1;simp only[go_sem,Aa,f9,Aw i (by omega)]
  exact⟨l.length-(i+1),by omega,i+1,la',lb',rfl,by omega,by omega,hLa4,h4,fun y o hy=>⟨(hGb3.step s4 y o hy).1,(hGa.step s3 y o hy).2⟩,hGb3.step s4,fun y h1 h2=>by
   obtain⟨c,hc⟩:=h3.own_rows h1;exact(s4 y _ hc (dj3 y h1)).2 h2,f1,f2,f3,rfl,rfl,rfl⟩
 have no:∀{fr:Fr} {σ':St},A7 Tryz.prog fr σ' (Tryz.f4).results.toList=some (boo true)→Dp Tryz.prog (fun v σ'=>v=boo true) (Tryz.f4).results.toList fr σ':=fun hr=>Ad hr rfl;by_cases g1:60≤l.length
 ·have d0:=decide_eq_true (show(60:Int)≤l.length by omega)
  have d2:=decide_eq_false (show¬(i:Int)<60 by omega);by_cases g2:(i:Int)<l.length
  ·simp only[go_sem,Aa,f1,f9,fl,decide_eq_true g2,d2,d0]
   refine(hlive _).p ?_;simp only[go_sem,Aa];exact no rfl
  ·simp only[go_sem,Aa,f1,f9,fl,decide_eq_false g2,d2,d0]
   refine(hlive _).p ?_;simp only[go_sem,Aa];exact no rfl
 obtain rfl:i=l.length:=by omega
 have d0:=decide_eq_false (show¬(60:Int)≤l.length by omega);have d1:=decide_eq_false (show¬(l.length:Int)<l.length by omega);rw[List.take_of_length_le (Nat.le_refl _)]at hLa;simp only[go_sem,Aa,f1,f3,f7,f9,fl,d1,d0,hp2];obtain⟨bs,ebs⟩:∃bs,bs=pks l turn l.length:=⟨_,rfl⟩;have bl:bs.length=l.length:=by rw[ebs,Aem]
 have bm:∀{f},f∈bs→f∈l:=fun h=>by rw[ebs]at h;exact Xe.1 h
 rw[←ebs]at hLb;obtain⟨τ,sv,hLb',st⟩:=hLb.weak (Xh σ2 σ2 bs).1 fun σ'=>(Xh σ2 σ' bs).2;have hLa':LAt 5 τ la (acC (Nq l)):=hLa.keep fun y o hy ho=>st y o hy (hdj y ho);have hp3:=st _ _ hp2 (hGb _ _ hp).2;have ra:Rd 5 τ la (acC (Nq l)):=.of hLa';have rb:Rd 5 τ lb (acC (Ky bs)):=.of hLb'.lat;refine(AT.pre (U7 me names lim rs (Nq l) ⟨hr1,hr2,by rw[Z0];omega,fun a ha=>by obtain⟨f,h,rfl⟩:=O4.1 ha;exact hf f h⟩ ra) (by kernel_rfl) sv (By _)).mono ?_;rintro _ σ3 ⟨⟨b1,rfl,hb1⟩,rfl⟩;cases b1 with
 |false=>
  simp only[go_sem,Aa,Bool.not_false];refine(hlive _).p ?_;simp only[go_sem,Aa];exact no rfl
 |true=>
 have hSa:=hb1 rfl;have rl80:=hSa.rl;have nm8:=hSa.nm;simp only[go_sem,Aa,Bool.not_true,f3,f8,hp3]
 refine(U7 me names lim rs (Ky bs) ⟨hr1,hr2,by rw[Tq];omega,fun a ha=>by
  rcases To ha with⟨f,h,rfl⟩|rfl
  ·exact hf f (bm h)
  ·exact⟨by decide,by decide,by decide,by decide,fun c hc=>by cases hc⟩⟩ rb).mono ?_
 rintro _ σ3 ⟨⟨b1,rfl,hb2⟩,rfl⟩;cases b1 with
 |false=>
  simp only[go_sem,Aa,Bool.not_false];refine(hlive _).p ?_;simp only[go_sem,Aa];exact no rfl
 |true=>
 have hSb:=hb2 rfl;simp only[go_sem,Aa,Bool.not_true,f3,hp3];refine(Agp me names lim rs (by omega) (by omega) hSa.rs).mono ?_;rintro _ σ3 ⟨⟨b1,rfl,hb3⟩,rfl⟩;cases b1 with
 |false=>
  simp only[go_sem,Aa,Bool.not_false];refine(hlive _).p ?_;simp only[go_sem,Aa];exact no rfl
 |true=>
 simp only[go_sem,Aa,Bool.not_true,f3,f7,hp3];refine(Aca me names lim rs (Nq l) hSa ra).mono ?_;have two:∀{σ4:St},(∀z o,σ3 z=some o→σ4 z=some o)→σ4 p=some (.cells (c7C me names lim rs))∧Rd 5 σ4 lb (acC (Ky bs)):=fun h=>⟨h _ _ hp3,rb.keep h⟩;rintro _ σ4 (⟨rfl,hs4⟩|⟨x,a,y,b,rfl,Fa,Ba,F4⟩)
 ·obtain⟨hp4,rb4⟩:=two hs4
  simp only[go_sem,Aa,f3,f8,hp4];refine(Aca me names lim rs (Ky bs) hSb rb4).mono ?_;rintro _ σ5 (⟨rfl,hs5⟩|⟨x,a,y,b,rfl,Fb,Bb,F5⟩)
  ·simp only[go_sem,Aa,Bool.not_false]
   refine(hlive _).p ?_;simp only[go_sem,Aa];exact no rfl
  ·simp only[go_sem,Aa,Bool.not_false]
   refine(hlive _).p ?_;simp only[go_sem,Aa];exact no rfl
 obtain⟨hp4,rb4⟩:=two fun z o hz=>(F4 z o hz).1;simp only[go_sem,Aa,f3,f8,hp4];refine(Aca me names lim rs (Ky bs) hSb rb4).mono ?_;rintro _ σ5 (⟨rfl,hs5⟩|⟨x',a',y',b',rfl,Fb,Bb,F5⟩)
 ·simp only[go_sem,Aa,Bool.not_true,Bool.not_false]
  refine(hlive _).p ?_;simp only[go_sem,Aa];exact no rfl
 obtain⟨s,hs⟩:∃s,s=S9 me names rs (Nq l):=⟨_,rfl⟩;obtain⟨t,ht⟩:∃s,s=S9 me names rs (Ky bs):=⟨_,rfl⟩;rw[←hs]at Fa Ba;rw[←ht]at Fb Bb;have Ex:=Ba.ex.more fun z o hz=>(F5 z o hz).1;have Ex':=Bb.ex;rw[ebs]at Fb;obtain⟨eT,eE⟩:=Agg Fa Fb;have gl:=Fa.gl;have tok:=Fa.ok.tok;have tok':=Fb.ok.tok;have tl:=tok.len;have htx:TB σ5 a.t s.T s.lim:=Ex.ct;have htx':TB σ5 a'.t t.T t.lim:=Ex'.ct;simp only[go_sem,Aa,Bool.not_true];refine(Ma Ex).mono ?_;rintro _ σ6 ⟨b1,b2,rfl,c4⟩;have Ex6:=Ex.more c4.sub;have Ex6':=Ex'.more c4.sub;obtain⟨⟨k1,k2⟩,_⟩:=c4.g1;have htx6:TB σ6 a.t s.T s.lim:=c4.sub _ _ htx;have htx6':TB σ6 a'.t t.T t.lim:=c4.sub _ _ htx';simp only[go_sem,Aa];refine(Mc htx6 tok k2 k1).p ?_;simp only[go_sem,Aa];refine(Ma Ex6').mono ?_;rintro _ σ7 ⟨b3,b4,rfl,c5⟩;have Ex7:=Ex6.more c5.sub;have Ex7':=Ex6'.more c5.sub;obtain⟨⟨j1,j2⟩,_⟩:=c5.g1;have htx7':TB σ7 a'.t t.T t.lim:=c5.sub _ _ htx6';simp only[go_sem,Aa];refine(Mc htx7' tok' j2 j1).p ?_;simp only[go_sem,Aa];rw[←eT];refine(Zv (a:=s.T) (b:=s.T) .sl .sl (by omega) tok.sm (by omega) tok.sm).p ?_;simp only[go_sem,Aa,decide_true];refine(Q5 Ex7 Fa.ok (by omega)).p ?_;simp only[go_sem,Aa];refine(Q5 Ex7' Fb.ok (by omega)).p ?_;simp only[go_sem,Aa];rw[←eE];obtain⟨xl,xs⟩:=Abj Fa.ok;refine(Zv (a:=Hw s) (b:=Hw s) .sl .sl (by omega) xs (by omega) xs).p ?_;simp only[go_sem,Aa,decide_true];refine(hlive _).p ?_;simp only[go_sem,Aa];exact no rfl
end
def txA:ByteArray:=⟨#[97]⟩
def tmX:Tm:=⟨⟨#[88]⟩,false,0,emp⟩
def rlA:Rl:=⟨⟨⟨#[65]⟩,false,0,emp⟩,⟨#[112]⟩,[tmX],.zero,[⟨.zero,⟨#[113]⟩,[tmX],.zero⟩]⟩
def faA:Fa:=⟨txA,txA,⟨#[113]⟩,[⟨true,1,emp⟩]⟩
def fpA:Fa:=⟨txA,txA,⟨#[112]⟩,[⟨true,1,emp⟩]⟩
def liv(T:List Fa)(B:List De)(g q:List Fa):ES:=⟨txA,[txA],[rlA],T,9,B,g,q,[],false⟩
def deA:De:=⟨0,fpA,[faA]⟩
theorem Ape:Et txA [txA] 9 [rlA]=liv [] [] [] []:=by kernel_rfl
theorem Ai9:Dx (liv [] [] [] []) faA=(0,liv [] [] [faA] [faA]):=by kernel_rfl
theorem Aja:Bs (liv [] [] [faA] [faA])=(true,liv [faA] [deA] [faA] [fpA]):=by kernel_rfl
theorem Ajb:Bs (liv [faA] [deA] [faA] [fpA])=(true,liv [fpA,faA] [deA] [faA] []):=by kernel_rfl
theorem Apf:Gb (liv [fpA,faA] [deA] [faA] []) faA=(0,liv [] [] [] []):=by kernel_rfl
theorem Ad8:H6 (liv [] [] [faA] [faA]):=fun _ f q hq _ _ i hi j hj=>by
 injection hq with e1 e2;subst e1;obtain rfl:i=0:=by have:i<1:=hi;omega
 obtain rfl:j=0:=by have:j<1:=hj;omega
 exact Nat.le_of_ble_eq_true (by kernel_rfl)
theorem Ad9:H6 (liv [faA] [deA] [faA] [fpA]):=fun _ f q hq _ _ i hi j hj=>by
 injection hq with e1 e2;subst e1;obtain rfl:i=0:=by have:i<1:=hi;omega
 obtain rfl:j=0:=by have:j<1:=hj;omega
 exact Nat.le_of_ble_eq_true (by kernel_rfl)
theorem Akb:∀r∈[rlA],r.S4:=fun r hr=>by
 rw[List.mem_singleton.1 hr];exact⟨⟨by decide,fun l hl=>by rw[List.mem_singleton.1 hl];decide⟩,by decide⟩
theorem Abt:SOk 2 (liv [] [] [] []):=by
 rw[←Ape];exact X8 (n:=0) (Nl (by omega) (by omega) Akb (by decide) (by decide)) 1
theorem Ajc:SOk 3 (liv [] [] [faA] [faA]):=by
 have:=(W3 (f:=faA) (g:=0) Abt (Nat.le_refl _) (by decide)).1;rw[Ai9]at this;exact this
theorem Ajd:SOk 60005 (liv [faA] [deA] [faA] [fpA]):=by
 have:=T7 Ajc Ad8;rw[Aja]at this;exact this
theorem Aje:SOk 120007 (liv [fpA,faA] [deA] [faA] []):=by
 have:=T7 Ajd Ad9;rw[Ajb]at this;exact this
theorem Aqo:SOk 120007 (liv [] [] [] []):=Abt.le (by decide)
section
variable{σ:St}
theorem elive_at(hp:∀σ,AT Tryz.prog 42 [str ⟨#[65,58,32,112,40,88,41,32,58,45,32,113,40,88,41,46]⟩] σ fun r σ'=>r= .tup [.sl 11 (rlC [rlA]),int 0,int 0]∧σ'=σ):AT Tryz.prog 12 [] σ fun r σ'=>r=boo true∧σ'=σ:=by
 refine AT.ob Tryz.func12 rfl ?_;simp only[go_sem];refine(hp σ).p ?_;simp only[go_sem];have hnew:=Ady (σ:=σ) txA [txA] 9 [rlA] (by decide) (by decide) Akb;refine(AT.weak hnew (show VWs σ σ [str txA,.fsl 1 [[str txA]],int 9,.sl 11 (rlC [rlA])] [str txA,.sl 1 (stC [txA]),int 9,.sl 11 (rlC [rlA])]from vws_same Ol)).mono ?_;rintro _ σ1 (⟨rfl,hbad,hs3⟩|⟨_,_,_,_,x,a,rfl,E1,F1⟩)
 ·rcases hbad with h|h|h
  ·exact absurd (List.mem_singleton.2 rfl) h
  ·obtain⟨r,hr,y,hy,hne⟩:=h
   rw[List.mem_singleton.1 hr]at hy;rw[List.mem_singleton.1 hy]at hne;exact absurd rfl hne
  ·exact absurd ⟨by omega,by omega⟩ h
 rw[Ape]at E1;simp only[go_sem];clear hnew;refine Ax fun q hq _=>?_;have nq:¬Bo x a q:=fun hf=>by obtain⟨o,ho⟩:=If E1 hf;rw[hq]at ho;cases ho
 have sq:σ q=none:=Cv (fun y o hy=>(F1 y o hy).1) hq;simp only[go_sem,Ab,C0];have hvw:∀{τ τ':St},VWs τ τ' [str txA,str txA,str ⟨#[113]⟩,.fsl 3 [[boo true,int 1,str emp]]] faA.cs:=fun{τ τ'}=>
  vws_same (vws_same (vws_same (vws_cons (LAt.full.vw_same fun z hz=>absurd hz A1) B6)))
 have sv:SV (σ1.set q (.cells [str txA,str txA,str ⟨#[113]⟩,.fsl 3 [[boo true,int 1,str emp]]])) (σ1.set q (.cells faA.cs)):=Kr (o:=.cells [str txA,str txA,str ⟨#[113]⟩,.fsl 3 [[boo true,int 1,str emp]]]) Ab hvw fun y o hy ho=>by rw[Af hy];exact ho
 have E2:EV false (σ1.set q (.cells faA.cs)) x a (liv [] [] [] []) false:=E1.more (B4 hq fun _ _ h=>h);have hq2:(σ1.set q (.cells faA.cs)) q=some (.cells faA.cs):=Ab;have F2:∀y o,σ y=some o→(σ1.set q (.cells faA.cs)) y=some o:=fun y o hy=>by rw[Af fun e=>by rw[e,sq]at hy;cases hy];exact(F1 y o hy).1
 have hsm:faA.Sm:=by show([⟨true,1,emp⟩]:List Cn).length≤_;simp
 refine(AT.pre (S1 E2 Abt (by decide) faA) (by kernel_rfl) sv (vws_same (vws_cons (.agg [str txA,str txA,str ⟨#[113]⟩,.fsl 3 [[boo true,int 1,str emp]]] faA.cs rfl hvw.2) B6))).mono ?_;generalize σ1.set q (.cells faA.cs)=σ2 at hq2 F2;rintro _ σ3 ⟨rfl,a3,E3,G3⟩;have q3:=G3 _ _ hq2 nq;have F3:∀y o,σ y=some o→σ3 y=some o∧¬Bo x a3 y:=fun y o hy=>G3 _ _ (F2 y o hy) (F1 y o hy).2;rw[Ai9]at E3;simp only[go_sem,Ai9];refine(Oe E3 Ajc (by decide) Ad8).mono ?_;rintro _ σ4 ⟨rfl,a4,E4,G4⟩;have q4:=G4 _ _ q3.1 q3.2;have F4:∀y o,σ y=some o→σ4 y=some o∧¬Bo x a4 y:=fun y o hy=>G4 _ _ (F3 y o hy).1 (F3 y o hy).2;rw[Aja]at E4;simp only[go_sem,Aja,Bool.not_true];refine(Zg E4).p ?_;have e1:(((liv [faA] [deA] [faA] [fpA]).queue.length:Nat):Int)=1:=rfl;simp only[go_sem,e1];refine(Oe E4 Ajd (by decide) Ad9).mono ?_;rintro _ σ5 ⟨rfl,a5,E5,G5⟩;have q5:=G5 _ _ q4.1 q4.2;have F5:∀y o,σ y=some o→σ5 y=some o∧¬Bo x a5 y:=fun y o hy=>G5 _ _ (F4 y o hy).1 (F4 y o hy).2;rw[Ajb]at E5;simp only[go_sem,Ajb,Bool.not_true];refine(Ma E5).mono ?_;rintro _ σ6 ⟨b1,b2,rfl,c6⟩;obtain⟨⟨k2,k1⟩,_⟩:=c6.g1;have E6:=E5.more c6.sub;have q6:=c6.sub _ _ q5.1;have F6:∀y o,σ y=some o→σ6 y=some o∧¬Bo x a5 y:=fun y o hy=>⟨c6.sub _ _ (F5 y o hy).1,(F5 y o hy).2⟩;clear c6;simp only[go_sem];refine(Mc (E6.ct) Aje.tok k1 k2).p ?_;have e2:decide ((((liv [fpA,faA] [deA] [faA] []).T.length:Nat):Int)=2)=true:=rfl;simp only[go_sem,e2,q6];refine(Sz E6 Aje (by decide) faA hsm).mono ?_;rintro _ σ7 ⟨rfl,a7,E7,G7⟩;have F7:∀y o,σ y=some o→σ7 y=some o:=fun y o hy=>(G7 _ _ (F6 y o hy).1 (F6 y o hy).2).1;rw[Apf]at E7;simp only[go_sem,Apf];refine(Ma E7).mono ?_;rintro _ σ8 ⟨b3,b4,rfl,c8⟩;obtain⟨⟨k4,k3⟩,_⟩:=c8.g1;have E8:=E7.more c8.sub;have F8:∀y o,σ y=some o→σ8 y=some o:=fun y o hy=>c8.sub _ _ (F7 y o hy);simp only[go_sem];refine(Mc (E8.ct) Aqo.tok k3 k4).p ?_;have e3:decide ((((liv [] [] [] []).T.length:Nat):Int)=0)=true:=rfl;simp only[go_sem,e3];exact Ae (r:=boo true) rfl _ σ (Am F8) ⟨rfl,rfl⟩
end
theorem Ar1{n:Nat}{cs:List AV}(h:Ty Tryz.prog (n+3) 86 cs):∃c:Cn,cs=c.cs∧c.Wf:=by
 have hx:=Ud Tryz.underlying86 h;obtain⟨x1,y1,rfl,h1,x2,y2,rfl,h2,x3,y3,rfl,h3,rfl⟩:=hx;obtain⟨b,rfl⟩:=Ae9 Tryz.underlying4 h1;obtain⟨k,rfl,_⟩:=X4 Tryz.underlying3 h2;obtain⟨s,rfl,hs⟩:=Je Tryz.underlying9 h3;exact⟨⟨b,k,s⟩,rfl,hs⟩
theorem Ahl{n:Nat}:∀(es:List (List AV)),(∀x∈es,Ty Tryz.prog (n+3) 86 x)→∃l:List Cn,es=cnC l∧∀c∈l,c.Wf
 | [],_=>⟨[],rfl,fun x hx=>by cases hx⟩
 |x::es,h=>by
  obtain⟨l,rfl,hl⟩:=Ahl es fun y hy=>h y (by simp[hy]);obtain⟨t,rfl,ht⟩:=Ar1 (h x (by simp));exact⟨t::l,rfl,fun y hy=>by rcases List.mem_cons.1 hy with rfl|hy;exact ht;exact hl y hy⟩
theorem Ar7{n:Nat}{cs:List AV}(h:Ty Tryz.prog (n+5) 30 cs):∃f:Fa,cs=f.cs∧f.Wf:=by
 have hx:=Ud Tryz.underlying30 h;obtain⟨x1,y1,rfl,h1,x2,y2,rfl,h2,x3,y3,rfl,h3,x4,y4,rfl,h4,rfl⟩:=hx;obtain⟨a,rfl,ha⟩:=Je Tryz.underlying9 h1;obtain⟨b,rfl,hb⟩:=Je Tryz.underlying9 h2;obtain⟨p,rfl,hp⟩:=Je Tryz.underlying9 h3;obtain⟨es,rfl,hl,he⟩:=Uc Tryz.underlying28 h4;obtain⟨ts,rfl,hts⟩:=Ahl es he;have e1:Tryz.prog.cellsOf 86=3:=by kernel_rfl
 have e2:Tryz.prog.bytesOf 86=32:=by kernel_rfl
 rw[e1];rw[e2,Hv]at hl;exact⟨⟨a,b,p,ts⟩,rfl,by show ts.length≤_;omega,ha,hb,hp,hts⟩
theorem Aii{n:Nat}:∀(es:List (List AV)),(∀x∈es,Ty Tryz.prog (n+5) 30 x)→∃l:List Fa,es=faC l∧∀x∈l,x.Wf
 | [],_=>⟨[],rfl,fun x hx=>by cases hx⟩
 |x::es,h=>by
  obtain⟨l,rfl,hl⟩:=Aii es fun y hy=>h y (by simp[hy]);obtain⟨t,rfl,ht⟩:=Ar7 (h x (by simp));exact⟨t::l,rfl,fun y hy=>by rcases List.mem_cons.1 hy with rfl|hy;exact ht;exact hl y hy⟩
theorem Aqc{n:Nat}{cs:List AV}(h:Ty Tryz.prog (n+6) 26 cs):∃l:List Fa,cs=[.sl 4 (faC l)]∧l.length*72≤140737488351232∧∀x∈l,x.Wf:=by
 obtain⟨es,rfl,hl,he⟩:=Uc Tryz.underlying26 h;obtain⟨ts,rfl,hts⟩:=Aii es he;have e1:Tryz.prog.cellsOf 30=4:=by kernel_rfl
 have e2:Tryz.prog.bytesOf 30=72:=by kernel_rfl
 rw[e1];rw[e2,Al]at hl;exact⟨ts,rfl,by omega,hts⟩
theorem Aeu{n:Nat}:∀(es:List (List AV)),(∀x∈es,Ty Tryz.prog (n+7) 92 x)→∃l:List Rl,es=rlC l∧∀x∈l,x.Wf
 | [],_=>⟨[],rfl,fun x hx=>by cases hx⟩
 |x::es,h=>by
  obtain⟨l,rfl,hl⟩:=Aeu es fun y hy=>h y (by simp[hy]);obtain⟨t,rfl,ht⟩:=Ass (h x (by simp));exact⟨t::l,rfl,fun y hy=>by rcases List.mem_cons.1 hy with rfl|hy;exact ht;exact hl y hy⟩
theorem Anw{n:Nat}{cs:List AV}(h:Ty Tryz.prog (n+8) 23 cs):∃l:List Rl,cs=[.sl 11 (rlC l)]∧l.length≤140737488351232∧∀x∈l,x.Wf:=by
 obtain⟨es,rfl,hl,he⟩:=Uc Tryz.underlying23 h;obtain⟨ts,rfl,hts⟩:=Aeu es he;have e1:Tryz.prog.cellsOf 92=11:=by kernel_rfl
 have e2:1≤Tryz.prog.bytesOf 92:=Nat.le_of_ble_eq_true (by kernel_rfl);rw[e1];rw[Ch]at hl;exact⟨ts,rfl,Nat.le_trans (Nat.le_mul_of_pos_right _ e2) hl,hts⟩
theorem Ae4{n:Nat}:∀(es:List (List AV)),(∀x∈es,Ty Tryz.prog (n+1) 9 x)→∃l:List ByteArray,es=stC l
 | [],_=>⟨[],rfl⟩
 |x::es,h=>by
  obtain⟨l,rfl⟩:=Ae4 es fun y hy=>h y (by simp[hy]);obtain⟨t,rfl,_⟩:=Je Tryz.underlying9 (h x (by simp));exact⟨t::l,rfl⟩
theorem An5{n:Nat}{cs:List AV}(h:Ty Tryz.prog (n+2) 22 cs):∃l:List ByteArray,cs=[.sl 1 (stC l)]:=by
 obtain⟨es,rfl,_,he⟩:=Uc Tryz.underlying22 h;obtain⟨ts,rfl⟩:=Ae4 es he;have e1:Tryz.prog.cellsOf 9=1:=by kernel_rfl
 rw[e1];exact⟨ts,rfl⟩
theorem Arw{n:Nat}{cs:List AV}(h:Ty Tryz.prog (n+9) 25 cs):∃(me:ByteArray) (names:List ByteArray) (lim:Int) (rs:List Rl),cs=c7C me names lim rs∧rs.length≤140737488351232∧∀r∈rs,r.Wf:=by
 have hx:=Ud Tryz.underlying25 h;obtain⟨x1,y1,rfl,h1,x2,y2,rfl,h2,x3,y3,rfl,h3,x4,y4,rfl,h4,rfl⟩:=hx;obtain⟨me,rfl,_⟩:=Je Tryz.underlying9 h1;obtain⟨names,rfl⟩:=An5 h2;obtain⟨lim,rfl,_⟩:=X4 Tryz.underlying3 h3;obtain⟨rs,rfl,h5,h6⟩:=Anw h4;exact⟨me,names,lim,rs,rfl,h5,h6⟩
theorem c7a_of{a:AV}(ha:TyA Tryz.prog 9 25 a):∃(me:ByteArray) (names:List ByteArray) (lim:Int) (rs:List Rl),a= .agg (c7C me names lim rs)∧rs.length≤140737488351232∧∀r∈rs,r.Wf:=by
 obtain⟨cs,rfl,hx⟩:∃cs,a= .agg cs∧Ty Tryz.prog 9 25 cs:=by
  unfold TyA at ha;rw[Tryz.underlying25]at ha;exact ha
 obtain⟨me,names,lim,rs,rfl,h⟩:=Arw (n:=0) hx;exact⟨me,names,lim,rs,rfl,h⟩
theorem fal9_of{b:AV}(hb:TyA Tryz.prog 9 26 b):∃l:List Fa,b= .sl 4 (faC l)∧l.length≤140737488351232∧∀x∈l,x.Wf:=by
 have hb':Ty Tryz.prog 9 26 [b]:=by
  unfold TyA at hb;rw[Tryz.underlying26]at hb;exact hb
 obtain⟨l,e,h1,h2⟩:=Aqc (n:=3) hb';obtain rfl:b= .sl 4 (faC l):=by simpa using e
 exact⟨l,rfl,by omega,h2⟩
def te3:TE:=⟨⟨false,1,[.int .i64 0],.int .i64⟩,false,false,false,false,false,true,none⟩
theorem Asw:Gk Tryz.prog 3 te3:=⟨by kernel_rfl,by kernel_rfl,by kernel_rfl,by kernel_rfl,by kernel_rfl,by kernel_rfl,by kernel_rfl,fun ls h=>by cases h⟩
def te5:TE:=⟨⟨false,1,[.int .u8 0],.int .u8⟩,false,false,false,false,false,true,none⟩
theorem Asx:Gk Tryz.prog 5 te5:=⟨by kernel_rfl,by kernel_rfl,by kernel_rfl,by kernel_rfl,by kernel_rfl,by kernel_rfl,by kernel_rfl,fun ls h=>by cases h⟩
def te9:TE:=⟨⟨false,1,[.string ⟨#[]⟩],.str⟩,false,false,false,false,false,true,none⟩
theorem Asy:Gk Tryz.prog 9 te9:=⟨by kernel_rfl,by kernel_rfl,by kernel_rfl,by kernel_rfl,by kernel_rfl,by kernel_rfl,by kernel_rfl,fun ls h=>by cases h⟩
def te20:TE:=⟨⟨false,1,[.nilIface],.iface⟩,false,false,false,false,false,false,none⟩
theorem Aq2:Gk Tryz.prog 20 te20:=⟨by kernel_rfl,by kernel_rfl,by kernel_rfl,by kernel_rfl,by kernel_rfl,by kernel_rfl,by kernel_rfl,fun ls h=>by cases h⟩
def te23:TE:=⟨⟨false,1,[.slice none 0 0],.sl 11 160 [.string ⟨#[]⟩,.bool false,.int .i64 0,.string ⟨#[]⟩,.string ⟨#[]⟩,.slice none 0 0,.string ⟨#[]⟩,.bool false,.int .i64 0,.string ⟨#[]⟩,.slice none 0 0] false⟩,true,false,false,false,false,true,none⟩
theorem Aq3:Gk Tryz.prog 23 te23:=⟨by kernel_rfl,by kernel_rfl,by kernel_rfl,by kernel_rfl,by kernel_rfl,by kernel_rfl,by kernel_rfl,fun ls h=>by cases h⟩
def te47:TE:=⟨⟨false,1,[.int .i64 0],.int .i64⟩,false,false,false,false,false,true,none⟩
theorem Aq4:Gk Tryz.prog 47 te47:=⟨by kernel_rfl,by kernel_rfl,by kernel_rfl,by kernel_rfl,by kernel_rfl,by kernel_rfl,by kernel_rfl,fun ls h=>by cases h⟩
def te86:TE:=⟨⟨true,3,[.bool false,.int .i64 0,.string ⟨#[]⟩],.st [(0,1,false),(1,1,false),(2,1,false)]⟩,false,false,false,false,false,true,(some [.b,.i .i64,.s])⟩
theorem Aq5:Gk Tryz.prog 86 te86:=⟨by kernel_rfl,by kernel_rfl,by kernel_rfl,by kernel_rfl,by kernel_rfl,by kernel_rfl,by kernel_rfl,fun ls h=>by cases h;exact⟨by kernel_rfl,by kernel_rfl,by kernel_rfl⟩⟩
def te88:TE:=⟨⟨true,4,[.string ⟨#[]⟩,.bool false,.int .i64 0,.string ⟨#[]⟩],.st [(0,1,false),(1,3,true)]⟩,false,false,false,false,false,true,(some [.s,.b,.i .i64,.s])⟩
theorem Aq6:Gk Tryz.prog 88 te88:=⟨by kernel_rfl,by kernel_rfl,by kernel_rfl,by kernel_rfl,by kernel_rfl,by kernel_rfl,by kernel_rfl,fun ls h=>by cases h;exact⟨by kernel_rfl,by kernel_rfl,by kernel_rfl⟩⟩
def te89:TE:=⟨⟨false,1,[.slice none 0 0],.sl 4 48 [.string ⟨#[]⟩,.bool false,.int .i64 0,.string ⟨#[]⟩] false⟩,true,false,false,false,false,true,none⟩
theorem Aq7:Gk Tryz.prog 89 te89:=⟨by kernel_rfl,by kernel_rfl,by kernel_rfl,by kernel_rfl,by kernel_rfl,by kernel_rfl,by kernel_rfl,fun ls h=>by cases h⟩
def te90:TE:=⟨⟨false,1,[.slice none 0 0],.sl 10 136 [.string ⟨#[]⟩,.bool false,.int .i64 0,.string ⟨#[]⟩,.string ⟨#[]⟩,.slice none 0 0,.string ⟨#[]⟩,.bool false,.int .i64 0,.string ⟨#[]⟩] false⟩,true,false,false,false,false,true,none⟩
theorem Aq8:Gk Tryz.prog 90 te90:=⟨by kernel_rfl,by kernel_rfl,by kernel_rfl,by kernel_rfl,by kernel_rfl,by kernel_rfl,by kernel_rfl,fun ls h=>by cases h⟩
def te92:TE:=⟨⟨true,11,[.string ⟨#[]⟩,.bool false,.int .i64 0,.string ⟨#[]⟩,.string ⟨#[]⟩,.slice none 0 0,.string ⟨#[]⟩,.bool false,.int .i64 0,.string ⟨#[]⟩,.slice none 0 0],.st [(0,4,true),(4,1,false),(5,1,false),(6,4,true),(10,1,false)]⟩,false,false,false,false,false,true,none⟩
theorem Aq9:Gk Tryz.prog 92 te92:=⟨by kernel_rfl,by kernel_rfl,by kernel_rfl,by kernel_rfl,by kernel_rfl,by kernel_rfl,by kernel_rfl,fun ls h=>by cases h⟩
def Apn:TE:=⟨⟨true,10,[.string ⟨#[]⟩,.bool false,.int .i64 0,.string ⟨#[]⟩,.string ⟨#[]⟩,.slice none 0 0,.string ⟨#[]⟩,.bool false,.int .i64 0,.string ⟨#[]⟩],.st [(0,4,true),(4,1,false),(5,1,false),(6,4,true)]⟩,false,false,false,false,false,true,none⟩
theorem An9:Gk Tryz.prog 104 Apn:=⟨by kernel_rfl,by kernel_rfl,by kernel_rfl,by kernel_rfl,by kernel_rfl,by kernel_rfl,by kernel_rfl,fun ls h=>by cases h⟩
def Apo:TE:=⟨⟨false,1,[.slice none 0 0],.sl 4 40 [.int .i64 0,.string ⟨#[]⟩,.int .i64 0,.int .i64 0] false⟩,true,false,false,false,false,true,none⟩
theorem Aoa:Gk Tryz.prog 130 Apo:=⟨by kernel_rfl,by kernel_rfl,by kernel_rfl,by kernel_rfl,by kernel_rfl,by kernel_rfl,by kernel_rfl,fun ls h=>by cases h⟩
def App:TE:=⟨⟨false,1,[.pointer none],.ptr 135⟩,false,true,false,false,false,true,none⟩
theorem Aob:Gk Tryz.prog 133 App:=⟨by kernel_rfl,by kernel_rfl,by kernel_rfl,by kernel_rfl,by kernel_rfl,by kernel_rfl,by kernel_rfl,fun ls h=>by cases h⟩
def Apq:TE:=⟨⟨true,2,[.slice none 0 0,.int .i64 0],.st [(0,1,false),(1,1,false)]⟩,false,false,false,false,false,true,none⟩
theorem Aoc:Gk Tryz.prog 135 Apq:=⟨by kernel_rfl,by kernel_rfl,by kernel_rfl,by kernel_rfl,by kernel_rfl,by kernel_rfl,by kernel_rfl,fun ls h=>by cases h⟩
def Apr:TE:=⟨⟨true,2,[.int .i64 0,.int .i64 0],.st [(0,1,false),(1,1,false)]⟩,false,false,false,false,false,true,(some [.i .i64,.i .i64])⟩
theorem Aod:Gk Tryz.prog 137 Apr:=⟨by kernel_rfl,by kernel_rfl,by kernel_rfl,by kernel_rfl,by kernel_rfl,by kernel_rfl,by kernel_rfl,fun ls h=>by cases h;exact⟨by kernel_rfl,by kernel_rfl,by kernel_rfl⟩⟩
def Aps:TE:=⟨⟨true,4,[.int .i64 0,.string ⟨#[]⟩,.int .i64 0,.int .i64 0],.st [(0,1,false),(1,1,false),(2,1,false),(3,1,false)]⟩,false,false,false,false,false,true,(some [.i .i64,.s,.i .i64,.i .i64])⟩
theorem Aoe:Gk Tryz.prog 186 Aps:=⟨by kernel_rfl,by kernel_rfl,by kernel_rfl,by kernel_rfl,by kernel_rfl,by kernel_rfl,by kernel_rfl,fun ls h=>by cases h;exact⟨by kernel_rfl,by kernel_rfl,by kernel_rfl⟩⟩
def Apt:TE:=⟨⟨false,1,[.nilFunc],.other⟩,false,false,true,false,false,true,none⟩
theorem Aof:Gk Tryz.prog 218 Apt:=⟨by kernel_rfl,by kernel_rfl,by kernel_rfl,by kernel_rfl,by kernel_rfl,by kernel_rfl,by kernel_rfl,fun ls h=>by cases h⟩
def tyT:Tr TE:=(.n (.n (.n (.n .e (.n (.n .e (.n .e (.n (.n (.n (.l Apn) .e) .e) .e))) (.n (.n .e (.n (.n (.n (.l te88) .e) .e) .e)) .e))) (.n (.n .e (.n (.n (.n (.n (.n (.l te20) .e) .e) .e) .e) .e)) (.n .e (.n (.n .e (.n (.n (.n (.l te92) .e) .e) .e)) .e)))) (.n (.n (.n (.n (.n (.n .e (.n (.n (.l Apo) .e) .e)) .e) .e) .e) (.n .e (.n (.n .e (.n (.n (.n (.l te90) .e) .e) (.n (.n (.l Apt) .e) .e))) (.n (.n .e (.n (.n (.l Aps) .e) .e)) .e)))) (.n (.n .e (.n (.n .e (.n (.n (.n (.l te86) .e) .e) .e)) .e)) .e))) (.n (.n (.n .e (.n (.n (.n (.n (.n (.n (.l te9) .e) .e) (.n (.n (.l Apr) .e) .e)) .e) .e) (.n (.n .e (.n (.n (.n (.l te89) .e) .e) .e)) .e))) (.n (.n (.n (.n (.n (.n (.n (.l te5) .e) .e) (.n (.n (.l App) .e) .e)) .e) .e) .e) .e)) (.n (.n (.n (.n (.n (.n (.n (.n (.l te3) .e) .e) .e) .e) .e) .e) .e) (.n (.n (.n (.n (.n .e (.n (.n (.l Apq) .e) .e)) .e) .e) (.n (.n (.n (.n (.n (.l te23) .e) .e) .e) .e) .e)) (.n (.n .e (.n (.n (.n (.n (.l te47) .e) .e) .e) .e)) .e)))))
theorem tyOk:tyT.All 10 (Gk Tryz.prog):=⟨⟨⟨⟨trivial,⟨⟨trivial,⟨trivial,⟨⟨⟨An9,trivial⟩,trivial⟩,trivial⟩⟩⟩,⟨⟨trivial,⟨⟨⟨Aq6,trivial⟩,trivial⟩,trivial⟩⟩,trivial⟩⟩⟩,⟨⟨trivial,⟨⟨⟨⟨⟨Aq2,trivial⟩,trivial⟩,trivial⟩,trivial⟩,trivial⟩⟩,⟨trivial,⟨⟨trivial,⟨⟨⟨Aq9,trivial⟩,trivial⟩,trivial⟩⟩,trivial⟩⟩⟩⟩,⟨⟨⟨⟨⟨⟨trivial,⟨⟨Aoa,trivial⟩,trivial⟩⟩,trivial⟩,trivial⟩,trivial⟩,⟨trivial,⟨⟨trivial,⟨⟨⟨Aq8,trivial⟩,trivial⟩,⟨⟨Aof,trivial⟩,trivial⟩⟩⟩,⟨⟨trivial,⟨⟨Aoe,trivial⟩,trivial⟩⟩,trivial⟩⟩⟩⟩,⟨⟨trivial,⟨⟨trivial,⟨⟨⟨Aq5,trivial⟩,trivial⟩,trivial⟩⟩,trivial⟩⟩,trivial⟩⟩⟩,⟨⟨⟨trivial,⟨⟨⟨⟨⟨⟨Asy,trivial⟩,trivial⟩,⟨⟨Aod,trivial⟩,trivial⟩⟩,trivial⟩,trivial⟩,⟨⟨trivial,⟨⟨⟨Aq7,trivial⟩,trivial⟩,trivial⟩⟩,trivial⟩⟩⟩,⟨⟨⟨⟨⟨⟨⟨Asx,trivial⟩,trivial⟩,⟨⟨Aob,trivial⟩,trivial⟩⟩,trivial⟩,trivial⟩,trivial⟩,trivial⟩⟩,⟨⟨⟨⟨⟨⟨⟨⟨Asw,trivial⟩,trivial⟩,trivial⟩,trivial⟩,trivial⟩,trivial⟩,trivial⟩,⟨⟨⟨⟨⟨trivial,⟨⟨Aoc,trivial⟩,trivial⟩⟩,trivial⟩,trivial⟩,⟨⟨⟨⟨⟨Aq3,trivial⟩,trivial⟩,trivial⟩,trivial⟩,trivial⟩⟩,⟨⟨trivial,⟨⟨⟨⟨Aq4,trivial⟩,trivial⟩,trivial⟩,trivial⟩⟩,trivial⟩⟩⟩⟩⟩
noncomputable def fe42:FE:=⟨Tryz.f42,[(3,[.rd 0 true,.rd 1 true,.ef 2 [0,1],.ef 3 [1],.ef 4 []]),(9,[.rd 0 true,.rd 1 false,.ef 2 [0],.rd 3 false,.ef 4 [],.ef 5 []])]⟩
noncomputable def fe83:FE:=⟨Tryz.f83,[]⟩
noncomputable def fe84:FE:=⟨Tryz.f84,[(3,[.rd 0 false,.rd 1 true,.rd 2 false,.rd 3 true,.ef 4 [1,3],.ef 5 [3],.ef 6 []])]⟩
noncomputable def fe85:FE:=⟨Tryz.f85,[]⟩
noncomputable def fe86:FE:=⟨Tryz.f86,[]⟩
noncomputable def fe87:FE:=⟨Tryz.f87,[(10,[.rd 0 false,.rd 1 true,.rd 2 false,.ef 3 [1],.rd 4 false,.ef 5 [],.rd 6 false,.ef 7 []])]⟩
noncomputable def Aoq:FE:=⟨Tryz.f142,[]⟩
noncomputable def Aor:FE:=⟨Tryz.f143,[(7,[.rd 0 false,.rd 1 false,.rd 2 false,.rd 3 true,.rd 4 false,.ef 5 [3],.rd 6 false,.ef 7 []]),(10,[.rd 0 false,.rd 1 false,.rd 2 false,.rd 3 true,.rd 4 false,.ef 5 [3],.rd 6 false,.ef 7 []]),(24,[.rd 0 false,.rd 1 false,.rd 2 false,.rd 3 true,.rd 4 false,.ef 5 [3],.rd 6 false,.ef 7 []]),(26,[.rd 0 false,.rd 1 false,.rd 2 false,.rd 3 true,.rd 4 false,.ef 5 [3],.rd 6 false,.ef 7 []])]⟩
noncomputable def Aos:FE:=⟨Tryz.f144,[]⟩
noncomputable def Aot:FE:=⟨Tryz.f145,[]⟩
noncomputable def Aou:FE:=⟨Tryz.f146,[]⟩
noncomputable def Aov:FE:=⟨Tryz.f147,[]⟩
noncomputable def Aow:FE:=⟨Tryz.f148,[]⟩
noncomputable def Aox:FE:=⟨Tryz.f149,[]⟩
noncomputable def Aoy:FE:=⟨Tryz.f150,[]⟩
noncomputable def Aoz:FE:=⟨Tryz.f151,[]⟩
noncomputable def Ao0:FE:=⟨Tryz.f182,[]⟩
noncomputable def Ao1:FE:=⟨Tryz.f183,[]⟩
noncomputable def Ao2:FE:=⟨Tryz.f184,[]⟩
noncomputable def Ao3:FE:=⟨Tryz.f185,[]⟩
noncomputable def Ao4:FE:=⟨Tryz.f186,[]⟩
noncomputable def Ao5:FE:=⟨Tryz.f187,[]⟩
noncomputable def Ao6:FE:=⟨Tryz.f188,[]⟩
noncomputable def Ao7:FE:=⟨Tryz.f189,[]⟩
noncomputable def Ao8:FE:=⟨Tryz.f190,[]⟩
noncomputable def Ao9:FE:=⟨Tryz.f191,[]⟩
noncomputable def Apa:FE:=⟨Tryz.f227,[]⟩
theorem Aqd:Ft Tryz.prog 42 fe42:=⟨Tryz.func42,by decide,by kernel_rfl⟩
theorem Aqe:Ft Tryz.prog 83 fe83:=⟨Tryz.func83,by decide,by kernel_rfl⟩
theorem Aqf:Ft Tryz.prog 84 fe84:=⟨Tryz.func84,by decide,by kernel_rfl⟩
theorem Aqg:Ft Tryz.prog 85 fe85:=⟨Tryz.func85,by decide,by kernel_rfl⟩
theorem Aqh:Ft Tryz.prog 86 fe86:=⟨Tryz.func86,by decide,by kernel_rfl⟩
theorem Aqi:Ft Tryz.prog 87 fe87:=⟨Tryz.func87,by decide,by kernel_rfl⟩
theorem Aml:Ft Tryz.prog 142 Aoq:=⟨Tryz.func142,by decide,by kernel_rfl⟩
theorem Amm:Ft Tryz.prog 143 Aor:=⟨Tryz.func143,by decide,by kernel_rfl⟩
theorem Amn:Ft Tryz.prog 144 Aos:=⟨Tryz.func144,by decide,by kernel_rfl⟩
theorem Amo:Ft Tryz.prog 145 Aot:=⟨Tryz.func145,by decide,by kernel_rfl⟩
theorem Amp:Ft Tryz.prog 146 Aou:=⟨Tryz.func146,by decide,by kernel_rfl⟩
theorem Amq:Ft Tryz.prog 147 Aov:=⟨Tryz.func147,by decide,by kernel_rfl⟩
theorem Amr:Ft Tryz.prog 148 Aow:=⟨Tryz.func148,by decide,by kernel_rfl⟩
theorem Ams:Ft Tryz.prog 149 Aox:=⟨Tryz.func149,by decide,by kernel_rfl⟩
theorem Amt:Ft Tryz.prog 150 Aoy:=⟨Tryz.func150,by decide,by kernel_rfl⟩
theorem Amu:Ft Tryz.prog 151 Aoz:=⟨Tryz.func151,by decide,by kernel_rfl⟩
theorem Amv:Ft Tryz.prog 182 Ao0:=⟨Tryz.func182,by decide,by kernel_rfl⟩
theorem Amw:Ft Tryz.prog 183 Ao1:=⟨Tryz.func183,by decide,by kernel_rfl⟩
theorem Amx:Ft Tryz.prog 184 Ao2:=⟨Tryz.func184,by decide,by kernel_rfl⟩
theorem Amy:Ft Tryz.prog 185 Ao3:=⟨Tryz.func185,by decide,by kernel_rfl⟩
theorem Amz:Ft Tryz.prog 186 Ao4:=⟨Tryz.func186,by decide,by kernel_rfl⟩
theorem Am0:Ft Tryz.prog 187 Ao5:=⟨Tryz.func187,by decide,by kernel_rfl⟩
theorem Am1:Ft Tryz.prog 188 Ao6:=⟨Tryz.func188,by decide,by kernel_rfl⟩
theorem Am2:Ft Tryz.prog 189 Ao7:=⟨Tryz.func189,by decide,by kernel_rfl⟩
theorem Am3:Ft Tryz.prog 190 Ao8:=⟨Tryz.func190,by decide,by kernel_rfl⟩
theorem Am4:Ft Tryz.prog 191 Ao9:=⟨Tryz.func191,by decide,by kernel_rfl⟩
theorem Am5:Ft Tryz.prog 227 Apa:=⟨Tryz.func227,by decide,by kernel_rfl⟩
noncomputable def ftT:Tr FE:=(.n (.n (.n (.n (.n .e (.n (.n (.n .e (.n (.n (.l Aos) .e) .e)) .e) .e)) (.n .e (.n .e (.n (.n .e (.n (.n (.l Ao2) .e) .e)) .e)))) (.n (.n .e (.n (.n (.n .e (.n (.n (.l Aow) .e) .e)) (.n (.n (.n (.l fe84) .e) .e) .e)) .e)) (.n .e (.n .e (.n (.n .e (.n (.n (.l Ao6) .e) .e)) .e))))) (.n (.n (.n .e (.n (.n (.n .e (.n (.n (.l Aou) .e) .e)) .e) .e)) (.n (.n .e (.n (.n (.n (.n (.l fe42) .e) .e) .e) .e)) (.n .e (.n (.n .e (.n (.n (.l Ao4) .e) .e)) .e)))) (.n (.n .e (.n (.n (.n .e (.n (.n (.l Aoy) .e) .e)) (.n (.n (.n (.l fe86) .e) .e) .e)) (.n (.n .e (.n (.n (.l Ao0) .e) .e)) .e))) (.n (.n (.n (.n .e (.n (.n (.l Aoq) .e) .e)) .e) .e) (.n .e (.n (.n .e (.n (.n (.l Ao8) .e) .e)) .e)))))) (.n (.n (.n (.n .e (.n (.n (.n .e (.n (.n (.l Aot) .e) .e)) .e) .e)) (.n .e (.n .e (.n (.n .e (.n (.n (.l Ao3) .e) .e)) .e)))) (.n (.n .e (.n (.n (.n .e (.n (.n (.l Aox) .e) .e)) (.n (.n (.n (.l fe85) .e) .e) .e)) .e)) (.n .e (.n .e (.n (.n .e (.n (.n (.l Ao7) .e) .e)) .e))))) (.n (.n (.n (.n .e (.n .e (.n .e (.n (.n (.l Apa) .e) .e)))) (.n (.n (.n .e (.n (.n (.l Aov) .e) .e)) (.n (.n (.n (.l fe83) .e) .e) .e)) .e)) (.n .e (.n .e (.n (.n .e (.n (.n (.l Ao5) .e) .e)) .e)))) (.n (.n .e (.n (.n (.n .e (.n (.n (.l Aoz) .e) .e)) (.n (.n (.n (.l fe87) .e) .e) .e)) (.n (.n .e (.n (.n (.l Ao1) .e) .e)) .e))) (.n (.n (.n (.n .e (.n (.n (.l Aor) .e) .e)) .e) .e) (.n .e (.n (.n .e (.n (.n (.l Ao9) .e) .e)) .e)))))))
theorem ftOk:ftT.All 10 (Ft Tryz.prog):=⟨⟨⟨⟨⟨trivial,⟨⟨⟨trivial,⟨⟨Amn,trivial⟩,trivial⟩⟩,trivial⟩,trivial⟩⟩,⟨trivial,⟨trivial,⟨⟨trivial,⟨⟨Amx,trivial⟩,trivial⟩⟩,trivial⟩⟩⟩⟩,⟨⟨trivial,⟨⟨⟨trivial,⟨⟨Amr,trivial⟩,trivial⟩⟩,⟨⟨⟨Aqf,trivial⟩,trivial⟩,trivial⟩⟩,trivial⟩⟩,⟨trivial,⟨trivial,⟨⟨trivial,⟨⟨Am1,trivial⟩,trivial⟩⟩,trivial⟩⟩⟩⟩⟩,⟨⟨⟨trivial,⟨⟨⟨trivial,⟨⟨Amp,trivial⟩,trivial⟩⟩,trivial⟩,trivial⟩⟩,⟨⟨trivial,⟨⟨⟨⟨Aqd,trivial⟩,trivial⟩,trivial⟩,trivial⟩⟩,⟨trivial,⟨⟨trivial,⟨⟨Amz,trivial⟩,trivial⟩⟩,trivial⟩⟩⟩⟩,⟨⟨trivial,⟨⟨⟨trivial,⟨⟨Amt,trivial⟩,trivial⟩⟩,⟨⟨⟨Aqh,trivial⟩,trivial⟩,trivial⟩⟩,⟨⟨trivial,⟨⟨Amv,trivial⟩,trivial⟩⟩,trivial⟩⟩⟩,⟨⟨⟨⟨trivial,⟨⟨Aml,trivial⟩,trivial⟩⟩,trivial⟩,trivial⟩,⟨trivial,⟨⟨trivial,⟨⟨Am3,trivial⟩,trivial⟩⟩,trivial⟩⟩⟩⟩⟩⟩,⟨⟨⟨⟨trivial,⟨⟨⟨trivial,⟨⟨Amo,trivial⟩,trivial⟩⟩,trivial⟩,trivial⟩⟩,⟨trivial,⟨trivial,⟨⟨trivial,⟨⟨Amy,trivial⟩,trivial⟩⟩,trivial⟩⟩⟩⟩,⟨⟨trivial,⟨⟨⟨trivial,⟨⟨Ams,trivial⟩,trivial⟩⟩,⟨⟨⟨Aqg,trivial⟩,trivial⟩,trivial⟩⟩,trivial⟩⟩,⟨trivial,⟨trivial,⟨⟨trivial,⟨⟨Am2,trivial⟩,trivial⟩⟩,trivial⟩⟩⟩⟩⟩,⟨⟨⟨⟨trivial,⟨trivial,⟨trivial,⟨⟨Am5,trivial⟩,trivial⟩⟩⟩⟩,⟨⟨⟨trivial,⟨⟨Amq,trivial⟩,trivial⟩⟩,⟨⟨⟨Aqe,trivial⟩,trivial⟩,trivial⟩⟩,trivial⟩⟩,⟨trivial,⟨trivial,⟨⟨trivial,⟨⟨Am0,trivial⟩,trivial⟩⟩,trivial⟩⟩⟩⟩,⟨⟨trivial,⟨⟨⟨trivial,⟨⟨Amu,trivial⟩,trivial⟩⟩,⟨⟨⟨Aqi,trivial⟩,trivial⟩,trivial⟩⟩,⟨⟨trivial,⟨⟨Amw,trivial⟩,trivial⟩⟩,trivial⟩⟩⟩,⟨⟨⟨⟨trivial,⟨⟨Amm,trivial⟩,trivial⟩⟩,trivial⟩,trivial⟩,⟨trivial,⟨⟨trivial,⟨⟨Am4,trivial⟩,trivial⟩⟩,trivial⟩⟩⟩⟩⟩⟩⟩
theorem Aql(vs:Array Value):X9 Tryz.prog 84 vs:=fun w=>by
 refine callsDIn_of_wpSIn Tryz.func84 rfl trivial fun c₀ cs hu=>?_;have hsz:14≤(vs++Array.replicate (14-vs.size) undef).size:=by simp;omega
 rw[show Tryz.f84.ntmps=14 from rfl];revert hsz;generalize vs++Array.replicate (14-vs.size) undef=tm;intro hsz;apply wpSIn_seq;apply wpSIn_region;simp[wpOpsSIn,go_sem,recoverD,hu,Exit.thenS];apply wpSIn_seq;apply wpSIn_region;have h3:3<tm.size:=by omega
 have h5:5<tm.size:=by omega
 have h6:6<tm.size:=by omega
 have h7:7<tm.size:=by omega
 simp[wpOpsSIn,go_sem,Exit.thenS,h3,h5,h6,h7,Act.eval,Act.put];refine wpSIn_cond (t:=false) (by simp[Act.eval,h3,h5,h6,h7]) ?_;simp only[Bool.false_eq_true,if_false];refine wpSIn_of_wpIn rfl (wpIn_skip ?_);cases c₀
 simp_all [bodyPostS,results,show Tryz.f84.results= #[]from rfl]
theorem prOk:PrOk Tryz.prog tyT ftT (fun f=>Nat.beq f 84) where
 mx:=by kernel_rfl
 ty:=fun t e ht he=>Tr.all_get tyOk (by simpa using ht) he
 ft:=fun t e ht he=>Tr.all_get ftOk (by simpa using ht) he
 idle:=fun f hf=>by
  rw[Az]at hf;subst hf;exact⟨⟨_,Tryz.func84,rfl,by decide⟩,Aql⟩
def txtL:RS:=.v (.string ⟨#[65,58,32,112,40,88,41,32,58,45,32,113,40,88,41,46]⟩)
def resT:AV:=.tup [.sl 11 [[.v (.string ⟨#[65]⟩),.v (.bool false),.v (.int .i64 0),.v (.string ⟨#[]⟩),.v (.string ⟨#[112]⟩),.sl 4 [[.v (.string ⟨#[88]⟩),.v (.bool false),.v (.int .i64 0),.v (.string ⟨#[]⟩)]],.v (.string ⟨#[]⟩),.v (.bool false),.v (.int .i64 0),.v (.string ⟨#[]⟩),
 .sl 10 [[.v (.string ⟨#[]⟩),.v (.bool false),.v (.int .i64 0),.v (.string ⟨#[]⟩),.v (.string ⟨#[113]⟩),.sl 4 [[.v (.string ⟨#[88]⟩),.v (.bool false),.v (.int .i64 0),.v (.string ⟨#[]⟩)]],.v (.string ⟨#[]⟩),.v (.bool false),.v (.int .i64 0),.v (.string ⟨#[]⟩)]]]],.v (.int .i64 0),.v (.int .i64 0)]
theorem runP:runV Tryz.prog tyT ftT (fun f=>Nat.beq f 84) 100000 40 12 42 [txtL]=some resT:=by kernel_rfl
theorem parse1_at{σ:St}:AT Tryz.prog 42 [.v (.string ⟨#[65,58,32,112,40,88,41,32,58,45,32,113,40,88,41,46]⟩)] σ fun r σ'=>r=resT∧σ'=σ:=by
 have h:=An2 (σ:=σ) prOk runP (by kernel_rfl) (fun _=>.v (.bool false)) (fun _=>⟨rfl,rfl⟩) (by simp only[RS.wfs,RS.wf,txtL];trivial);have e:RS.ivs ⟨fun i=>i,fun i=>i,fun _=>.v (.bool false)⟩ [txtL]=[.v (.string ⟨#[65,58,32,112,40,88,41,32,58,45,32,113,40,88,41,46]⟩)]:=by
  simp only[RS.ivs,RS.iv,RS.vv,txtL]
 rw[e]at h;exact h
end Go.Proofs.YtmifmncabejffaaGreat
