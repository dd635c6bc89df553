/-
  Contracts of the functions that the statement reaches, and the plain laws of what they reckon.
  Conditions: none.
-/
import Derived.Test.YtmifmncabejffaaGreatRows
import Derived.RecoverIn
import Derived.BigFrame
import Derived.Test.YtmifmncabejffaaGreatV1EvalUndoes
import Derived.Test.YtmifmncabejffaaGreatV2EvalUndoes
import Derived.Test.YtmifmncabejffaaGreatV3EvalUndoes
import Derived.Test.YtmifmncabejffaaGreatX1EvalUndoes
import Derived.Test.YtmifmncabejffaaGreatX2EvalUndoes
import Derived.Test.YtmifmncabejffaaGreatX3EvalUndoes
set_option linter.unusedVariables false
set_option linter.unusedSimpArgs false
set_option linter.unusedSectionVars false
set_option maxRecDepth 100000
namespace Go.Proofs.YtmifmncabejffaaGreat
open Go Go.Av
def zerD(me:ByteArray)(rules:List Rl)(k:Nat)(P:ES×Bool):ES×Bool:=(List.range k).foldl (fun P i=>if(rules.getD i rlZ).bo.length=0 then lkD me faZ [] i (rules.getD i rlZ) (-1) P else P) P
def newD(me:ByteArray)(names:List ByteArray)(lim:Int)(rules:List Rl):ES×Bool:=zerD me rules rules.length (Nq me names lim rules,false)
theorem M0{me:ByteArray}{rules:List Rl}{k:Nat}{P:ES×Bool}:zerD me rules (k+1) P=if(rules.getD k rlZ).bo.length=0 then lkD me faZ [] k (rules.getD k rlZ) (-1) (zerD me rules k P)else zerD me rules k P:=by
 unfold zerD;rw[List.range_succ,List.foldl_append];rfl
theorem Mz(me:ByteArray)(rules:List Rl)(P:ES×Bool):∀k,SK P.1 (zerD me rules k P).1
 |0=>.refl _
 |k+1=>by
  rw[M0];split
  ·exact(Mz me rules P k).trans (F9 _ _ _)
  ·exact Mz me rules P k
theorem X8{me:ByteArray}{rules:List Rl}{P:ES×Bool}:∀k,(zerD me rules k P).2=false→P.2=false∧(zerD me rules k P).1=zerS me rules k P.1
 |0,h=>⟨h,rfl⟩
 |k+1,h=>by
  rw[M0]at h⊢;rw[Kd];split at h
  ·rename_i h0
   rw[if_pos h0,if_pos h0];obtain⟨h1,h2,_⟩:=Ajj h;obtain⟨k1,k2⟩:=X8 k h1;exact⟨k1,by rw[h2,k2]⟩
  ·rename_i h0
   rw[if_neg h0,if_neg h0];exact X8 k h
theorem Ail:faZ.Sm:=by show([]:List Cn).length≤_;simp
theorem X9{n:Nat}{me:ByteArray}{rules:List Rl}{P:ES×Bool}(h:SOk n P.1)(hr:∀r∈rules,r.S4):∀k,k≤rules.length→SOk (n+k*60004) (zerD me rules k P).1
 |0,_=>h.le (Nat.le_add_right _ _)
 |k+1,hk=>by
  have ih:=X9 (me:=me) (rules:=rules) h hr k (by omega);rw[M0];split
  ·rename_i h0
   have e:rules.getD k rlZ=rules[k]:=Df (by omega) _;rw[e]at h0⊢;have hr4:=hr _ (List.getElem_mem (show k<rules.length by omega));have h3:=docl (r:=rules[k]) (me:=me) (first:= -1) (f:=faZ) (l:=[]);exact(P6 k (m:=rules[k].bo.length) (by have:=hr4.1.1;omega) _ _ ih (Wn Ail (fun y hy=>by cases hy))).le (by omega)
  ·exact ih.le (by omega)
section
variable{σ:St}
set_option maxHeartbeats 1600000 in
theorem An2(me:ByteArray)(names:List ByteArray)(lim:Int)(rules:List Rl)(hn:names.length≤1000000)(hl:rules.length≤1000000)(hr:∀r∈rules,r.S4):
  AT Tryz.prog 29 [str me,.sl 1 (stC names),int lim,.sl 11 (rlC rules)] σ fun v σ'=>
   (v= .tup [.v (.pointer none),int 2]∧(me∉names∨M3 rules∨¬(1≤lim∧lim≤4096))∧∀y o,σ y=some o→σ' y=some o)∨
   (me∈names∧¬M3 rules∧1≤lim∧lim≤4096∧∃x a,v= .tup [ptr x,int 0]∧EV true σ' x a (newD me names lim rules).1 (newD me names lim rules).2∧∀y o,σ y=some o→σ' y=some o∧¬Bo x a y):=by
 refine AT.ob Tryz.func29 rfl ?_;have no:(me∉names∨M3 rules∨¬(1≤lim∧lim≤4096))→∀{fr:Fr} {σ':St},(∀y o,σ y=some o→σ' y=some o)→A7 Tryz.prog fr σ' (Tryz.f29).results.toList=some (.tup [.v (.pointer none),int 2])→Dt Tryz.prog (fun v σ'=>(v= .tup [.v (.pointer none),int 2]∧(me∉names∨M3 rules∨¬(1≤lim∧lim≤4096))∧∀y o,σ y=some o→σ' y=some o)∨(me∈names∧¬M3 rules∧1≤lim∧lim≤4096∧∃x a,v= .tup [ptr x,int 0]∧EV true σ' x a (newD me names lim rules).1 (newD me names lim rules).2∧∀y o,σ y=some o→σ' y=some o∧¬Bo x a y)) (Tryz.f29).results.toList fr σ':=fun h _ _ hs hr=>
  Ae hr (.inl ⟨rfl,h,hs⟩)
 simp only[go_sem];refine(Aka names me (by omega)).p ?_;by_cases hnm:me∈names
 case neg=>
  simp only[go_sem,decide_eq_false hnm,Bool.not_false];exact no (.inl hnm) (fun _ _ h=>h) rfl
 simp only[go_sem,decide_eq_true hnm,Bool.not_true,Ch];refine⟨fun m fr σ'=>∃i:Nat,m=rules.length-i∧i≤rules.length∧(∀k (hk:k<rules.length),k<i→∀y∈rules[k].bo,y.at'= .zero)∧σ'=σ∧fr 0=str me∧fr 1= .sl 1 (stC names)∧fr 2=int lim∧fr 3= .sl 11 (rlC rules)∧fr 10=int i,⟨_,0,rfl,by omega,fun k hk h=>by omega,rfl,rfl,rfl,rfl,rfl,rfl⟩,?_⟩;rintro m fr σ ⟨i,rfl,hi,hz,rfl,f0,f1,f2,f3,f10⟩;simp only[go_sem,f3,f10,Ch];refine aIf_by (fun hlt=>?_) (fun hlt=>?_)
 case' refine_1=>
  have hil:i<rules.length:=by omega
  obtain⟨r,hrr⟩:∃r,r=rules[i]:=⟨_,rfl⟩;have hr4:=hr _ (List.getElem_mem hil);rw[←hrr]at hr4;have rg:(rlC rules).getD i []=r.cs:=by rw[hrr];exact C9 hil
  have h1:=hr4.1.1;have lcl:=D3 r.bo;simp only[go_sem,Aa];refine⟨fun m fr σ'=>∃j:Nat,m=r.bo.length-j∧j≤r.bo.length∧(∀k (hk:k<r.bo.length),k<j→r.bo[k].at'= .zero)∧σ'=σ∧fr 0=str me∧fr 1= .sl 1 (stC names)∧fr 2=int lim∧fr 3= .sl 11 (rlC rules)∧fr 10=int i∧fr 11=int j,⟨_,0,rfl,by omega,fun k hk h=>by omega,rfl,f0,f1,f2,f3,f10,rfl⟩,?_⟩;clear f0 f1 f2 f3 f10;rintro m fr σ ⟨j,rfl,hj,hz2,rfl,f0,f1,f2,f3,f10,f11⟩;simp only[go_sem,f3,f10,f11,rg,Ch];refine⟨by omega,?_⟩;refine aIf_by (fun hlt=>?_) (fun hlt=>?_)
  ·have hjl:j<r.bo.length:=by omega
   simp only[go_sem,Aa,f3,f10,f11,rg,Ch,Ek hjl,lcl];refine⟨by omega,by omega,Akp ?_⟩;by_cases hat:r.bo[j].at'= .zero
   ·simp only[go_sem,Aa,decide_eq_true hat,f11,Aw j (by omega)]
    refine⟨r.bo.length-(j+1),by omega,j+1,rfl,by omega,fun k hk hkj=>?_,f0,f1,f2,f3,f10,rfl⟩;by_cases e:k=j
    ·subst e;exact hat
    ·exact hz2 k hk (by omega)
   ·simp only[go_sem,Aa,decide_eq_false hat]
    refine no (.inr (.inl ⟨r,by rw[hrr];exact List.getElem_mem hil,_,List.getElem_mem hjl,hat⟩)) (fun _ _ h=>h) rfl
  ·simp only[go_sem,Aa,f10,Aw i (by omega)]
   refine⟨rules.length-(i+1),by omega,i+1,rfl,by omega,fun k hk hki=>?_,f0,f1,f2,f3,rfl⟩;by_cases e:k=i
   ·subst e
    intro y hy;rw[←hrr]at hy;obtain⟨q,hq,e⟩:=List.mem_iff_getElem.1 hy;rw[←e];exact hz2 q hq (by omega)
   ·exact hz k hk (by omega)
 have hgood:¬M3 rules:=fun⟨r,hm,y,hy,hne⟩=>by
  obtain⟨k,hk,e⟩:=List.mem_iff_getElem.1 hm;exact hne (hz k hk (by omega) y (by rw[e];exact hy))
 clear hz;simp only[go_sem,Aa,f2];refine(Akk lim).mono ?_;intro v σ2 htn;by_cases hlim:1≤lim∧lim≤4096
 case neg=>
  rw[if_neg hlim]at htn;obtain⟨rfl,rfl⟩:=htn;simp only[go_sem,Aa];exact no (.inr (.inr hlim)) (fun _ _ h=>h) rfl
 rw[if_pos hlim]at htn;obtain⟨t,ft,rfl,rfl⟩:=htn;obtain⟨σ2,e2⟩:∃s,s=σ.set t (tbC [] lim):=⟨_,rfl⟩;have ht2:σ2 t=some (tbC [] lim):=by rw[e2];exact Ab
 have hs2:∀y o,σ y=some o→σ2 y=some o:=by rw[e2];exact B6 ft fun _ _ h=>h
 rw[←e2];clear e2;simp only[go_sem,Aa,f0,f1,f3];refine Ax fun b fb _=>?_;simp only[go_sem,Aa];obtain⟨σ3,e3⟩:∃s,s=σ2.set b (.cells [.v (.slice none 0 0)]):=⟨_,rfl⟩;have hb3:σ3 b=some (.cells [A0]):=by rw[e3];exact Ab
 have hs3:∀y o,σ2 y=some o→σ3 y=some o:=by rw[e3];exact B6 fb fun _ _ h=>h
 rw[←e3];clear e3;refine Ax fun x hx _=>?_;obtain⟨raw,hraw⟩:∃r:List AV,r=[.v (.string me),.sl 1 (stC names),.sl 11 (rlC rules),.v (.pointer (some ⟨t,0,none⟩)),.v (.pointer (some ⟨b,0,none⟩)),.v (.slice none 0 0),.v (.slice none 0 0),.v (.slice none 0 0),.v (.bool false),.v (.bool false)]:=⟨_,rfl⟩;rw[←hraw];obtain⟨s0,hs0⟩:∃s0,s0=Nq me names lim rules:=⟨_,rfl⟩;obtain⟨a0,ha0⟩:∃a0:EA,a0=⟨t,b,.sl 4 (faC []),A0,A0⟩:=⟨_,rfl⟩;have O0:SOk 0 s0:=by rw[hs0];exact Nr hlim.1 hlim.2 hr hl hn
 have ht3:=hs3 _ _ ht2;have nxt:x≠t:=fun e=>by rw[e,ht3]at hx;cases hx
 have nxb:x≠b:=fun e=>by rw[e,hb3]at hx;cases hx
 have ntb:t≠b:=fun e=>by rw[←e,ht2]at fb;cases fb
 have at0:a0.t=t:=by rw[ha0]
 have ab0:a0.b=b:=by rw[ha0]
 have nq0:∀y,¬Own a0.gv y∧¬Je a0.qv y∧¬Own a0.ov y:=fun y=>by rw[ha0];exact⟨G8,Tu,B2⟩
 have E4:EV true ((σ3.set b (rkC [])).set x (.cells (evC true s0 a0 false))) x a0 s0 false:=⟨Ab,by rw[at0,Ag nxt.symm,Ag ntb,ht3,hs0];rfl,by rw[ab0,Ag nxb.symm,Ab,hs0];rfl,by rw[if_pos rfl,ha0,hs0];rfl,by rw[ha0,hs0];exact .nil,by rw[ha0,hs0];exact .none,by rw[at0];exact nxt,by rw[ab0];exact nxb,by rw[at0,ab0];exact ntb,fun y ho=>absurd ho (nq0 y).1⟩;have F4:∀y o,σ y=some o→((σ3.set b (rkC [])).set x (.cells (evC true s0 a0 false))) y=some o∧¬Bo x a0 y:=fun y o hy=>by
  have y2:=hs2 _ _ hy;have y3:=hs3 _ _ y2;have nyx:y≠x:=fun e=>by rw[e,hx]at y3;cases y3
  have nyb:y≠b:=fun e=>by rw[e,fb]at y2;cases y2
  refine⟨by rw[Ag nyx,Ag nyb];exact y3,fun hf=>?_⟩;rcases hf with e|e|e|e|e|e
  ·exact nyx e
  ·rw[e,at0,ft]at hy;cases hy
  ·exact nyb (by rw[e,ab0])
  ·exact(nq0 y).1 e
  ·exact(nq0 y).2.1 e
  ·exact(nq0 y).2.2 e
 have V4:SV (σ3.set x (.cells raw)) ((σ3.set b (rkC [])).set x (.cells (evC true s0 a0 false))):=Gi fun y o hy=>by
  by_cases e1:y=x
  ·rw[e1,Ab]at hy
   injection hy with hy;subst hy;refine .inr ⟨.cells raw,by rw[e1,Ab],?_⟩;rw[hraw,ha0,hs0];exact vws_same (vws_same (vws_same (vws_same (vws_same (vws_cons (.nil 4) (By _))))))
  ·by_cases e2:y=b
   ·rw[Ag e1,e2,Ab]at hy
    injection hy with hy;subst hy;exact .inr ⟨.cells [A0],by rw[Ag e1,e2];exact hb3,vws_cons (.nil 6) B7⟩
   ·rw[Ag e1,Ag e2]at hy
    exact .inl (by rw[Ag e1];exact hy)
 generalize (σ3.set b (rkC [])).set x (.cells (evC true s0 a0 false))=σE at E4 F4 V4;generalize σ3.set x (.cells raw)=σ4 at V4⊢;clear hx nxt nxb ntb nq0 at0 ab0 ht3 hb3 hs3 fb ht2 hs2 ft hraw;have m0:s0.me=me:=by rw[hs0];rfl
 have r0:s0.rules=rules:=by rw[hs0];rfl
 have T0:s0.T=[]:=by rw[hs0];rfl
 simp only[go_sem,Aa];refine⟨fun m fr σ'=>∃(i:Nat) (a':EA) (P:ES×Bool) (σE:St),m=rules.length-i∧i≤rules.length∧P=zerD me rules i (s0,false)∧SOk (0+i*60004) P.1∧SV σ' σE∧EV true σE x a' P.1 P.2∧(∀y o,σ y=some o→σE y=some o∧¬Bo x a' y)∧fr 3= .sl 11 (rlC rules)∧fr 14=ptr x∧fr 15=int i,⟨_,0,a0,(s0,false),σE,rfl,by omega,rfl,O0,V4,E4,F4,f3,rfl,rfl⟩,?_⟩;clear E4 F4 V4 f0 f1 f2 f3 f10 O0;rintro m fr σ1 ⟨i,a',P,σE,rfl,hi,hP,hO,hV,hE,hF,f3,f14,f15⟩;simp only[go_sem,f3,f15,Ch];refine aIf_by (fun hlt=>?_) (fun hlt=>?_)
 case' refine_2=>
  have ei:i=rules.length:=by omega
  rw[ei]at hP;simp only[go_sem,Aa,f14];exact Ad (r:=.tup [ptr x,int 0]) rfl _ σE (view_of hV (.refl _)) (.inr ⟨hnm,hgood,hlim.1,hlim.2,x,a',rfl,by rw[show newD me names lim rules=P by rw[hP,hs0];rfl];exact hE,hF⟩)
 have hil:i<rules.length:=by omega
 obtain⟨r,hrr⟩:∃r,r=rules[i]:=⟨_,rfl⟩;have hr4:=hr _ (List.getElem_mem hil);rw[←hrr]at hr4;have rg:(rlC rules).getD i []=r.cs:=by rw[hrr];exact C9 hil
 have hgr:rules.getD i rlZ=r:=by rw[Df hil,hrr]
 have K':SK s0 P.1:=by rw[hP];exact Mz me rules (s0,false) i
 have lcl:=D3 r.bo;have nx:=Aw i (by omega);have es:=M0 (me:=me) (rules:=rules) (k:=i) (P:=(s0,false));rw[hgr,←hP]at es;by_cases hbo:r.bo.length=0
 case neg=>
  rw[if_neg hbo]at es;have d1:=decide_eq_false (show¬(r.bo.length:Int)=0 by omega);simp only[go_sem,Aa,f3,f15,rg,Ch,lcl,d1,nx];exact⟨by omega,rules.length-(i+1),by omega,i+1,a',P,σE,rfl,by omega,es.symm,hO.le (by omega),hV,hE,hF,f14,rfl⟩
 rw[if_pos hbo]at es;have d1:=decide_eq_true (show(r.bo.length:Int)=0 by omega);have hil':i<P.1.rules.length:=by rw[K'.rules,r0];exact hil
 have hri:P.1.rules[i]=r:=by rw[hrr];exact List.getElem_of_eq (K'.rules.trans r0) hil'
 have mP:P.1.me=me:=K'.me.trans m0;have TP:P.1.T=[]:=K'.T.trans T0;simp only[go_sem,Aa,f3,f14,f15,rg,Ch,lcl,d1];have hc:=Aaa hE hO (by omega) i hil' (-1) faZ Ail;rw[hri,mP,TP]at hc;refine⟨by omega,(AT.pre hc (by kernel_rfl) hV (vws_same (vws_same (vws_same (vws_cons (.agg [str emp,str emp,str emp,A0] faZ.cs rfl (show VWs _ _ [str emp,str emp,str emp,A0] faZ.cs from vws_same (vws_same (vws_same (vws_cons (.nil 3) B7)))).2) B7))))).mono ?_⟩;rintro _ σ5 ⟨a2,E2,G2⟩;have O2:=X9 (n:=0) (me:=me) (rules:=rules) (P:=(s0,false)) (by rw[hs0];exact Nr hlim.1 hlim.2 hr hl hn) hr (i+1) (by omega);rw[es,Nat.zero_add]at O2;simp only[go_sem,Aa,f15,nx];exact⟨rules.length-(i+1),by omega,i+1,a2,lkD me faZ [] i r (-1) P,σ5,rfl,by omega,es.symm,O2,Gi fun _ _ h=>.inl h,E2,fun y o hy=>G2 y o (hF y o hy).1 (hF y o hy).2,f3,f14,rfl⟩
end
def Kk(P:ES×Bool)(a:Ac):ES×Bool:=if a.k=0 then((D1 P.1 a.f).2,P.2)else if a.k=1 then((Gc P.1 a.f).2,P.2)else if a.k=2 then(Cz P.1 P.2).2 else P
theorem Ak4{P:ES×Bool}{a:Ac}(h:(Kk P a).2=false):P.2=false∧(Kk P a).1=Hu P.1 a∧(a.k=2→Ia P.1):=by
 unfold Kk at h⊢;unfold Hu;by_cases k0:a.k=0
 ·rw[if_pos k0]at h⊢;rw[if_pos k0];exact⟨h,rfl,fun e=>by omega⟩
 rw[if_neg k0]at h⊢;rw[if_neg k0];by_cases k1:a.k=1
 ·rw[if_pos k1]at h⊢;rw[if_pos k1];exact⟨h,rfl,fun e=>by omega⟩
 rw[if_neg k1]at h⊢;rw[if_neg k1];by_cases k2:a.k=2
 ·rw[if_pos k2]at h⊢;rw[if_pos k2]
  obtain⟨h1,_,h3⟩:=Xz h;exact⟨h1,h3,fun _=>X0 h⟩
 ·rw[if_neg k2]at h⊢;rw[if_neg k2];exact⟨h,rfl,fun e=>absurd e k2⟩
theorem Ak5{n g:Nat}{P:ES×Bool}{a:Ac}{rs:List Rl}(h:SOk n P.1)(hg:P.1.given.length≤g)(g1:g+1≤1000000)(hr:P.1.rules=rs)(hl:Cq rs rs.length≤80):SOk (n+4800320) (Kk P a).1∧(Kk P a).1.given.length≤g+1∧(Kk P a).1.rules=rs:=by
 unfold Kk;split
 ·have:=W7 (f:=a.f) h hg g1
  exact⟨this.1.le (by omega),this.2,(Vg P.1 a.f).rules.trans hr⟩
 ·split
  ·have:=Adf (f:=a.f) h hg
   exact⟨this.1.le (by omega),Nat.le_trans this.2 (Nat.le_succ g),(Uy P.1 a.f).rules.trans hr⟩
  ·split
   ·obtain⟨k1,k2⟩:=Ae7 (hv:=P.2) h
    have k3:(Cz P.1 P.2).2.1.given=P.1.given:=by
     unfold Cz;split
     ·rfl
     split
     ·rfl
     split
     ·rfl
     split
     ·exact(Ly _ _ _ _ _ _).given
     ·rfl
    rw[hr]at k1;refine⟨k1.le (Nat.add_le_add_left (Nat.le_trans (Nat.mul_le_mul hl (Nat.le_refl 60004)) (by decide)) n),by rw[k3];omega,k2.trans hr⟩
   ·exact⟨h.le (by omega),by omega,hr⟩
section
variable{σ:St}
set_option maxHeartbeats 1600000 in
theorem Acb{lv:AV}(me:ByteArray)(names:List ByteArray)(lim:Int)(rs:List Rl)(l:List Ac)(hS:C7Sm names rs l)(h0:Rd 5 σ lv (acC l)):
  AT Tryz.prog 13 [.agg (c7C me names lim rs),lv] σ fun v σ'=>
   (v= .tup [.v (.pointer none),.v (.pointer none),boo false]∧∀z o,σ z=some o→σ' z=some o)∨
   (∃x a y b,v= .tup [ptr x,ptr y,boo true]∧Fin7 me names rs l (Tb me names rs l)∧Both σ' x a y b (Tb me names rs l)∧∀z o,σ z=some o→σ' z=some o∧¬Bo x a z∧¬Bo y b z):=by
 refine AT.ob Tryz.func13 rfl ?_;have ho:(c7C me names lim rs).all AV.one=true:=rfl;have al:=hS.al;have rl80:=hS.rl;have nm8:=hS.nm;have n8:∀m,m+4860324≤800000000000→m+Cq rs rs.length*60004+60004≤800000000000:=by
  have:=hS.lt;revert this;generalize Cq rs rs.length=L;intro h m hm;have:=Nat.mul_le_mul h (Nat.le_refl 60004);omega
 have n7:∀m,m+4860324≤800000000000→m+Cq rs rs.length*60002≤800000000000:=by
  have:=hS.lt;revert this;generalize Cq rs rs.length=L;intro h m hm;have:=Nat.mul_le_mul h (Nat.le_refl 60002);omega
 have no:∀{fr:Fr} {σ':St},(∀y o,σ y=some o→σ' y=some o)→A7 Tryz.prog fr σ' (Tryz.f13).results.toList=some (.tup [.v (.pointer none),.v (.pointer none),boo false])→Dt Tryz.prog (fun v σ'=>(v= .tup [.v (.pointer none),.v (.pointer none),boo false]∧∀z o,σ z=some o→σ' z=some o)∨
   (∃x a y b,v= .tup [ptr x,ptr y,boo true]∧Fin7 me names rs l (Tb me names rs l)∧Both σ' x a y b (Tb me names rs l)∧∀z o,σ z=some o→σ' z=some o∧¬Bo x a z∧¬Bo y b z)) (Tryz.f13).results.toList fr σ':=fun hs hr=>
  Ae hr (.inl ⟨rfl,hs⟩)
 simp only[go_sem,ho];refine Ctx.nil.alloc fun p σ1 c1=>?_;have hp:=c1.g0;have hs1:=c1.sub;have fp:=c1.f0;clear c1;simp only[go_sem,hp];refine(An2 me names 4096 rs (by omega) (by omega) hS.rs).mono ?_;rintro _ σ2 (⟨rfl,hbad,hs2⟩|⟨n1,n2,n3,n4,y,b,rfl,E2,F2⟩)
 ·simp only[go_sem]
  exact no (fun z o hz=>hs2 _ _ (hs1 _ _ hz)) rfl
 simp only[go_sem];obtain⟨s0,hs0⟩:∃s0,s0=Ed me names 4096 rs:=⟨_,rfl⟩;have hr0:s0.rules=rs:=by rw[hs0];exact(Hd me rs (Nq me names 4096 rs) rs.length).rules
 have O0:SOk (4800320+0*4800320) s0:=by
  rw[hs0];exact(Ya (n:=0) (me:=me) (rules:=rs) (Nr n3 n4 hS.rs (by omega) (by omega)) rs.length).le (by omega)
 have G0:s0.given.length≤0:=by
  rw[hs0,show(Ed me names 4096 rs).given=[]from(Hd me rs (Nq me names 4096 rs) rs.length).given];exact Nat.le_refl _
 obtain⟨P0,hP0⟩:∃P0,P0=newD me names 4096 rs:=⟨_,rfl⟩;have e0:P0.2=false→P0.1=s0:=fun h=>by rw[hP0]at h⊢;rw[hs0];exact(X8 _ h).2
 have OP0:SOk 4800320 P0.1∧P0.1.given.length≤0∧P0.1.rules=rs:=by
  have k:=Mz me rs (Nq me names 4096 rs,false) rs.length;refine⟨?_,?_,?_⟩
  ·rw[hP0]
   exact(X9 (n:=0) (P:=(Nq me names 4096 rs,false)) (me:=me) (Nr n3 n4 hS.rs (by omega) (by omega)) hS.rs rs.length (Nat.le_refl _)).le (by omega)
  ·rw[hP0];show(zerD me rs rs.length _).1.given.length≤0;rw[k.given];exact Nat.le_refl _
  ·rw[hP0];exact k.rules
 rw[←hP0]at E2;have hp2:=F2 _ _ hp;have FF2:∀z o,σ z=some o→σ2 z=some o∧¬Bo y b z:=fun z o hz=>F2 _ _ (hs1 _ _ hz);refine⟨fun m fr σ'=>∃(i:Nat) (b:EA) (P:ES×Bool),m=l.length-i∧i≤l.length∧EV true σ' y b P.1 P.2∧SOk (4800320+i*4800320) P.1∧P.1.given.length≤i∧P.1.rules=rs∧(P.2=false→P.1=Dq (l.take i) s0∧∀j (hj:j<l.length),j<i→l[j].k=2→Ia (Dq (l.take j) s0))∧(∀z o,σ z=some o→σ' z=some o∧¬Bo y b z)∧σ' p=some (.cells (c7C me names lim rs))∧¬Bo y b p∧fr 1=lv∧fr 2=ptr p∧fr 7=ptr y∧fr 9=int i,⟨_,0,b,P0,rfl,by omega,E2,OP0.1,OP0.2.1,OP0.2.2,fun h=>⟨e0 h,fun j hj h=>by omega⟩,FF2,hp2.1,hp2.2,rfl,rfl,rfl,rfl⟩,?_⟩;clear E2 OP0 e0 F2 FF2 hp2 hp hs1;rintro m fr σ3 ⟨i,b,P,rfl,hi,E3,O3,G3,R3,hrun,F3,hp3,np3,f1,f2,f7,f9⟩;have hlv:Rd 5 σ3 lv (acC l):=h0.keep fun z o hz=>(F3 z o hz).1;by_cases hil:i<l.length
 ·have d1:=decide_eq_true (show(i:Int)<l.length by omega)
  have hfs:=hS.fs _ (List.getElem_mem hil);have nx:=Aw i (by omega);simp only[go_sem,Aa,f1,f9,hlv.len,Ct,d1];refine hlv.elem (by omega) (by rw[Ct];omega) fun q0 hq0=>?_;rw[Int.toNat_natCast,Kj hil]at hq0;simp only[go_sem];refine hq0.fld (by decide) (by rw[Ac.len];omega) fun q1 hq1=>?_;simp only[go_sem];refine hq1.load1 (by decide) (by rw[Ac.len];omega) ?_;simp only[go_sem,Ac.at0];refine H0 (fun fr σ'=>∃b',EV true σ' y b' (Kk P l[i]).1 (Kk P l[i]).2∧(∀z o,σ z=some o→σ' z=some o∧¬Bo y b' z)∧σ' p=some (.cells (c7C me names lim rs))∧¬Bo y b' p∧fr 1=lv∧fr 2=ptr p∧fr 7=ptr y∧fr 9=int i) ?_ ?_
  ·by_cases k0:l[i].k=0
   ·have ea:Kk P l[i]=((D1 P.1 l[i].f).2,P.2):=by unfold Kk;rw[if_pos k0]
    simp only[go_sem,Aa,decide_eq_true k0,f1,f7,f9];refine hlv.elem (by omega) (by rw[Ct];omega) fun r0 hr0=>?_;rw[Int.toNat_natCast,Kj hil]at hr0;simp only[go_sem];refine hr0.fld (by decide) (by rw[Ac.len];omega) fun r1 hr1=>?_;simp only[go_sem];refine hr1.load (by decide) (by rw[Ac.len];omega) ?_;simp only[go_sem,Ac.fa];refine(Ach E3 O3 (by omega) l[i].f).mono ?_;rintro _ σ4 ⟨rfl,b2,E4,G4⟩;simp only[go_sem,Aa];exact⟨b2,by rw[ea];exact E4,fun z o hz=>G4 z o (F3 z o hz).1 (F3 z o hz).2,(G4 _ _ hp3 np3).1,(G4 _ _ hp3 np3).2,f1,f2,f7,f9⟩
   by_cases k1:l[i].k=1
   ·have ea:Kk P l[i]=((Gc P.1 l[i].f).2,P.2):=by unfold Kk;rw[if_neg k0,if_pos k1]
    simp only[go_sem,Aa,decide_eq_false k0,decide_eq_true k1,f1,f7,f9];refine hlv.elem (by omega) (by rw[Ct];omega) fun r0 hr0=>?_;rw[Int.toNat_natCast,Kj hil]at hr0;simp only[go_sem];refine hr0.fld (by decide) (by rw[Ac.len];omega) fun r1 hr1=>?_;simp only[go_sem];refine hr1.load (by decide) (by rw[Ac.len];omega) ?_;simp only[go_sem,Ac.fa];refine(Acd E3 O3 (by omega) l[i].f hfs).mono ?_;rintro _ σ4 ⟨rfl,b2,E4,G4⟩;simp only[go_sem,Aa];exact⟨b2,by rw[ea];exact E4,fun z o hz=>G4 z o (F3 z o hz).1 (F3 z o hz).2,(G4 _ _ hp3 np3).1,(G4 _ _ hp3 np3).2,f1,f2,f7,f9⟩
   by_cases k2:l[i].k=2
   ·have ea:Kk P l[i]=(Cz P.1 P.2).2:=by unfold Kk;rw[if_neg k0,if_neg k1,if_pos k2]
    simp only[go_sem,Aa,decide_eq_false k0,decide_eq_false k1,decide_eq_true k2,f7];refine(Aac E3 O3 (by rw[R3];exact n8 _ (by omega))).mono ?_;rintro _ σ4 ⟨rfl,b2,E4,G4⟩;simp only[go_sem,Aa];exact⟨b2,by rw[ea];exact E4,fun z o hz=>G4 z o (F3 z o hz).1 (F3 z o hz).2,(G4 _ _ hp3 np3).1,(G4 _ _ hp3 np3).2,f1,f2,f7,f9⟩
   ·have ea:Kk P l[i]=P:=by unfold Kk;rw[if_neg k0,if_neg k1,if_neg k2]
    simp only[go_sem,Aa,decide_eq_false k0,decide_eq_false k1,decide_eq_false k2];exact⟨b,by rw[ea];exact E3,F3,hp3,np3,f1,f2,f7,f9⟩
  ·rintro fr σ4 ⟨b2,E4,F4,hp4,np4,f1,f2,f7,f9⟩
   have hy4:=E4.cx;obtain⟨q1,q2,q3⟩:=Ak5 (a:=l[i]) O3 G3 (by omega) R3 hS.lt;cases hv:(Kk P l[i]).2 with
   |true=>
    rw[hv]at hy4;simp only[go_sem,Aa,f7,hy4];exact no (fun z o hz=>(F4 z o hz).1) rfl
   |false=>
    rw[hv]at hy4;obtain⟨w1,w2,w3⟩:=Ak4 hv;obtain⟨u1,u2⟩:=hrun w1;simp only[go_sem,Aa,f7,f9,hy4,nx]
    exact⟨l.length-(i+1),by omega,i+1,b2,Kk P l[i],rfl,by omega,E4,q1.le (by omega),q2,q3,fun _=>⟨by rw[w2,u1,Qv _ hil],fun j hj hji hk=>by
     by_cases e:j=i
     ·subst e;rw[←u1];exact w3 hk
     ·exact u2 j hj (by omega) hk⟩,F4,hp4,np4,f1,f2,rfl⟩
 ·have ei:i=l.length:=by omega
  subst ei;rw[List.take_length]at hrun;have d1:=decide_eq_false (show¬((l.length:Nat):Int)<l.length by omega);simp only[go_sem,Aa,f1,f7,f9,hlv.len,Ct,d1];refine(Ago E3 O3 (by rw[R3];exact hS.lt) (by omega)).mono ?_;rintro _ σ4 ⟨rfl,b2,E4,G4⟩;have F4:∀z o,σ z=some o→σ4 z=some o∧¬Bo y b2 z:=fun z o hz=>G4 z o (F3 z o hz).1 (F3 z o hz).2;have hp4:=G4 _ _ hp3 np3;cases hd:(Qa 400 (P.1,P.2)).1 with
  |false=>
   simp only[go_sem,Aa,hd,Bool.not_false];exact no (fun z o hz=>(F4 z o hz).1) rfl
  |true=>
  obtain⟨w1,w2,w3,w4⟩:=Ads 400 P.1 P.2 hd;obtain⟨u1,u2⟩:=hrun w1;rw[w4,←w3,u1]at E4;rw[u1]at w2;have hw2:∀j (h:j<l.length),l[j].k=2→Ia (Dq (l.take j) (Ed me names 4096 rs)):=fun j h hk=>by rw[←hs0];exact u2 j h h hk
  have Fn:=fin7 n1 n2 hS hw2 (by rw[←hs0];exact w2);have efin:Tb me names rs l=Hw 400 (Dq l s0):=by rw[hs0];rfl
  rw[←efin]at E4;clear E3 O3 G3 R3 hrun F3 hp3 np3 w1 w3 w4;simp only[go_sem,Aa,hd,f2,hp4.1,Bool.not_true];refine(Ad1 me names 4096 rs (by omega) (by omega) hS.rs).mono ?_;rintro _ σ5 (⟨rfl,hbad,_⟩|⟨_,_,_,_,x,a,rfl,E5,F5⟩)
  ·rcases hbad with h|h|h
   ·exact absurd n1 h
   ·exact absurd h n2
   ·exact absurd ⟨n3,n4⟩ h
  rw[←hs0]at E5;have y5:EV true σ5 y b2 (Tb me names rs l) false:=E4.keep fun z o hz _=>(F5 z o hz).1;have dj5:∀z,Bo x a z→¬Bo y b2 z:=fun z hx hy=>by
   obtain⟨o,ho⟩:=Ik E4 hy;exact(F5 z o ho).2 hx
  have FF5:∀z o,σ z=some o→σ5 z=some o∧¬Bo x a z∧¬Bo y b2 z:=fun z o hz=>⟨(F5 z o (F4 z o hz).1).1,(F5 z o (F4 z o hz).1).2,(F4 z o hz).2⟩;clear E4 G4 F4 hp4 F5 f2 f9;simp only[go_sem,Aa];refine⟨fun m fr σ'=>∃(j:Nat) (a:EA),m=l.length-j∧j≤l.length∧EV false σ' x a (Dq (l.take j) s0) false∧EV true σ' y b2 (Tb me names rs l) false∧(∀z,Bo x a z→¬Bo y b2 z)∧SOk (4800320+j*4800320) (Dq (l.take j) s0)∧(Dq (l.take j) s0).given.length≤j∧(∀z o,σ z=some o→σ' z=some o∧¬Bo x a z∧¬Bo y b2 z)∧fr 1=lv∧fr 7=ptr y∧fr 10=ptr x∧fr 12=int j,⟨_,0,a,rfl,by omega,E5,y5,dj5,O0,G0,FF5,f1,f7,rfl,rfl⟩,?_⟩;clear E5 y5 dj5 O0 G0 FF5 f1 f7 hlv;rintro m fr σ6 ⟨j,a,rfl,hj,E6,y6,dj6,O6,G6,F6,f1,f7,f10,f12⟩;have hlv:Rd 5 σ6 lv (acC l):=h0.keep fun z o hz=>(F6 z o hz).1;have R6:(Dq (l.take j) s0).rules=rs:=(Mr (l.take j) s0).rules.trans hr0;by_cases hjl:j<l.length
  ·have d1:=decide_eq_true (show(j:Int)<l.length by omega)
   have hfs:=hS.fs _ (List.getElem_mem hjl);have nx:=Aw j (by omega);simp only[go_sem,f1,f12,hlv.len,Ct,d1];refine H0 (fun fr σ'=>∃a',EV false σ' x a' (Hu (Dq (l.take j) s0) l[j]) false∧EV true σ' y b2 (Tb me names rs l) false∧(∀z,Bo x a' z→¬Bo y b2 z)∧(∀z o,σ z=some o→σ' z=some o∧¬Bo x a' z∧¬Bo y b2 z)∧fr 1=lv∧fr 7=ptr y∧fr 10=ptr x∧fr 12=int j) ?_ ?_
   ·simp only[go_sem,Aa,f1,f12]
    refine hlv.elem (by omega) (by rw[Ct];omega) fun q0 hq0=>?_;rw[Int.toNat_natCast,Kj hjl]at hq0;simp only[go_sem];refine hq0.fld (by decide) (by rw[Ac.len];omega) fun q1 hq1=>?_;simp only[go_sem];refine hq1.load1 (by decide) (by rw[Ac.len];omega) ?_;simp only[go_sem,Ac.at0];by_cases k0:l[j].k=0
    ·have ea:Hu (Dq (l.take j) s0) l[j]=(D1 (Dq (l.take j) s0) l[j].f).2:=by unfold Hu;rw[if_pos k0]
     simp only[go_sem,Aa,decide_eq_true k0,f1,f10,f12];refine hlv.elem (by omega) (by rw[Ct];omega) fun r0 hr0=>?_;rw[Int.toNat_natCast,Kj hjl]at hr0;simp only[go_sem];refine hr0.fld (by decide) (by rw[Ac.len];omega) fun r1 hr1=>?_;simp only[go_sem];refine hr1.load (by decide) (by rw[Ac.len];omega) ?_;simp only[go_sem,Ac.fa];refine(S5 E6 O6 (by omega) l[j].f).mono ?_;rintro _ σ7 ⟨rfl,a2,E7,G7⟩;obtain⟨y7,dj7⟩:=y6.stay G7 fun z hz hx=>dj6 z hx hz;simp only[go_sem,Aa]
     exact⟨a2,by rw[ea];exact E7,y7,fun z hx hy=>dj7 z hy hx,fun z o hz=>by
      obtain⟨k1,k2,k3⟩:=F6 z o hz;exact⟨(G7 z o k1 k2).1,(G7 z o k1 k2).2,k3⟩,f1,f7,f10,f12⟩
    by_cases k1:l[j].k=1
    ·have ea:Hu (Dq (l.take j) s0) l[j]=(Gc (Dq (l.take j) s0) l[j].f).2:=by unfold Hu;rw[if_neg k0,if_pos k1]
     simp only[go_sem,Aa,decide_eq_false k0,decide_eq_true k1,f1,f10,f12];refine hlv.elem (by omega) (by rw[Ct];omega) fun r0 hr0=>?_;rw[Int.toNat_natCast,Kj hjl]at hr0;simp only[go_sem];refine hr0.fld (by decide) (by rw[Ac.len];omega) fun r1 hr1=>?_;simp only[go_sem];refine hr1.load (by decide) (by rw[Ac.len];omega) ?_;simp only[go_sem,Ac.fa];refine(S2 E6 O6 (by omega) l[j].f hfs).mono ?_;rintro _ σ7 ⟨rfl,a2,E7,G7⟩;obtain⟨y7,dj7⟩:=y6.stay G7 fun z hz hx=>dj6 z hx hz;simp only[go_sem,Aa]
     exact⟨a2,by rw[ea];exact E7,y7,fun z hx hy=>dj7 z hy hx,fun z o hz=>by
      obtain⟨k1,k2,k3⟩:=F6 z o hz;exact⟨(G7 z o k1 k2).1,(G7 z o k1 k2).2,k3⟩,f1,f7,f10,f12⟩
    by_cases k2:l[j].k=2
    ·have ea:Hu (Dq (l.take j) s0) l[j]=(Bt (Dq (l.take j) s0)).2:=by unfold Hu;rw[if_neg k0,if_neg k1,if_pos k2]
     simp only[go_sem,Aa,decide_eq_false k0,decide_eq_false k1,decide_eq_true k2,f10];refine(Oj E6 O6 (by rw[R6];exact n7 _ (by omega)) (u2 j hjl hjl k2)).mono ?_;rintro _ σ7 ⟨rfl,a2,E7,G7⟩;obtain⟨y7,dj7⟩:=y6.stay G7 fun z hz hx=>dj6 z hx hz;simp only[go_sem,Aa]
     exact⟨a2,by rw[ea];exact E7,y7,fun z hx hy=>dj7 z hy hx,fun z o hz=>by
      obtain⟨k1,k2,k3⟩:=F6 z o hz;exact⟨(G7 z o k1 k2).1,(G7 z o k1 k2).2,k3⟩,f1,f7,f10,f12⟩
    ·have ea:Hu (Dq (l.take j) s0) l[j]=Dq (l.take j) s0:=by unfold Hu;rw[if_neg k0,if_neg k1,if_neg k2]
     simp only[go_sem,Aa,decide_eq_false k0,decide_eq_false k1,decide_eq_false k2];exact⟨a,by rw[ea];exact E6,y6,dj6,F6,f1,f7,f10,f12⟩
   ·rintro fr σ7 ⟨a2,E7,y7,dj7,F7,f1,f7,f10,f12⟩
    obtain⟨q1,q2⟩:=Ac8 (a:=l[j]) O6 G6 (by omega) (by rw[R6];exact hS.lt) (u2 j hjl hjl);rw[←Qv _ hjl]at E7 q1 q2;simp only[go_sem,Aa,f12,nx];exact⟨l.length-(j+1),by omega,j+1,a2,rfl,by omega,E7,y7,dj7,q1.le (by omega),q2,F7,f1,f7,f10,rfl⟩
  ·have ej:j=l.length:=by omega
   subst ej;rw[List.take_length]at E6 O6 R6;have d1:=decide_eq_false (show¬((l.length:Nat):Int)<l.length by omega);simp only[go_sem,Aa,f1,f10,f12,hlv.len,Ct,d1];refine(Af2 E6 O6 (by rw[R6];exact hS.lt) 400 (by omega) w2).mono ?_;rintro _ σ7 ⟨a2,E7,G7⟩;obtain⟨y7,dj7⟩:=y6.stay G7 fun z hz hx=>dj6 z hx hz;rw[←efin]at E7;simp only[go_sem,Aa,f7,f10]
   exact Ae (r:=.tup [ptr x,ptr y,boo true]) rfl (.inr ⟨x,a2,y,b2,rfl,Fn,⟨E7,y7,fun z hx hy=>dj7 z hy hx⟩,fun z o hz=>by
    obtain⟨k1,k2,k3⟩:=F6 z o hz;exact⟨(G7 z o k1 k2).1,(G7 z o k1 k2).2,k3⟩⟩)
end
section
variable{σ:St}{t b1 b2:Nat}{T:List Fa}{lim:Int}
theorem Mh(h:TB σ t T lim)(hT:TOk T lim)(h1:σ b1=some (.cells [ptr t]))(h2:σ b2=some (.cells [fnv 117])):AT Tryz.prog 18 [R9 b1 b2] σ fun r σ'=>r= .sl 4 (faC T)∧σ'=σ:=by
 have hm:AT Tryz.prog 18 [R9 b1 b2] σ fun r σ'=>LAt 4 σ' r (faC T)∧Bu σ σ' r:=by
  refine AT.ob Tryz.func18 rfl ?_;have tlen:=hT.len;simp only[go_sem];refine Ax fun d hd hdm=>?_;have hI0:=OnI.start hd;obtain⟨σ2,e2⟩:∃s,s=σ.set d (.cells [A0]):=⟨_,rfl⟩;rw[←e2]at hI0⊢;clear e2 hdm;simp only[go_sem,Aa];refine⟨by kernel_rfl,?_⟩;refine Qj (fun fr=>fr 3=ptr d) rfl fun assign body fr hA hB f3=>?_;intro n l hl hlm;have htl:=hI0.none hl;have hsl:∀y o,σ2 y=some o→(σ2.set l (.loop fr n [9] assign body .ready none)) y=some o:=B6 hl fun _ _ h=>h;refine(Qz (t:=t) (b1:=b1) (b2:=b2) hT (fun i σ'=>OnI σ d (T.take i) σ'∧σ' l=some (.loop fr n [9] assign body .ready none)) ?_ ?_ ?_ ⟨by simpa using hI0.more hsl,Ab⟩).mono ?_
  ·rintro i σ5 ⟨g1,g2⟩
   exact⟨g1.sub h,g1.sub h1,g1.sub h2⟩
  ·rintro i σ5 σ6 ⟨g1,g2⟩ hs
   exact⟨g1.more hs,hs _ _ g2⟩
  ·rintro i σ5 hil ⟨g1,g2⟩
   refine Up hA g2 rfl (by rw[hA,hB];rfl) ?_;have hbg:=fun k fr1 σ1=>Wh (P:=Tryz.prog) (l:=l) (fr:=fr) (fr1:=fr1) (σ1:=σ1) (ps:=[9]) (n:=n) (assign:=assign) (k:=k) hB;simp only[go_sem];refine Ax fun q hq hqm=>?_;obtain⟨σ6,e6⟩:∃s,s=σ5.set q (.cells T[i].cs):=⟨_,rfl⟩;have hs6:∀y o,σ5 y=some o→σ6 y=some o:=by rw[e6];exact B6 hq fun _ _ h=>h
   have hq6:σ6 q=some (.cells T[i].cs):=by rw[e6];exact Ab
   have g1':=g1.more hs6;have g2':=hs6 _ _ g2;simp only[go_sem,Ab,C2,←e6,hbg];clear e6 hqm hq g1 g2;refine⟨g2',?_⟩;have g3:=g1'.loop (σ':=σ6.set l (.loop fr n [9] assign body .busy none)) g2' htl fun y hy=>Ag hy;have g4:(σ6.set l (.loop fr n [9] assign body .busy none)) l=some (.loop fr n [9] assign body .busy none):=Ab;have g5:(σ6.set l (.loop fr n [9] assign body .busy none)) q=some (.cells T[i].cs):=by rw[Ag (fun e=>by rw[e,g2']at hq6;cases hq6)];exact hq6
   revert g3 g4 g5;generalize σ6.set l (.loop fr n [9] assign body .busy none)=σ7;intro g3 g4 g5;obtain⟨hd0,lv,k1,k2,k3⟩:=g3;have hld:l≠d:=fun e=>by rw[e,k1]at g4;cases g4
   have nl:¬Own lv l:=fun ho=>by obtain⟨cap,h⟩:=k2.own_rows ho;rw[g4]at h;cases h
   simp only[go_sem,Aa,f3,k1,g5];refine Ap (ys:=[T[i].cs]) rfl (by decide) (by decide) (by decide) (k2.app (by rw[Ak,List.length_take];simp only[List.length_cons,List.length_nil];omega) fun lv' σ8 hL4 hs4=>?_);obtain⟨g6,g7⟩:=OnI.app hd0 k1 k2 k3 hL4 hs4;have m6:=hs4 _ _ g4 nl;simp only[go_sem,Aa,g7,f3,hL4.one,hL4.cells,Xp];have g6':(σ8.set d (.cells [lv'])) l=some (.loop fr n [9] assign body .busy none):=by rw[Ag hld];exact m6.1
   have ht:T.take i++[T[i]]=T.take (i+1):=by rw[List.take_add_one,List.getElem?_eq_getElem hil];rfl
   rw[ht]at g6;exact⟨⟨_,g6'⟩,g6.loop (σ':=(σ8.set d (.cells [lv'])).set l (.loop fr n [9] assign body .ready none)) g6' htl (fun y hy=>Ag hy)⟩
  ·rintro _ σ5 ⟨g1,g2⟩
   rw[List.take_of_length_le (by omega)]at g1;have hdel:∀y,y≠l→(σ5.del l) y=σ5 y:=fun y hy=>by simp only[St.del];rw[if_neg hy]
   have g3:=g1.loop g2 htl hdel;unfold Nc;rw[g2];refine⟨(by intro h;cases h),?_⟩;unfold R5
   dsimp only
   obtain⟨_,lv,k1,k2,k3⟩:=g3;simp only[go_sem,Aa,f3,k1];exact Ae (r:=lv) rfl ⟨k2,k3⟩
 exact hm.post (by kernel_rfl) fun r σ' ⟨h1,h2⟩=>⟨_,_,Gg h1 h2,rfl,rfl⟩
end
section
variable{σ:St}
set_option maxHeartbeats 1600000 in
theorem evalUndoes_at(hlive:∀σ,AT Tryz.prog 12 [] σ fun r σ'=>r=boo true∧σ'=σ)(me:ByteArray)(names:List ByteArray)(lim:Int)(rs:List Rl)(kl ml:List Fa)(hr1:rs.length≤140737488351232)(hr2:∀r∈rs,r.Wf)(hl:kl.length≤140737488351232)(hf:∀f∈kl,f.Wf)(hm:ml.length≤140737488351232)(hmf:∀f∈ml,f.Wf):
  AT Tryz.prog 6 [.agg (c7C me names lim rs),.sl 4 (faC kl),.sl 4 (faC ml)] σ fun v σ'=>v=boo true:=by
 refine AT.ob Tryz.func6 rfl ?_;have ho:(c7C me names lim rs).all AV.one=true:=rfl;have fl:=Ak kl;have fm:=Ak ml;simp only[go_sem,ho];refine Ctx.nil.alloc fun p σ1 c1=>?_;have hp:=c1.g0;clear c1;simp only[go_sem];refine H0 (fun fr σ'=>∃(A:List Fa) (la:AV),A.length≤40∧(∀f∈A,f∈kl)∧LAt 5 σ' la (acC (Gy A))∧Bu σ1 σ' la∧fr 1= .sl 4 (faC kl)∧fr 2= .sl 4 (faC ml)∧fr 3=ptr p∧fr 7=la∧fr 8=A0) ?_ ?_
 ·simp only[go_sem,Aa]
  refine⟨fun mm fr σ'=>∃(i:Nat) (la:AV),mm=kl.length-i∧i≤kl.length∧i≤40∧LAt 5 σ' la (acC (Gy (kl.take i)))∧Bu σ1 σ' la∧fr 1= .sl 4 (faC kl)∧fr 2= .sl 4 (faC ml)∧fr 3=ptr p∧fr 7=la∧fr 8=A0∧fr 9=int i,⟨_,0,A0,rfl,by omega,by omega,.none,.nil,rfl,rfl,rfl,rfl,rfl,rfl⟩,?_⟩;rintro mm fr σ2 ⟨i,la,rfl,hi,h40,hLa,hGa,f1,f2,f3,f7,f8,f9⟩;by_cases g:i<kl.length∧i<40
  ·have hil:=g.1
   have d1:=decide_eq_true (show(i:Int)<kl.length by omega);have d2:=decide_eq_true (show(i:Int)<40 by omega);simp only[go_sem,Aa,f1,f7,f9,fl,d1,d2,Aq hil];refine⟨by omega,?_⟩;refine Ap (ys:=[Ac.cs ⟨0,kl[i]⟩]) rfl (by decide) (by decide) (by decide) (hLa.app (by rw[Ct,Lv,List.length_take];simp only[List.length_cons,List.length_nil];omega) fun la' σ3 h3 s3=>?_);rw[show acC (Gy (kl.take i))++[Ac.cs ⟨0,kl[i]⟩]=acC (Gy (kl.take (i+1))) by rw[List.take_add_one,List.getElem?_eq_getElem hil];unfold acC Gy;rw[List.map_append,List.map_append];rfl]at h3;simp only[go_sem,Aa,f9,Aw i (by omega)];exact⟨kl.length-(i+1),by omega,i+1,la',rfl,by omega,by omega,h3,hGa.step s3,f1,f2,f3,rfl,f8,rfl⟩
  have fin:∃(A:List Fa) (la':AV),A.length≤40∧(∀f∈A,f∈kl)∧LAt 5 σ2 la' (acC (Gy A))∧Bu σ1 σ2 la'∧fr 2= .sl 4 (faC ml)∧fr 3=ptr p∧fr 7=la'∧fr 8=A0:=
   ⟨_,la,by rw[List.length_take];omega,fun f h=>List.mem_of_mem_take h,hLa,hGa,f2,f3,f7,f8⟩
  by_cases g2:(i:Int)<kl.length
  ·have d1:=decide_eq_true g2
   have d2:=decide_eq_false (show¬(i:Int)<40 by omega);simp only[go_sem,Aa,f1,f9,fl,d1,d2];exact fin
  ·have d1:=decide_eq_false g2
   simp only[go_sem,Aa,f1,f9,fl,d1];exact fin
 rintro fr σ2 ⟨A,la,lA,hA,hLa,hGa,f1,f2,f3,f7,f8⟩;simp only[go_sem,f7,f8];refine Ap (Aeb (by decide) hLa) (by decide) (by decide) (by decide) ?_;refine Ak7 (by rw[Ct,Lv];omega) fun lb σ3 h3 s3=>?_;have hGa3:Bu σ1 σ3 la:=fun y o hy=>⟨(s3 y o (hGa y o hy).1).1,(hGa y o hy).2⟩;have hGb3:Bu σ1 σ3 lb:=fun y o hy=>s3 y o (hGa y o hy).1;have dj3:∀y,Own la y→¬Own lb y:=fun y h1=>by
  obtain⟨c,hc⟩:=hLa.own_rows h1;exact(s3 y _ hc).2
 have hLa3:LAt 5 σ3 la (acC (Gy A)):=hLa.keep fun y o hy _=>(s3 y o hy).1;simp only[go_sem];have hfil:∀(L:List Fa) j,(L.take j).length≤j:=fun L j=>by rw[List.length_take];omega
 refine H0 (fun fr σ'=>∃(lb:AV) (es:List (List AV)),Ow 5 σ' lb es∧K5 es (Gy A++upB ((ml.take 20).filter fun f=>!decide (f∈kl)))∧LAt 5 σ' la (acC (Gy A))∧Bu σ1 σ' la∧Bu σ1 σ' lb∧(∀y,Own la y→¬Own lb y)∧fr 1= .sl 4 (faC kl)∧fr 2= .sl 4 (faC ml)∧fr 3=ptr p∧fr 7=la∧fr 8=lb) ?_ ?_
 ·simp only[go_sem,Aa]
  refine⟨fun mm fr σ'=>∃(i:Nat) (lb:AV) (es:List (List AV)),mm=ml.length-i∧i≤ml.length∧i≤20∧Ow 5 σ' lb es∧K5 es (Gy A++upB ((ml.take i).filter fun f=>!decide (f∈kl)))∧LAt 5 σ' la (acC (Gy A))∧Bu σ1 σ' la∧Bu σ1 σ' lb∧(∀y,Own la y→¬Own lb y)∧fr 1= .sl 4 (faC kl)∧fr 2= .sl 4 (faC ml)∧fr 3=ptr p∧fr 7=la∧fr 8=lb∧fr 10=int i,⟨_,0,lb,_,rfl,by omega,by omega,h3,by simpa[upB]using K5.refl (Gy A),hLa3,hGa3,hGb3,dj3,f1,f2,f3,f7,rfl,rfl⟩,?_⟩;clear h3 hGa3 hGb3 dj3 hLa3 s3 f1 f2 f3 f7 f8 hGa hLa;rintro mm fr σ4 ⟨i,lb,es,rfl,hi,h20,hLb,hRw,hLa,hGa,hGb,hdj,f1,f2,f3,f7,f8,f10⟩;by_cases g:i<ml.length∧i<20
  ·have him:=g.1
   have d1:=decide_eq_true (show(i:Int)<ml.length by omega);have d2:=decide_eq_true (show(i:Int)<20 by omega);have nx:=Aw i (by omega);simp only[go_sem,Aa,f1,f2,f10,fm,d1,d2,Aq him];refine⟨by omega,(Ad8 kl ml[i] hl hf (hmf _ (List.getElem_mem him))).p ?_⟩;by_cases hin:ml[i]∈kl
   ·have e1:(ml.take (i+1)).filter (fun f=>!decide (f∈kl))=(ml.take i).filter fun f=>!decide (f∈kl):=by rw[Ww him,if_neg (by simpa using hin),List.append_nil]
    simp only[go_sem,Aa,decide_eq_true hin,Bool.not_true,f10,nx];exact⟨ml.length-(i+1),by omega,i+1,lb,es,rfl,by omega,by omega,hLb,by rw[e1];exact hRw,hLa,hGa,hGb,hdj,f1,f2,f3,f7,f8,rfl⟩
   ·have e1:(ml.take (i+1)).filter (fun f=>!decide (f∈kl))=(ml.take i).filter (fun f=>!decide (f∈kl))++[ml[i]]:=by rw[Ww him,if_pos (by simpa using hin)]
    have el:es.length≤100:=by
     have:=hRw.1;rw[Ct,List.length_append,Lv,X6]at this;have:=List.length_filter_le (fun f=>!decide (f∈kl)) (ml.take i);have:=hfil ml i;omega
    simp only[go_sem,Aa,decide_eq_false hin,Bool.not_false,f2,f8,f10,fm,Aq him];refine⟨by omega,?_⟩;refine Ap (ys:=[Ac.cs ⟨0,ml[i]⟩,zzC,zzC]) rfl (by decide) (by decide) (by decide) (Ow.of_app hLb.lat (by simp) (by simp only[List.length_cons,List.length_nil];omega) fun lb' σ5 h5 s5 _=>?_);have hRw':K5 (es++[Ac.cs ⟨0,ml[i]⟩,zzC,zzC]) (Gy A++upB ((ml.take (i+1)).filter fun f=>!decide (f∈kl))):=by
     rw[e1,Aol,←List.append_assoc];exact hRw.app (K5.up ml[i])
    simp only[go_sem,Aa,f10,nx]
    exact⟨ml.length-(i+1),by omega,i+1,lb',_,rfl,by omega,by omega,h5,hRw',hLa.keep fun y o hy ho=>(s5 y o hy (hdj y ho)).1,fun y o hy=>⟨(hGb.step s5 y o hy).1,(hGa y o hy).2⟩,hGb.step s5,fun y h1=>by
     obtain⟨c,hc⟩:=hLa.own_rows h1;exact(s5 y _ hc (hdj y h1)).2,f1,f2,f3,f7,rfl,rfl⟩
  have e0:ml.take i=ml.take 20:=by
   by_cases h:i=20
   ·rw[h]
   ·rw[List.take_of_length_le (by omega),List.take_of_length_le (by omega)]
  rw[e0]at hRw;by_cases g2:(i:Int)<ml.length
  ·have d1:=decide_eq_true g2
   have d2:=decide_eq_false (show¬(i:Int)<20 by omega);simp only[go_sem,Aa,f2,f10,fm,d1,d2];exact⟨lb,es,hLb,hRw,hLa,hGa,hGb,hdj,f1,f3,f7,f8⟩
  ·have d1:=decide_eq_false g2
   simp only[go_sem,Aa,f2,f10,fm,d1];exact⟨lb,es,hLb,hRw,hLa,hGa,hGb,hdj,f1,f3,f7,f8⟩
 clear h3 hGa3 hGb3 dj3 hLa3 s3 f1 f2 f3 f7 f8 hGa hLa;rintro fr σ3 ⟨lb,es,hLb,hRw,hLa,hGa,hGb,hdj,f1,f2,f3,f7,f8⟩;simp only[go_sem];obtain⟨U,eU⟩:∃U,U=Gy A++upB ((ml.take 20).filter fun f=>!decide (f∈kl)):=⟨_,rfl⟩;have lU:U.length≤100:=by
  rw[eU,List.length_append,Lv,X6];have:=List.length_filter_le (fun f=>!decide (f∈kl)) (ml.take 20);have:=hfil ml 20;omega
 rw[←eU]at hRw;refine H0 (fun fr σ'=>∃(lb:AV) (es:List (List AV)),Ow 5 σ' lb es∧K5 es (U++dnB ((ml.take 20).filter fun f=>!decide (f∈kl)))∧LAt 5 σ' la (acC (Gy A))∧Bu σ1 σ' la∧Bu σ1 σ' lb∧(∀y,Own la y→¬Own lb y)∧fr 3=ptr p∧fr 7=la∧fr 8=lb) ?_ ?_
 ·simp only[go_sem,Aa]
  refine⟨fun mm fr σ'=>∃(i:Nat) (lb:AV) (es:List (List AV)),mm=ml.length-i∧i≤ml.length∧i≤20∧Ow 5 σ' lb es∧K5 es (U++dnB ((ml.take i).filter fun f=>!decide (f∈kl)))∧LAt 5 σ' la (acC (Gy A))∧Bu σ1 σ' la∧Bu σ1 σ' lb∧(∀y,Own la y→¬Own lb y)∧fr 1= .sl 4 (faC kl)∧fr 2= .sl 4 (faC ml)∧fr 3=ptr p∧fr 7=la∧fr 8=lb∧fr 11=int i,⟨_,0,lb,es,rfl,by omega,by omega,hLb,by simpa[dnB]using hRw,hLa,hGa,hGb,hdj,f1,f2,f3,f7,f8,rfl⟩,?_⟩;clear hLb hRw hLa hGa hGb hdj f1 f2 f3 f7 f8;rintro mm fr σ4 ⟨i,lb,es,rfl,hi,h20,hLb,hRw,hLa,hGa,hGb,hdj,f1,f2,f3,f7,f8,f11⟩;by_cases g:i<ml.length∧i<20
  ·have him:=g.1
   have d1:=decide_eq_true (show(i:Int)<ml.length by omega);have d2:=decide_eq_true (show(i:Int)<20 by omega);have nx:=Aw i (by omega);simp only[go_sem,Aa,f1,f2,f11,fm,d1,d2,Aq him];refine⟨by omega,(Ad8 kl ml[i] hl hf (hmf _ (List.getElem_mem him))).p ?_⟩;by_cases hin:ml[i]∈kl
   ·have e1:(ml.take (i+1)).filter (fun f=>!decide (f∈kl))=(ml.take i).filter fun f=>!decide (f∈kl):=by rw[Ww him,if_neg (by simpa using hin),List.append_nil]
    simp only[go_sem,Aa,decide_eq_true hin,Bool.not_true,f11,nx];exact⟨ml.length-(i+1),by omega,i+1,lb,es,rfl,by omega,by omega,hLb,by rw[e1];exact hRw,hLa,hGa,hGb,hdj,f1,f2,f3,f7,f8,rfl⟩
   ·have e1:(ml.take (i+1)).filter (fun f=>!decide (f∈kl))=(ml.take i).filter (fun f=>!decide (f∈kl))++[ml[i]]:=by rw[Ww him,if_pos (by simpa using hin)]
    have el:es.length≤200:=by
     have:=hRw.1;rw[Ct,List.length_append,Adr]at this;have:=List.length_filter_le (fun f=>!decide (f∈kl)) (ml.take i);have:=hfil ml i;omega
    simp only[go_sem,Aa,decide_eq_false hin,Bool.not_false,f2,f8,f11,fm,Aq him];refine⟨by omega,?_⟩;refine Ap (ys:=[Ac.cs ⟨1,ml[i]⟩]) rfl (by decide) (by decide) (by decide) (Ow.of_app hLb.lat (by simp) (by simp only[List.length_cons,List.length_nil];omega) fun lb' σ5 h5 s5 _=>?_);have hRw':K5 (es++[Ac.cs ⟨1,ml[i]⟩]) (U++dnB ((ml.take (i+1)).filter fun f=>!decide (f∈kl))):=by
     rw[e1,Alp,←List.append_assoc];exact hRw.app (K5.refl [⟨1,ml[i]⟩])
    simp only[go_sem,Aa,f11,nx]
    exact⟨ml.length-(i+1),by omega,i+1,lb',_,rfl,by omega,by omega,h5,hRw',hLa.keep fun y o hy ho=>(s5 y o hy (hdj y ho)).1,fun y o hy=>⟨(hGb.step s5 y o hy).1,(hGa y o hy).2⟩,hGb.step s5,fun y h1=>by
     obtain⟨c,hc⟩:=hLa.own_rows h1;exact(s5 y _ hc (hdj y h1)).2,f1,f2,f3,f7,rfl,rfl⟩
  have e0:ml.take i=ml.take 20:=by
   by_cases h:i=20
   ·rw[h]
   ·rw[List.take_of_length_le (by omega),List.take_of_length_le (by omega)]
  rw[e0]at hRw;by_cases g2:(i:Int)<ml.length
  ·have d1:=decide_eq_true g2
   have d2:=decide_eq_false (show¬(i:Int)<20 by omega);simp only[go_sem,Aa,f2,f11,fm,d1,d2];exact⟨lb,es,hLb,hRw,hLa,hGa,hGb,hdj,f3,f7,f8⟩
  ·have d1:=decide_eq_false g2
   simp only[go_sem,Aa,f2,f11,fm,d1];exact⟨lb,es,hLb,hRw,hLa,hGa,hGb,hdj,f3,f7,f8⟩
 clear hLb hRw hLa hGa hGb hdj f1 f2 f3 f7 f8;rintro fr σ4 ⟨lb,es,hLb,hRw,hLa,hGa,hGb,hdj,f3,f7,f8⟩;have no:∀{fr:Fr} {σ':St},A7 Tryz.prog fr σ' (Tryz.f6).results.toList=some (boo true)→Dt Tryz.prog (fun v σ'=>v=boo true) (Tryz.f6).results.toList fr σ':=fun hr=>Ae hr rfl;have hp2:=(hGa _ _ hp).1;obtain⟨ms,ems⟩:∃ms,ms=(ml.take 20).filter fun f=>!decide (f∈kl):=⟨_,rfl⟩;rw[←ems]at hRw eU;have lm:ms.length≤20:=by
  rw[ems];exact Nat.le_trans (List.length_filter_le _ _) (hfil ml 20)
 have hms:∀{f},f∈ms→f∈ml∧f∉kl:=fun h=>by
  rw[ems,List.mem_filter]at h;exact⟨List.mem_of_mem_take h.1,by simpa using h.2⟩
 obtain⟨B,eB⟩:∃B,B=U++dnB ms:=⟨_,rfl⟩;rw[←eB]at hRw;have hBl:B.length≤200:=by rw[eB,List.length_append,Adr];omega
 have hBw:∀a∈B,a.f.Wf:=fun a ha=>by
  rw[eB,eU]at ha;rcases List.mem_append.1 ha with ha|ha
  ·rcases List.mem_append.1 ha with ha|ha
   ·obtain⟨f,h,rfl⟩:=Ls.1 ha
    exact hf f (hA f h)
   ·rcases Xd ha with⟨f,h,rfl⟩|rfl
    ·exact hmf f (hms h).1
    ·exact⟨by decide,by decide,by decide,by decide,fun c hc=>by cases hc⟩
  ·obtain⟨f,h,rfl⟩:=Ano.1 ha
   exact hmf f (hms h).1
 simp only[go_sem,f3,f7,hp2];obtain⟨τ,sv,hLb',st⟩:=hLb.weak hRw.1 fun σ'=>hRw.2 σ4 σ';have hLa':LAt 5 τ la (acC (Gy A)):=hLa.keep fun y o hy ho=>st y o hy (hdj y ho);have hp3:=st _ _ hp2 (hGb _ _ hp).2;have ra:Rd 5 τ la (acC (Gy A)):=.of hLa';have rb:Rd 5 τ lb (acC B):=.of hLb'.lat;refine(AT.pre (U9 me names lim rs (Gy A) ⟨hr1,hr2,by rw[Lv];omega,fun a ha=>by obtain⟨f,h,rfl⟩:=Ls.1 ha;exact hf f (hA f h)⟩ ra) (by kernel_rfl) sv (By _)).mono ?_;rintro _ σ3 ⟨⟨b1,rfl,hb1⟩,rfl⟩;cases b1 with
 |false=>
  simp only[go_sem,Aa,Bool.not_false];refine(hlive _).p ?_;simp only[go_sem,Aa];exact no rfl
 |true=>
 have hSa:=hb1 rfl;have rl80:=hSa.rl;have nm8:=hSa.nm;simp only[go_sem,Aa,Bool.not_true,f3,f8,hp3];refine(U9 me names lim rs B ⟨hr1,hr2,by omega,hBw⟩ rb).mono ?_;rintro _ σ3 ⟨⟨b1,rfl,hb2⟩,rfl⟩;cases b1 with
 |false=>
  simp only[go_sem,Aa,Bool.not_false];refine(hlive _).p ?_;simp only[go_sem,Aa];exact no rfl
 |true=>
 have hSb:=hb2 rfl;simp only[go_sem,Aa,Bool.not_true,f3,hp3];refine(Ags me names lim rs (by omega) (by omega) hSa.rs).mono ?_;rintro _ σ3 ⟨⟨b1,rfl,hb3⟩,rfl⟩;cases b1 with
 |false=>
  simp only[go_sem,Aa,Bool.not_false];refine(hlive _).p ?_;simp only[go_sem,Aa];exact no rfl
 |true=>
 simp only[go_sem,Aa,Bool.not_true,f3,f7,hp3];refine(Acb me names lim rs (Gy A) hSa ra).mono ?_;have two:∀{σ4:St},(∀z o,σ3 z=some o→σ4 z=some o)→σ4 p=some (.cells (c7C me names lim rs))∧Rd 5 σ4 lb (acC (B)):=fun h=>⟨h _ _ hp3,rb.keep h⟩;rintro _ σ4 (⟨rfl,hs4⟩|⟨x,a,y,b,rfl,Fa,Ba,F4⟩)
 ·obtain⟨hp4,rb4⟩:=two hs4
  simp only[go_sem,Aa,f3,f8,hp4];refine(Acb me names lim rs (B) hSb rb4).mono ?_;rintro _ σ5 (⟨rfl,hs5⟩|⟨x,a,y,b,rfl,Fb,Bb,F5⟩)
  ·simp only[go_sem,Aa,Bool.not_false]
   refine(hlive _).p ?_;simp only[go_sem,Aa];exact no rfl
  ·simp only[go_sem,Aa,Bool.not_false]
   refine(hlive _).p ?_;simp only[go_sem,Aa];exact no rfl
 obtain⟨hp4,rb4⟩:=two fun z o hz=>(F4 z o hz).1;simp only[go_sem,Aa,f3,f8,hp4];refine(Acb me names lim rs (B) hSb rb4).mono ?_;rintro _ σ5 (⟨rfl,hs5⟩|⟨x',a',y',b',rfl,Fb,Bb,F5⟩)
 ·simp only[go_sem,Aa,Bool.not_true,Bool.not_false]
  refine(hlive _).p ?_;simp only[go_sem,Aa];exact no rfl
 obtain⟨s,hs⟩:∃s,s=Tb me names rs (Gy A):=⟨_,rfl⟩;obtain⟨t,ht⟩:∃s,s=Tb me names rs (B):=⟨_,rfl⟩;rw[←hs]at Fa Ba;rw[←ht]at Fb Bb;have Ex:=Ba.ex.more fun z o hz=>(F5 z o hz).1;have Ex':=Bb.ex;rw[eB,eU]at Fb;obtain⟨eT,eE,eG⟩:=Ag6 (fun f h h2=>(hms h2).2 (hA f h)) Fa Fb;have gl:=Fa.gl;have tok:=Fa.ok.tok;have tok':=Fb.ok.tok;have tl:=tok.len;have htx:TB σ5 a.t s.T s.lim:=Ex.ct;have htx':TB σ5 a'.t t.T t.lim:=Ex'.ct;simp only[go_sem,Aa,Bool.not_true];refine(Mf Ex).mono ?_;rintro _ σ6 ⟨b1,b2,rfl,c4⟩;have Ex6:=Ex.more c4.sub;have Ex6':=Ex'.more c4.sub;obtain⟨⟨k1,k2⟩,_⟩:=c4.g1;have htx6:TB σ6 a.t s.T s.lim:=c4.sub _ _ htx;have htx6':TB σ6 a'.t t.T t.lim:=c4.sub _ _ htx';simp only[go_sem,Aa];refine(Mh htx6 tok k2 k1).p ?_;simp only[go_sem,Aa];refine(Mf Ex6').mono ?_;rintro _ σ7 ⟨b3,b4,rfl,c5⟩;have Ex7:=Ex6.more c5.sub;have Ex7':=Ex6'.more c5.sub;obtain⟨⟨j1,j2⟩,_⟩:=c5.g1;have htx7':TB σ7 a'.t t.T t.lim:=c5.sub _ _ htx6';simp only[go_sem,Aa];refine(Mh htx7' tok' j2 j1).p ?_;simp only[go_sem,Aa];rw[←eT];refine(To (a:=s.T) (b:=s.T) .sl .sl (by omega) tok.sm (by omega) tok.sm).p ?_;simp only[go_sem,Aa,decide_true];refine(Q6 Ex7 Fa.ok (by omega)).p ?_;simp only[go_sem,Aa];refine(Q6 Ex7' Fb.ok (by omega)).p ?_;simp only[go_sem,Aa];rw[←eE];obtain⟨xl,xs⟩:=Abk Fa.ok;refine(To (a:=H1 s) (b:=H1 s) .sl .sl (by omega) xs (by omega) xs).p ?_;simp only[go_sem,Aa,decide_true];refine(U8 Ex7 Fa.ok).p ?_;simp only[go_sem,Aa];refine(U8 Ex7' Fb.ok).p ?_;simp only[go_sem,Aa];rw[←eG];have gs:∀f∈Bc Ao [] s.given,f.Sm:=fun f h=>((A1 Ah).1 h).elim (Fa.ok.gs f) fun h=>by cases h
 have gn:(Bc Ao [] s.given).length≤1000000000000:=by
  have:=Bs (c:=Ao) (l:=s.given) (s:=[]);simp only[List.length_nil]at this;omega
 refine(To (a:=Bc Ao [] s.given) (b:=Bc Ao [] s.given) .sl .sl gn gs gn gs).p ?_;simp only[go_sem,Aa,decide_true];refine(hlive _).p ?_;simp only[go_sem,Aa];exact no rfl
end
def txA:ByteArray:=⟨#[97]⟩
def tmX:Tm:=⟨⟨#[88]⟩,false,0,emp⟩
def rlA:Rl:=⟨⟨⟨#[65]⟩,false,0,emp⟩,⟨#[112]⟩,[tmX],.zero,[⟨.zero,⟨#[113]⟩,[tmX],.zero⟩]⟩
def faA:Fa:=⟨txA,txA,⟨#[113]⟩,[⟨true,1,emp⟩]⟩
def fpA:Fa:=⟨txA,txA,⟨#[112]⟩,[⟨true,1,emp⟩]⟩
def liv(T:List Fa)(B:List De)(g q:List Fa):ES:=⟨txA,[txA],[rlA],T,9,B,g,q,[],false⟩
def deA:De:=⟨0,fpA,[faA]⟩
theorem Api:Ed txA [txA] 9 [rlA]=liv [] [] [] []:=by kernel_rfl
theorem Ajd:D1 (liv [] [] [] []) faA=(0,liv [] [] [faA] [faA]):=by kernel_rfl
theorem Aje:Bt (liv [] [] [faA] [faA])=(true,liv [faA] [deA] [faA] [fpA]):=by kernel_rfl
theorem Ajf:Bt (liv [faA] [deA] [faA] [fpA])=(true,liv [fpA,faA] [deA] [faA] []):=by kernel_rfl
theorem Apj:Gc (liv [fpA,faA] [deA] [faA] []) faA=(0,liv [] [] [] []):=by kernel_rfl
theorem Aed:Ia (liv [] [] [faA] [faA]):=fun _ f q hq _ _ i hi j hj=>by
 injection hq with e1 e2;subst e1;obtain rfl:i=0:=by have:i<1:=hi;omega
 obtain rfl:j=0:=by have:j<1:=hj;omega
 exact Nat.le_of_ble_eq_true (by kernel_rfl)
theorem Aee:Ia (liv [faA] [deA] [faA] [fpA]):=fun _ f q hq _ _ i hi j hj=>by
 injection hq with e1 e2;subst e1;obtain rfl:i=0:=by have:i<1:=hi;omega
 obtain rfl:j=0:=by have:j<1:=hj;omega
 exact Nat.le_of_ble_eq_true (by kernel_rfl)
theorem Akb:∀r∈[rlA],r.S4:=fun r hr=>by
 rw[List.mem_singleton.1 hr];exact⟨⟨by decide,fun l hl=>by rw[List.mem_singleton.1 hl];decide⟩,by decide⟩
theorem Abu:SOk 2 (liv [] [] [] []):=by
 rw[←Api];exact Ya (n:=0) (Nr (by omega) (by omega) Akb (by decide) (by decide)) 1
theorem Ajg:SOk 3 (liv [] [] [faA] [faA]):=by
 have:=(W7 (f:=faA) (g:=0) Abu (Nat.le_refl _) (by decide)).1;rw[Ajd]at this;exact this
theorem Ajh:SOk 60005 (liv [faA] [deA] [faA] [fpA]):=by
 have:=T8 Ajg Aed;rw[Aje]at this;exact this
theorem Aji:SOk 120007 (liv [fpA,faA] [deA] [faA] []):=by
 have:=T8 Ajh Aee;rw[Ajf]at this;exact this
theorem Aqs:SOk 120007 (liv [] [] [] []):=Abu.le (by decide)
section
variable{σ:St}
theorem elive_at(hp:∀σ,AT Tryz.prog 42 [str ⟨#[65,58,32,112,40,88,41,32,58,45,32,113,40,88,41,46]⟩] σ fun r σ'=>r= .tup [.sl 11 (rlC [rlA]),int 0,int 0]∧σ'=σ):AT Tryz.prog 12 [] σ fun r σ'=>r=boo true∧σ'=σ:=by
 refine AT.ob Tryz.func12 rfl ?_;simp only[go_sem];refine(hp σ).p ?_;simp only[go_sem];have hnew:=Ad1 (σ:=σ) txA [txA] 9 [rlA] (by decide) (by decide) Akb;refine(AT.weak hnew (show VWs σ σ [str txA,.fsl 1 [[str txA]],int 9,.sl 11 (rlC [rlA])] [str txA,.sl 1 (stC [txA]),int 9,.sl 11 (rlC [rlA])]from vws_same Oq)).mono ?_;rintro _ σ1 (⟨rfl,hbad,hs3⟩|⟨_,_,_,_,x,a,rfl,E1,F1⟩)
 ·rcases hbad with h|h|h
  ·exact absurd (List.mem_singleton.2 rfl) h
  ·obtain⟨r,hr,y,hy,hne⟩:=h
   rw[List.mem_singleton.1 hr]at hy;rw[List.mem_singleton.1 hy]at hne;exact absurd rfl hne
  ·exact absurd ⟨by omega,by omega⟩ h
 rw[Api]at E1;simp only[go_sem];clear hnew;refine Ax fun q hq _=>?_;have nq:¬Bo x a q:=fun hf=>by obtain⟨o,ho⟩:=Ik E1 hf;rw[hq]at ho;cases ho
 have sq:σ q=none:=Cy (fun y o hy=>(F1 y o hy).1) hq;simp only[go_sem,Ab,C2];have hvw:∀{τ τ':St},VWs τ τ' [str txA,str txA,str ⟨#[113]⟩,.fsl 3 [[boo true,int 1,str emp]]] faA.cs:=fun{τ τ'}=>
  vws_same (vws_same (vws_same (vws_cons (LAt.full.vw_same fun z hz=>absurd hz A2) B7)))
 have sv:SV (σ1.set q (.cells [str txA,str txA,str ⟨#[113]⟩,.fsl 3 [[boo true,int 1,str emp]]])) (σ1.set q (.cells faA.cs)):=Kx (o:=.cells [str txA,str txA,str ⟨#[113]⟩,.fsl 3 [[boo true,int 1,str emp]]]) Ab hvw fun y o hy ho=>by rw[Ag hy];exact ho
 have E2:EV false (σ1.set q (.cells faA.cs)) x a (liv [] [] [] []) false:=E1.more (B6 hq fun _ _ h=>h);have hq2:(σ1.set q (.cells faA.cs)) q=some (.cells faA.cs):=Ab;have F2:∀y o,σ y=some o→(σ1.set q (.cells faA.cs)) y=some o:=fun y o hy=>by rw[Ag fun e=>by rw[e,sq]at hy;cases hy];exact(F1 y o hy).1
 have hsm:faA.Sm:=by show([⟨true,1,emp⟩]:List Cn).length≤_;simp
 refine(AT.pre (S5 E2 Abu (by decide) faA) (by kernel_rfl) sv (vws_same (vws_cons (.agg [str txA,str txA,str ⟨#[113]⟩,.fsl 3 [[boo true,int 1,str emp]]] faA.cs rfl hvw.2) B7))).mono ?_;generalize σ1.set q (.cells faA.cs)=σ2 at hq2 F2;rintro _ σ3 ⟨rfl,a3,E3,G3⟩;have q3:=G3 _ _ hq2 nq;have F3:∀y o,σ y=some o→σ3 y=some o∧¬Bo x a3 y:=fun y o hy=>G3 _ _ (F2 y o hy) (F1 y o hy).2;rw[Ajd]at E3;simp only[go_sem,Ajd];refine(Oj E3 Ajg (by decide) Aed).mono ?_;rintro _ σ4 ⟨rfl,a4,E4,G4⟩;have q4:=G4 _ _ q3.1 q3.2;have F4:∀y o,σ y=some o→σ4 y=some o∧¬Bo x a4 y:=fun y o hy=>G4 _ _ (F3 y o hy).1 (F3 y o hy).2;rw[Aje]at E4;simp only[go_sem,Aje,Bool.not_true];refine(Zi E4).p ?_;have e1:(((liv [faA] [deA] [faA] [fpA]).queue.length:Nat):Int)=1:=rfl;simp only[go_sem,e1];refine(Oj E4 Ajh (by decide) Aee).mono ?_;rintro _ σ5 ⟨rfl,a5,E5,G5⟩;have q5:=G5 _ _ q4.1 q4.2;have F5:∀y o,σ y=some o→σ5 y=some o∧¬Bo x a5 y:=fun y o hy=>G5 _ _ (F4 y o hy).1 (F4 y o hy).2;rw[Ajf]at E5;simp only[go_sem,Ajf,Bool.not_true];refine(Mf E5).mono ?_;rintro _ σ6 ⟨b1,b2,rfl,c6⟩;obtain⟨⟨k2,k1⟩,_⟩:=c6.g1;have E6:=E5.more c6.sub;have q6:=c6.sub _ _ q5.1;have F6:∀y o,σ y=some o→σ6 y=some o∧¬Bo x a5 y:=fun y o hy=>⟨c6.sub _ _ (F5 y o hy).1,(F5 y o hy).2⟩;clear c6;simp only[go_sem];refine(Mh (E6.ct) Aji.tok k1 k2).p ?_;have e2:decide ((((liv [fpA,faA] [deA] [faA] []).T.length:Nat):Int)=2)=true:=rfl;simp only[go_sem,e2,q6];refine(S2 E6 Aji (by decide) faA hsm).mono ?_;rintro _ σ7 ⟨rfl,a7,E7,G7⟩;have F7:∀y o,σ y=some o→σ7 y=some o:=fun y o hy=>(G7 _ _ (F6 y o hy).1 (F6 y o hy).2).1;rw[Apj]at E7;simp only[go_sem,Apj];refine(Mf E7).mono ?_;rintro _ σ8 ⟨b3,b4,rfl,c8⟩;obtain⟨⟨k4,k3⟩,_⟩:=c8.g1;have E8:=E7.more c8.sub;have F8:∀y o,σ y=some o→σ8 y=some o:=fun y o hy=>c8.sub _ _ (F7 y o hy);simp only[go_sem];refine(Mh (E8.ct) Aqs.tok k3 k4).p ?_;have e3:decide ((((liv [] [] [] []).T.length:Nat):Int)=0)=true:=rfl;simp only[go_sem,e3];exact Ad (r:=boo true) rfl _ σ (Am F8) ⟨rfl,rfl⟩
end
theorem Ar5{n:Nat}{cs:List AV}(h:Ty Tryz.prog (n+3) 86 cs):∃c:Cn,cs=c.cs∧c.Wf:=by
 have hx:=Ue Tryz.underlying86 h;obtain⟨x1,y1,rfl,h1,x2,y2,rfl,h2,x3,y3,rfl,h3,rfl⟩:=hx;obtain⟨b,rfl⟩:=Afd Tryz.underlying4 h1;obtain⟨k,rfl,_⟩:=Ac1 Tryz.underlying3 h2;obtain⟨s,rfl,hs⟩:=Jj Tryz.underlying9 h3;exact⟨⟨b,k,s⟩,rfl,hs⟩
theorem Ahp{n:Nat}:∀(es:List (List AV)),(∀x∈es,Ty Tryz.prog (n+3) 86 x)→∃l:List Cn,es=cnC l∧∀c∈l,c.Wf
 | [],_=>⟨[],rfl,fun x hx=>by cases hx⟩
 |x::es,h=>by
  obtain⟨l,rfl,hl⟩:=Ahp es fun y hy=>h y (by simp[hy]);obtain⟨t,rfl,ht⟩:=Ar5 (h x (by simp));exact⟨t::l,rfl,fun y hy=>by rcases List.mem_cons.1 hy with rfl|hy;exact ht;exact hl y hy⟩
theorem Asb{n:Nat}{cs:List AV}(h:Ty Tryz.prog (n+5) 30 cs):∃f:Fa,cs=f.cs∧f.Wf:=by
 have hx:=Ue Tryz.underlying30 h;obtain⟨x1,y1,rfl,h1,x2,y2,rfl,h2,x3,y3,rfl,h3,x4,y4,rfl,h4,rfl⟩:=hx;obtain⟨a,rfl,ha⟩:=Jj Tryz.underlying9 h1;obtain⟨b,rfl,hb⟩:=Jj Tryz.underlying9 h2;obtain⟨p,rfl,hp⟩:=Jj Tryz.underlying9 h3;obtain⟨es,rfl,hl,he⟩:=Ud Tryz.underlying28 h4;obtain⟨ts,rfl,hts⟩:=Ahp es he;have e1:Tryz.prog.cellsOf 86=3:=by kernel_rfl
 have e2:Tryz.prog.bytesOf 86=32:=by kernel_rfl
 rw[e1];rw[e2,Gb]at hl;exact⟨⟨a,b,p,ts⟩,rfl,by show ts.length≤_;omega,ha,hb,hp,hts⟩
theorem Aim{n:Nat}:∀(es:List (List AV)),(∀x∈es,Ty Tryz.prog (n+5) 30 x)→∃l:List Fa,es=faC l∧∀x∈l,x.Wf
 | [],_=>⟨[],rfl,fun x hx=>by cases hx⟩
 |x::es,h=>by
  obtain⟨l,rfl,hl⟩:=Aim es fun y hy=>h y (by simp[hy]);obtain⟨t,rfl,ht⟩:=Asb (h x (by simp));exact⟨t::l,rfl,fun y hy=>by rcases List.mem_cons.1 hy with rfl|hy;exact ht;exact hl y hy⟩
theorem Aqg{n:Nat}{cs:List AV}(h:Ty Tryz.prog (n+6) 26 cs):∃l:List Fa,cs=[.sl 4 (faC l)]∧l.length*72≤140737488351232∧∀x∈l,x.Wf:=by
 obtain⟨es,rfl,hl,he⟩:=Ud Tryz.underlying26 h;obtain⟨ts,rfl,hts⟩:=Aim es he;have e1:Tryz.prog.cellsOf 30=4:=by kernel_rfl
 have e2:Tryz.prog.bytesOf 30=72:=by kernel_rfl
 rw[e1];rw[e2,Ak]at hl;exact⟨ts,rfl,by omega,hts⟩
theorem Aey{n:Nat}:∀(es:List (List AV)),(∀x∈es,Ty Tryz.prog (n+7) 92 x)→∃l:List Rl,es=rlC l∧∀x∈l,x.Wf
 | [],_=>⟨[],rfl,fun x hx=>by cases hx⟩
 |x::es,h=>by
  obtain⟨l,rfl,hl⟩:=Aey es fun y hy=>h y (by simp[hy]);obtain⟨t,rfl,ht⟩:=Asv (h x (by simp));exact⟨t::l,rfl,fun y hy=>by rcases List.mem_cons.1 hy with rfl|hy;exact ht;exact hl y hy⟩
theorem An0{n:Nat}{cs:List AV}(h:Ty Tryz.prog (n+8) 23 cs):∃l:List Rl,cs=[.sl 11 (rlC l)]∧l.length≤140737488351232∧∀x∈l,x.Wf:=by
 obtain⟨es,rfl,hl,he⟩:=Ud Tryz.underlying23 h;obtain⟨ts,rfl,hts⟩:=Aey es he;have e1:Tryz.prog.cellsOf 92=11:=by kernel_rfl
 have e2:1≤Tryz.prog.bytesOf 92:=Nat.le_of_ble_eq_true (by kernel_rfl);rw[e1];rw[Ch]at hl;exact⟨ts,rfl,Nat.le_trans (Nat.le_mul_of_pos_right _ e2) hl,hts⟩
theorem Ae8{n:Nat}:∀(es:List (List AV)),(∀x∈es,Ty Tryz.prog (n+1) 9 x)→∃l:List ByteArray,es=stC l
 | [],_=>⟨[],rfl⟩
 |x::es,h=>by
  obtain⟨l,rfl⟩:=Ae8 es fun y hy=>h y (by simp[hy]);obtain⟨t,rfl,_⟩:=Jj Tryz.underlying9 (h x (by simp));exact⟨t::l,rfl⟩
theorem An8{n:Nat}{cs:List AV}(h:Ty Tryz.prog (n+2) 22 cs):∃l:List ByteArray,cs=[.sl 1 (stC l)]:=by
 obtain⟨es,rfl,_,he⟩:=Ud Tryz.underlying22 h;obtain⟨ts,rfl⟩:=Ae8 es he;have e1:Tryz.prog.cellsOf 9=1:=by kernel_rfl
 rw[e1];exact⟨ts,rfl⟩
theorem Ar0{n:Nat}{cs:List AV}(h:Ty Tryz.prog (n+9) 25 cs):∃(me:ByteArray) (names:List ByteArray) (lim:Int) (rs:List Rl),cs=c7C me names lim rs∧rs.length≤140737488351232∧∀r∈rs,r.Wf:=by
 have hx:=Ue Tryz.underlying25 h;obtain⟨x1,y1,rfl,h1,x2,y2,rfl,h2,x3,y3,rfl,h3,x4,y4,rfl,h4,rfl⟩:=hx;obtain⟨me,rfl,_⟩:=Jj Tryz.underlying9 h1;obtain⟨names,rfl⟩:=An8 h2;obtain⟨lim,rfl,_⟩:=Ac1 Tryz.underlying3 h3;obtain⟨rs,rfl,h5,h6⟩:=An0 h4;exact⟨me,names,lim,rs,rfl,h5,h6⟩
theorem c7a_of{a:AV}(ha:TyA Tryz.prog 9 25 a):∃(me:ByteArray) (names:List ByteArray) (lim:Int) (rs:List Rl),a= .agg (c7C me names lim rs)∧rs.length≤140737488351232∧∀r∈rs,r.Wf:=by
 obtain⟨cs,rfl,hx⟩:∃cs,a= .agg cs∧Ty Tryz.prog 9 25 cs:=by
  unfold TyA at ha;rw[Tryz.underlying25]at ha;exact ha
 obtain⟨me,names,lim,rs,rfl,h⟩:=Ar0 (n:=0) hx;exact⟨me,names,lim,rs,rfl,h⟩
theorem fal9_of{b:AV}(hb:TyA Tryz.prog 9 26 b):∃l:List Fa,b= .sl 4 (faC l)∧l.length≤140737488351232∧∀x∈l,x.Wf:=by
 have hb':Ty Tryz.prog 9 26 [b]:=by
  unfold TyA at hb;rw[Tryz.underlying26]at hb;exact hb
 obtain⟨l,e,h1,h2⟩:=Aqg (n:=3) hb';obtain rfl:b= .sl 4 (faC l):=by simpa using e
 exact⟨l,rfl,by omega,h2⟩
def te3:TE:=⟨⟨false,1,[.int .i64 0],.int .i64⟩,false,false,false,false,false,true,none⟩
theorem Asz:Gl Tryz.prog 3 te3:=⟨by kernel_rfl,by kernel_rfl,by kernel_rfl,by kernel_rfl,by kernel_rfl,by kernel_rfl,by kernel_rfl,fun ls h=>by cases h⟩
def te5:TE:=⟨⟨false,1,[.int .u8 0],.int .u8⟩,false,false,false,false,false,true,none⟩
theorem As0:Gl Tryz.prog 5 te5:=⟨by kernel_rfl,by kernel_rfl,by kernel_rfl,by kernel_rfl,by kernel_rfl,by kernel_rfl,by kernel_rfl,fun ls h=>by cases h⟩
def te9:TE:=⟨⟨false,1,[.string ⟨#[]⟩],.str⟩,false,false,false,false,false,true,none⟩
theorem As1:Gl Tryz.prog 9 te9:=⟨by kernel_rfl,by kernel_rfl,by kernel_rfl,by kernel_rfl,by kernel_rfl,by kernel_rfl,by kernel_rfl,fun ls h=>by cases h⟩
def te20:TE:=⟨⟨false,1,[.nilIface],.iface⟩,false,false,false,false,false,false,none⟩
theorem Aq6:Gl Tryz.prog 20 te20:=⟨by kernel_rfl,by kernel_rfl,by kernel_rfl,by kernel_rfl,by kernel_rfl,by kernel_rfl,by kernel_rfl,fun ls h=>by cases h⟩
def te23:TE:=⟨⟨false,1,[.slice none 0 0],.sl 11 160 [.string ⟨#[]⟩,.bool false,.int .i64 0,.string ⟨#[]⟩,.string ⟨#[]⟩,.slice none 0 0,.string ⟨#[]⟩,.bool false,.int .i64 0,.string ⟨#[]⟩,.slice none 0 0] false⟩,true,false,false,false,false,true,none⟩
theorem Aq7:Gl Tryz.prog 23 te23:=⟨by kernel_rfl,by kernel_rfl,by kernel_rfl,by kernel_rfl,by kernel_rfl,by kernel_rfl,by kernel_rfl,fun ls h=>by cases h⟩
def te47:TE:=⟨⟨false,1,[.int .i64 0],.int .i64⟩,false,false,false,false,false,true,none⟩
theorem Aq8:Gl Tryz.prog 47 te47:=⟨by kernel_rfl,by kernel_rfl,by kernel_rfl,by kernel_rfl,by kernel_rfl,by kernel_rfl,by kernel_rfl,fun ls h=>by cases h⟩
def te86:TE:=⟨⟨true,3,[.bool false,.int .i64 0,.string ⟨#[]⟩],.st [(0,1,false),(1,1,false),(2,1,false)]⟩,false,false,false,false,false,true,(some [.b,.i .i64,.s])⟩
theorem Aq9:Gl Tryz.prog 86 te86:=⟨by kernel_rfl,by kernel_rfl,by kernel_rfl,by kernel_rfl,by kernel_rfl,by kernel_rfl,by kernel_rfl,fun ls h=>by cases h;exact⟨by kernel_rfl,by kernel_rfl,by kernel_rfl⟩⟩
def te88:TE:=⟨⟨true,4,[.string ⟨#[]⟩,.bool false,.int .i64 0,.string ⟨#[]⟩],.st [(0,1,false),(1,3,true)]⟩,false,false,false,false,false,true,(some [.s,.b,.i .i64,.s])⟩
theorem Ara:Gl Tryz.prog 88 te88:=⟨by kernel_rfl,by kernel_rfl,by kernel_rfl,by kernel_rfl,by kernel_rfl,by kernel_rfl,by kernel_rfl,fun ls h=>by cases h;exact⟨by kernel_rfl,by kernel_rfl,by kernel_rfl⟩⟩
def te89:TE:=⟨⟨false,1,[.slice none 0 0],.sl 4 48 [.string ⟨#[]⟩,.bool false,.int .i64 0,.string ⟨#[]⟩] false⟩,true,false,false,false,false,true,none⟩
theorem Arb:Gl Tryz.prog 89 te89:=⟨by kernel_rfl,by kernel_rfl,by kernel_rfl,by kernel_rfl,by kernel_rfl,by kernel_rfl,by kernel_rfl,fun ls h=>by cases h⟩
def te90:TE:=⟨⟨false,1,[.slice none 0 0],.sl 10 136 [.string ⟨#[]⟩,.bool false,.int .i64 0,.string ⟨#[]⟩,.string ⟨#[]⟩,.slice none 0 0,.string ⟨#[]⟩,.bool false,.int .i64 0,.string ⟨#[]⟩] false⟩,true,false,false,false,false,true,none⟩
theorem Arc:Gl Tryz.prog 90 te90:=⟨by kernel_rfl,by kernel_rfl,by kernel_rfl,by kernel_rfl,by kernel_rfl,by kernel_rfl,by kernel_rfl,fun ls h=>by cases h⟩
def te92:TE:=⟨⟨true,11,[.string ⟨#[]⟩,.bool false,.int .i64 0,.string ⟨#[]⟩,.string ⟨#[]⟩,.slice none 0 0,.string ⟨#[]⟩,.bool false,.int .i64 0,.string ⟨#[]⟩,.slice none 0 0],.st [(0,4,true),(4,1,false),(5,1,false),(6,4,true),(10,1,false)]⟩,false,false,false,false,false,true,none⟩
theorem Ard:Gl Tryz.prog 92 te92:=⟨by kernel_rfl,by kernel_rfl,by kernel_rfl,by kernel_rfl,by kernel_rfl,by kernel_rfl,by kernel_rfl,fun ls h=>by cases h⟩
def Apr:TE:=⟨⟨true,10,[.string ⟨#[]⟩,.bool false,.int .i64 0,.string ⟨#[]⟩,.string ⟨#[]⟩,.slice none 0 0,.string ⟨#[]⟩,.bool false,.int .i64 0,.string ⟨#[]⟩],.st [(0,4,true),(4,1,false),(5,1,false),(6,4,true)]⟩,false,false,false,false,false,true,none⟩
theorem Aoc:Gl Tryz.prog 104 Apr:=⟨by kernel_rfl,by kernel_rfl,by kernel_rfl,by kernel_rfl,by kernel_rfl,by kernel_rfl,by kernel_rfl,fun ls h=>by cases h⟩
def Aps:TE:=⟨⟨false,1,[.slice none 0 0],.sl 4 40 [.int .i64 0,.string ⟨#[]⟩,.int .i64 0,.int .i64 0] false⟩,true,false,false,false,false,true,none⟩
theorem Aod:Gl Tryz.prog 130 Aps:=⟨by kernel_rfl,by kernel_rfl,by kernel_rfl,by kernel_rfl,by kernel_rfl,by kernel_rfl,by kernel_rfl,fun ls h=>by cases h⟩
def Apt:TE:=⟨⟨false,1,[.pointer none],.ptr 135⟩,false,true,false,false,false,true,none⟩
theorem Aoe:Gl Tryz.prog 133 Apt:=⟨by kernel_rfl,by kernel_rfl,by kernel_rfl,by kernel_rfl,by kernel_rfl,by kernel_rfl,by kernel_rfl,fun ls h=>by cases h⟩
def Apu:TE:=⟨⟨true,2,[.slice none 0 0,.int .i64 0],.st [(0,1,false),(1,1,false)]⟩,false,false,false,false,false,true,none⟩
theorem Aof:Gl Tryz.prog 135 Apu:=⟨by kernel_rfl,by kernel_rfl,by kernel_rfl,by kernel_rfl,by kernel_rfl,by kernel_rfl,by kernel_rfl,fun ls h=>by cases h⟩
def Apv:TE:=⟨⟨true,2,[.int .i64 0,.int .i64 0],.st [(0,1,false),(1,1,false)]⟩,false,false,false,false,false,true,(some [.i .i64,.i .i64])⟩
theorem Aog:Gl Tryz.prog 137 Apv:=⟨by kernel_rfl,by kernel_rfl,by kernel_rfl,by kernel_rfl,by kernel_rfl,by kernel_rfl,by kernel_rfl,fun ls h=>by cases h;exact⟨by kernel_rfl,by kernel_rfl,by kernel_rfl⟩⟩
def Apw:TE:=⟨⟨true,4,[.int .i64 0,.string ⟨#[]⟩,.int .i64 0,.int .i64 0],.st [(0,1,false),(1,1,false),(2,1,false),(3,1,false)]⟩,false,false,false,false,false,true,(some [.i .i64,.s,.i .i64,.i .i64])⟩
theorem Aoh:Gl Tryz.prog 186 Apw:=⟨by kernel_rfl,by kernel_rfl,by kernel_rfl,by kernel_rfl,by kernel_rfl,by kernel_rfl,by kernel_rfl,fun ls h=>by cases h;exact⟨by kernel_rfl,by kernel_rfl,by kernel_rfl⟩⟩
def Apx:TE:=⟨⟨false,1,[.nilFunc],.other⟩,false,false,true,false,false,true,none⟩
theorem Aoi:Gl Tryz.prog 218 Apx:=⟨by kernel_rfl,by kernel_rfl,by kernel_rfl,by kernel_rfl,by kernel_rfl,by kernel_rfl,by kernel_rfl,fun ls h=>by cases h⟩
def tyT:Tr TE:=(.n (.n (.n (.n .e (.n (.n .e (.n .e (.n (.n (.n (.l Apr) .e) .e) .e))) (.n (.n .e (.n (.n (.n (.l te88) .e) .e) .e)) .e))) (.n (.n .e (.n (.n (.n (.n (.n (.l te20) .e) .e) .e) .e) .e)) (.n .e (.n (.n .e (.n (.n (.n (.l te92) .e) .e) .e)) .e)))) (.n (.n (.n (.n (.n (.n .e (.n (.n (.l Aps) .e) .e)) .e) .e) .e) (.n .e (.n (.n .e (.n (.n (.n (.l te90) .e) .e) (.n (.n (.l Apx) .e) .e))) (.n (.n .e (.n (.n (.l Apw) .e) .e)) .e)))) (.n (.n .e (.n (.n .e (.n (.n (.n (.l te86) .e) .e) .e)) .e)) .e))) (.n (.n (.n .e (.n (.n (.n (.n (.n (.n (.l te9) .e) .e) (.n (.n (.l Apv) .e) .e)) .e) .e) (.n (.n .e (.n (.n (.n (.l te89) .e) .e) .e)) .e))) (.n (.n (.n (.n (.n (.n (.n (.l te5) .e) .e) (.n (.n (.l Apt) .e) .e)) .e) .e) .e) .e)) (.n (.n (.n (.n (.n (.n (.n (.n (.l te3) .e) .e) .e) .e) .e) .e) .e) (.n (.n (.n (.n (.n .e (.n (.n (.l Apu) .e) .e)) .e) .e) (.n (.n (.n (.n (.n (.l te23) .e) .e) .e) .e) .e)) (.n (.n .e (.n (.n (.n (.n (.l te47) .e) .e) .e) .e)) .e)))))
theorem tyOk:tyT.All 10 (Gl Tryz.prog):=⟨⟨⟨⟨trivial,⟨⟨trivial,⟨trivial,⟨⟨⟨Aoc,trivial⟩,trivial⟩,trivial⟩⟩⟩,⟨⟨trivial,⟨⟨⟨Ara,trivial⟩,trivial⟩,trivial⟩⟩,trivial⟩⟩⟩,⟨⟨trivial,⟨⟨⟨⟨⟨Aq6,trivial⟩,trivial⟩,trivial⟩,trivial⟩,trivial⟩⟩,⟨trivial,⟨⟨trivial,⟨⟨⟨Ard,trivial⟩,trivial⟩,trivial⟩⟩,trivial⟩⟩⟩⟩,⟨⟨⟨⟨⟨⟨trivial,⟨⟨Aod,trivial⟩,trivial⟩⟩,trivial⟩,trivial⟩,trivial⟩,⟨trivial,⟨⟨trivial,⟨⟨⟨Arc,trivial⟩,trivial⟩,⟨⟨Aoi,trivial⟩,trivial⟩⟩⟩,⟨⟨trivial,⟨⟨Aoh,trivial⟩,trivial⟩⟩,trivial⟩⟩⟩⟩,⟨⟨trivial,⟨⟨trivial,⟨⟨⟨Aq9,trivial⟩,trivial⟩,trivial⟩⟩,trivial⟩⟩,trivial⟩⟩⟩,⟨⟨⟨trivial,⟨⟨⟨⟨⟨⟨As1,trivial⟩,trivial⟩,⟨⟨Aog,trivial⟩,trivial⟩⟩,trivial⟩,trivial⟩,⟨⟨trivial,⟨⟨⟨Arb,trivial⟩,trivial⟩,trivial⟩⟩,trivial⟩⟩⟩,⟨⟨⟨⟨⟨⟨⟨As0,trivial⟩,trivial⟩,⟨⟨Aoe,trivial⟩,trivial⟩⟩,trivial⟩,trivial⟩,trivial⟩,trivial⟩⟩,⟨⟨⟨⟨⟨⟨⟨⟨Asz,trivial⟩,trivial⟩,trivial⟩,trivial⟩,trivial⟩,trivial⟩,trivial⟩,⟨⟨⟨⟨⟨trivial,⟨⟨Aof,trivial⟩,trivial⟩⟩,trivial⟩,trivial⟩,⟨⟨⟨⟨⟨Aq7,trivial⟩,trivial⟩,trivial⟩,trivial⟩,trivial⟩⟩,⟨⟨trivial,⟨⟨⟨⟨Aq8,trivial⟩,trivial⟩,trivial⟩,trivial⟩⟩,trivial⟩⟩⟩⟩⟩
noncomputable def fe42:FE:=⟨Tryz.f42,[(3,[.rd 0 true,.rd 1 true,.ef 2 [0,1],.ef 3 [1],.ef 4 []]),(9,[.rd 0 true,.rd 1 false,.ef 2 [0],.rd 3 false,.ef 4 [],.ef 5 []])]⟩
noncomputable def fe83:FE:=⟨Tryz.f83,[]⟩
noncomputable def fe84:FE:=⟨Tryz.f84,[(3,[.rd 0 false,.rd 1 true,.rd 2 false,.rd 3 true,.ef 4 [1,3],.ef 5 [3],.ef 6 []])]⟩
noncomputable def fe85:FE:=⟨Tryz.f85,[]⟩
noncomputable def fe86:FE:=⟨Tryz.f86,[]⟩
noncomputable def fe87:FE:=⟨Tryz.f87,[(10,[.rd 0 false,.rd 1 true,.rd 2 false,.ef 3 [1],.rd 4 false,.ef 5 [],.rd 6 false,.ef 7 []])]⟩
noncomputable def Aou:FE:=⟨Tryz.f142,[]⟩
noncomputable def Aov:FE:=⟨Tryz.f143,[(7,[.rd 0 false,.rd 1 false,.rd 2 false,.rd 3 true,.rd 4 false,.ef 5 [3],.rd 6 false,.ef 7 []]),(10,[.rd 0 false,.rd 1 false,.rd 2 false,.rd 3 true,.rd 4 false,.ef 5 [3],.rd 6 false,.ef 7 []]),(24,[.rd 0 false,.rd 1 false,.rd 2 false,.rd 3 true,.rd 4 false,.ef 5 [3],.rd 6 false,.ef 7 []]),(26,[.rd 0 false,.rd 1 false,.rd 2 false,.rd 3 true,.rd 4 false,.ef 5 [3],.rd 6 false,.ef 7 []])]⟩
noncomputable def Aow:FE:=⟨Tryz.f144,[]⟩
noncomputable def Aox:FE:=⟨Tryz.f145,[]⟩
noncomputable def Aoy:FE:=⟨Tryz.f146,[]⟩
noncomputable def Aoz:FE:=⟨Tryz.f147,[]⟩
noncomputable def Ao0:FE:=⟨Tryz.f148,[]⟩
noncomputable def Ao1:FE:=⟨Tryz.f149,[]⟩
noncomputable def Ao2:FE:=⟨Tryz.f150,[]⟩
noncomputable def Ao3:FE:=⟨Tryz.f151,[]⟩
noncomputable def Ao4:FE:=⟨Tryz.f182,[]⟩
noncomputable def Ao5:FE:=⟨Tryz.f183,[]⟩
noncomputable def Ao6:FE:=⟨Tryz.f184,[]⟩
noncomputable def Ao7:FE:=⟨Tryz.f185,[]⟩
noncomputable def Ao8:FE:=⟨Tryz.f186,[]⟩
noncomputable def Ao9:FE:=⟨Tryz.f187,[]⟩
noncomputable def Apa:FE:=⟨Tryz.f188,[]⟩
noncomputable def Apb:FE:=⟨Tryz.f189,[]⟩
noncomputable def Apc:FE:=⟨Tryz.f190,[]⟩
noncomputable def Apd:FE:=⟨Tryz.f191,[]⟩
noncomputable def Ape:FE:=⟨Tryz.f227,[]⟩
theorem Aqh:Fv Tryz.prog 42 fe42:=⟨Tryz.func42,by decide,by kernel_rfl⟩
theorem Aqi:Fv Tryz.prog 83 fe83:=⟨Tryz.func83,by decide,by kernel_rfl⟩
theorem Aqj:Fv Tryz.prog 84 fe84:=⟨Tryz.func84,by decide,by kernel_rfl⟩
theorem Aqk:Fv Tryz.prog 85 fe85:=⟨Tryz.func85,by decide,by kernel_rfl⟩
theorem Aql:Fv Tryz.prog 86 fe86:=⟨Tryz.func86,by decide,by kernel_rfl⟩
theorem Aqm:Fv Tryz.prog 87 fe87:=⟨Tryz.func87,by decide,by kernel_rfl⟩
theorem Amo:Fv Tryz.prog 142 Aou:=⟨Tryz.func142,by decide,by kernel_rfl⟩
theorem Amp:Fv Tryz.prog 143 Aov:=⟨Tryz.func143,by decide,by kernel_rfl⟩
theorem Amq:Fv Tryz.prog 144 Aow:=⟨Tryz.func144,by decide,by kernel_rfl⟩
theorem Amr:Fv Tryz.prog 145 Aox:=⟨Tryz.func145,by decide,by kernel_rfl⟩
theorem Ams:Fv Tryz.prog 146 Aoy:=⟨Tryz.func146,by decide,by kernel_rfl⟩
theorem Amt:Fv Tryz.prog 147 Aoz:=⟨Tryz.func147,by decide,by kernel_rfl⟩
theorem Amu:Fv Tryz.prog 148 Ao0:=⟨Tryz.func148,by decide,by kernel_rfl⟩
theorem Amv:Fv Tryz.prog 149 Ao1:=⟨Tryz.func149,by decide,by kernel_rfl⟩
theorem Amw:Fv Tryz.prog 150 Ao2:=⟨Tryz.func150,by decide,by kernel_rfl⟩
theorem Amx:Fv Tryz.prog 151 Ao3:=⟨Tryz.func151,by decide,by kernel_rfl⟩
theorem Amy:Fv Tryz.prog 182 Ao4:=⟨Tryz.func182,by decide,by kernel_rfl⟩
theorem Amz:Fv Tryz.prog 183 Ao5:=⟨Tryz.func183,by decide,by kernel_rfl⟩
theorem Am0:Fv Tryz.prog 184 Ao6:=⟨Tryz.func184,by decide,by kernel_rfl⟩
theorem Am1:Fv Tryz.prog 185 Ao7:=⟨Tryz.func185,by decide,by kernel_rfl⟩
theorem Am2:Fv Tryz.prog 186 Ao8:=⟨Tryz.func186,by decide,by kernel_rfl⟩
theorem Am3:Fv Tryz.prog 187 Ao9:=⟨Tryz.func187,by decide,by kernel_rfl⟩
theorem Am4:Fv Tryz.prog 188 Apa:=⟨Tryz.func188,by decide,by kernel_rfl⟩
theorem Am5:Fv Tryz.prog 189 Apb:=⟨Tryz.func189,by decide,by kernel_rfl⟩
theorem Am6:Fv Tryz.prog 190 Apc:=⟨Tryz.func190,by decide,by kernel_rfl⟩
theorem Am7:Fv Tryz.prog 191 Apd:=⟨Tryz.func191,by decide,by kernel_rfl⟩
theorem Am8:Fv Tryz.prog 227 Ape:=⟨Tryz.func227,by decide,by kernel_rfl⟩
noncomputable def ftT:Tr FE:=(.n (.n (.n (.n (.n .e (.n (.n (.n .e (.n (.n (.l Aow) .e) .e)) .e) .e)) (.n .e (.n .e (.n (.n .e (.n (.n (.l Ao6) .e) .e)) .e)))) (.n (.n .e (.n (.n (.n .e (.n (.n (.l Ao0) .e) .e)) (.n (.n (.n (.l fe84) .e) .e) .e)) .e)) (.n .e (.n .e (.n (.n .e (.n (.n (.l Apa) .e) .e)) .e))))) (.n (.n (.n .e (.n (.n (.n .e (.n (.n (.l Aoy) .e) .e)) .e) .e)) (.n (.n .e (.n (.n (.n (.n (.l fe42) .e) .e) .e) .e)) (.n .e (.n (.n .e (.n (.n (.l Ao8) .e) .e)) .e)))) (.n (.n .e (.n (.n (.n .e (.n (.n (.l Ao2) .e) .e)) (.n (.n (.n (.l fe86) .e) .e) .e)) (.n (.n .e (.n (.n (.l Ao4) .e) .e)) .e))) (.n (.n (.n (.n .e (.n (.n (.l Aou) .e) .e)) .e) .e) (.n .e (.n (.n .e (.n (.n (.l Apc) .e) .e)) .e)))))) (.n (.n (.n (.n .e (.n (.n (.n .e (.n (.n (.l Aox) .e) .e)) .e) .e)) (.n .e (.n .e (.n (.n .e (.n (.n (.l Ao7) .e) .e)) .e)))) (.n (.n .e (.n (.n (.n .e (.n (.n (.l Ao1) .e) .e)) (.n (.n (.n (.l fe85) .e) .e) .e)) .e)) (.n .e (.n .e (.n (.n .e (.n (.n (.l Apb) .e) .e)) .e))))) (.n (.n (.n (.n .e (.n .e (.n .e (.n (.n (.l Ape) .e) .e)))) (.n (.n (.n .e (.n (.n (.l Aoz) .e) .e)) (.n (.n (.n (.l fe83) .e) .e) .e)) .e)) (.n .e (.n .e (.n (.n .e (.n (.n (.l Ao9) .e) .e)) .e)))) (.n (.n .e (.n (.n (.n .e (.n (.n (.l Ao3) .e) .e)) (.n (.n (.n (.l fe87) .e) .e) .e)) (.n (.n .e (.n (.n (.l Ao5) .e) .e)) .e))) (.n (.n (.n (.n .e (.n (.n (.l Aov) .e) .e)) .e) .e) (.n .e (.n (.n .e (.n (.n (.l Apd) .e) .e)) .e)))))))
theorem ftOk:ftT.All 10 (Fv Tryz.prog):=⟨⟨⟨⟨⟨trivial,⟨⟨⟨trivial,⟨⟨Amq,trivial⟩,trivial⟩⟩,trivial⟩,trivial⟩⟩,⟨trivial,⟨trivial,⟨⟨trivial,⟨⟨Am0,trivial⟩,trivial⟩⟩,trivial⟩⟩⟩⟩,⟨⟨trivial,⟨⟨⟨trivial,⟨⟨Amu,trivial⟩,trivial⟩⟩,⟨⟨⟨Aqj,trivial⟩,trivial⟩,trivial⟩⟩,trivial⟩⟩,⟨trivial,⟨trivial,⟨⟨trivial,⟨⟨Am4,trivial⟩,trivial⟩⟩,trivial⟩⟩⟩⟩⟩,⟨⟨⟨trivial,⟨⟨⟨trivial,⟨⟨Ams,trivial⟩,trivial⟩⟩,trivial⟩,trivial⟩⟩,⟨⟨trivial,⟨⟨⟨⟨Aqh,trivial⟩,trivial⟩,trivial⟩,trivial⟩⟩,⟨trivial,⟨⟨trivial,⟨⟨Am2,trivial⟩,trivial⟩⟩,trivial⟩⟩⟩⟩,⟨⟨trivial,⟨⟨⟨trivial,⟨⟨Amw,trivial⟩,trivial⟩⟩,⟨⟨⟨Aql,trivial⟩,trivial⟩,trivial⟩⟩,⟨⟨trivial,⟨⟨Amy,trivial⟩,trivial⟩⟩,trivial⟩⟩⟩,⟨⟨⟨⟨trivial,⟨⟨Amo,trivial⟩,trivial⟩⟩,trivial⟩,trivial⟩,⟨trivial,⟨⟨trivial,⟨⟨Am6,trivial⟩,trivial⟩⟩,trivial⟩⟩⟩⟩⟩⟩,⟨⟨⟨⟨trivial,⟨⟨⟨trivial,⟨⟨Amr,trivial⟩,trivial⟩⟩,trivial⟩,trivial⟩⟩,⟨trivial,⟨trivial,⟨⟨trivial,⟨⟨Am1,trivial⟩,trivial⟩⟩,trivial⟩⟩⟩⟩,⟨⟨trivial,⟨⟨⟨trivial,⟨⟨Amv,trivial⟩,trivial⟩⟩,⟨⟨⟨Aqk,trivial⟩,trivial⟩,trivial⟩⟩,trivial⟩⟩,⟨trivial,⟨trivial,⟨⟨trivial,⟨⟨Am5,trivial⟩,trivial⟩⟩,trivial⟩⟩⟩⟩⟩,⟨⟨⟨⟨trivial,⟨trivial,⟨trivial,⟨⟨Am8,trivial⟩,trivial⟩⟩⟩⟩,⟨⟨⟨trivial,⟨⟨Amt,trivial⟩,trivial⟩⟩,⟨⟨⟨Aqi,trivial⟩,trivial⟩,trivial⟩⟩,trivial⟩⟩,⟨trivial,⟨trivial,⟨⟨trivial,⟨⟨Am3,trivial⟩,trivial⟩⟩,trivial⟩⟩⟩⟩,⟨⟨trivial,⟨⟨⟨trivial,⟨⟨Amx,trivial⟩,trivial⟩⟩,⟨⟨⟨Aqm,trivial⟩,trivial⟩,trivial⟩⟩,⟨⟨trivial,⟨⟨Amz,trivial⟩,trivial⟩⟩,trivial⟩⟩⟩,⟨⟨⟨⟨trivial,⟨⟨Amp,trivial⟩,trivial⟩⟩,trivial⟩,trivial⟩,⟨trivial,⟨⟨trivial,⟨⟨Am7,trivial⟩,trivial⟩⟩,trivial⟩⟩⟩⟩⟩⟩⟩
theorem Aqp(vs:Array Value):Yb Tryz.prog 84 vs:=fun w=>by
 refine callsDIn_of_wpSIn Tryz.func84 rfl trivial fun c₀ cs hu=>?_;have hsz:14≤(vs++Array.replicate (14-vs.size) undef).size:=by simp;omega
 rw[show Tryz.f84.ntmps=14 from rfl];revert hsz;generalize vs++Array.replicate (14-vs.size) undef=tm;intro hsz;apply wpSIn_seq;apply wpSIn_region;simp[wpOpsSIn,go_sem,recoverD,hu,Exit.thenS];apply wpSIn_seq;apply wpSIn_region;have h3:3<tm.size:=by omega
 have h5:5<tm.size:=by omega
 have h6:6<tm.size:=by omega
 have h7:7<tm.size:=by omega
 simp[wpOpsSIn,go_sem,Exit.thenS,h3,h5,h6,h7,Act.eval,Act.put];refine wpSIn_cond (t:=false) (by simp[Act.eval,h3,h5,h6,h7]) ?_;simp only[Bool.false_eq_true,if_false];refine wpSIn_of_wpIn rfl (wpIn_skip ?_);cases c₀
 simp_all [bodyPostS,results,show Tryz.f84.results= #[]from rfl]
theorem prOk:PrOk Tryz.prog tyT ftT (fun f=>Nat.beq f 84) where
 mx:=by kernel_rfl
 ty:=fun t e ht he=>Tr.all_get tyOk (by simpa using ht) he
 ft:=fun t e ht he=>Tr.all_get ftOk (by simpa using ht) he
 idle:=fun f hf=>by
  rw[Az]at hf;subst hf;exact⟨⟨_,Tryz.func84,rfl,by decide⟩,Aqp⟩
def txtL:RS:=.v (.string ⟨#[65,58,32,112,40,88,41,32,58,45,32,113,40,88,41,46]⟩)
def resT:AV:=.tup [.sl 11 [[.v (.string ⟨#[65]⟩),.v (.bool false),.v (.int .i64 0),.v (.string ⟨#[]⟩),.v (.string ⟨#[112]⟩),.sl 4 [[.v (.string ⟨#[88]⟩),.v (.bool false),.v (.int .i64 0),.v (.string ⟨#[]⟩)]],.v (.string ⟨#[]⟩),.v (.bool false),.v (.int .i64 0),.v (.string ⟨#[]⟩),
 .sl 10 [[.v (.string ⟨#[]⟩),.v (.bool false),.v (.int .i64 0),.v (.string ⟨#[]⟩),.v (.string ⟨#[113]⟩),.sl 4 [[.v (.string ⟨#[88]⟩),.v (.bool false),.v (.int .i64 0),.v (.string ⟨#[]⟩)]],.v (.string ⟨#[]⟩),.v (.bool false),.v (.int .i64 0),.v (.string ⟨#[]⟩)]]]],.v (.int .i64 0),.v (.int .i64 0)]
theorem runP:runV Tryz.prog tyT ftT (fun f=>Nat.beq f 84) 100000 40 12 42 [txtL]=some resT:=by kernel_rfl
theorem parse1_at{σ:St}:AT Tryz.prog 42 [.v (.string ⟨#[65,58,32,112,40,88,41,32,58,45,32,113,40,88,41,46]⟩)] σ fun r σ'=>r=resT∧σ'=σ:=by
 have h:=An5 (σ:=σ) prOk runP (by kernel_rfl) (fun _=>.v (.bool false)) (fun _=>⟨rfl,rfl⟩) (by simp only[RS.wfs,RS.wf,txtL];trivial);have e:RS.ivs ⟨fun i=>i,fun i=>i,fun _=>.v (.bool false)⟩ [txtL]=[.v (.string ⟨#[65,58,32,112,40,88,41,32,58,45,32,113,40,88,41,46]⟩)]:=by
  simp only[RS.ivs,RS.iv,RS.vv,txtL]
 rw[e]at h;exact h
end Go.Proofs.YtmifmncabejffaaGreat
