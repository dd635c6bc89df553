/-
  Contracts of the functions that the statement reaches, and the plain laws of what they reckon.
  Conditions: none.
-/
import Derived.Test.YtmifmncabejffaaGreatRows
import Derived.RecoverIn
import Derived.BigFrame
import Derived.Test.YtmifmncabejffaaGreatV1EvalLeast
import Derived.Test.YtmifmncabejffaaGreatV2EvalLeast
import Derived.Test.YtmifmncabejffaaGreatV3EvalLeast
import Derived.Test.YtmifmncabejffaaGreatX1EvalLeast
import Derived.Test.YtmifmncabejffaaGreatX2EvalLeast
import Derived.Test.YtmifmncabejffaaGreatX3EvalLeast
set_option linter.unusedVariables false
set_option linter.unusedSimpArgs false
set_option linter.unusedSectionVars false
set_option maxRecDepth 100000
namespace Go.Proofs.YtmifmncabejffaaGreat
open Go Go.Av
section
variable{σ:St}{x:Nat}{a:EA}{s:ES}{n:Nat}{hv:Bool}
set_option maxHeartbeats 1600000 in
theorem Aay(h:EV true σ x a s hv)(hs:SOk n s)(hn:n+Cr s.rules s.rules.length*60004+60004≤800000000000):
  AT Tryz.prog 45 [ptr x] σ fun r σ'=>r=boo (C0 s hv).1∧∃a',EV true σ' x a' (C0 s hv).2.1 (C0 s hv).2.2∧Frm x a a' σ σ':=by
 refine AT.ob Tryz.func45 rfl ?_;have hx:=h.cx;cases hfu:s.full with
 |true=>
  have e:C0 s hv=(false,s,hv):=by unfold C0;rw[hfu];rfl
  simp only[go_sem,hx,hfu];exact Ad (r:=boo false) rfl ⟨by rw[e],a,by rw[e];exact h,.refl⟩
 |false=>
 cases hq:s.queue with
 |nil=>
  have e:C0 s hv=(false,s,hv):=by unfold C0;rw[hfu,hq];rfl
  have d0:decide ((s.queue.length:Int)=0)=true:=by rw[hq];rfl
  simp only[go_sem,hx,hfu,h.cq.len,Am,d0];exact Ad (r:=boo false) rfl ⟨by rw[e],a,by rw[e];exact h,.refl⟩
 |cons f q=>
 have d0:decide ((s.queue.length:Int)=0)=false:=by rw[hq];simp;omega
 have hfs:f.Sm:=hs.qs f (by rw[hq];simp);have hcq:LQ 4 σ a.qv (f.cs::faC q):=by have:=h.cq;rw[hq]at this;exact this
 have hst:C0 s hv=if f∈s.T∨(f∉s.given∧(ofF s.B f).length=0)then(true,{s with queue:=q},hv)
  else if(Ce s.T s.lim f).2=0 then(true,rlD s.me f (Ce s.T s.lim f).1 s.rules s.rules.length ({s with queue:=q,T:=(Ce s.T s.lim f).1},hv))
  else(true,{s with queue:=q,T:=(Ce s.T s.lim f).1,full:=true},hv):=by unfold C0;rw[hfu,if_neg (by simp),hq]
 simp only[go_sem,hx,hfu,h.cq.len,Am,d0];refine hcq.first (by decide) rfl fun pp hpp=>?_;simp only[go_sem,Aa];refine hpp _ _ _ ?_;simp only[go_sem,Aa];refine Ctx.nil.alloc fun p σ1 c1=>?_;obtain⟨σ2,e2,c2⟩:=c1.abs 0 rfl (.cells f.cs);have hp:σ2 p=some (.cells f.cs):=c2.g0;have hsb:=c2.sub;have fp:σ p=none:=c1.f0;have h2:=h.more hsb;have hx2:=h2.cx;have hcq2:LQ 4 σ2 a.qv (f.cs::faC q):=hcq.keep fun y o hy _=>hsb y o hy;simp only[go_sem,Aa,c1.g0,e2,hx2];clear e2 c2 c1 hpp;refine hcq2.tail fun v' k1 k2=>?_;obtain⟨kx,kE,kF⟩:=h2.setQ (l:=q) (σ1:=σ2) k1 fun y o hy hn=>⟨hy,fun e=>hn ((k2 y).1 e)⟩;have esp:A0 (evC true s a hv) 6 [v']=evC true {s with queue:=q} {a with qv:=v'} hv:=rfl;simp only[go_sem,Aa,hx2,k1.one,k1.cells,esp,kE.all1];have npa:¬Bn x a p:=fun hf=>by obtain⟨o,ho⟩:=If h hf;rw[fp]at ho;cases ho
 have kp:=kF _ _ hp npa;have F3:=(Frm.of hsb).trans kF;obtain⟨a1,ha1⟩:∃a1:EA,a1={a with qv:=v'}:=⟨_,rfl⟩;obtain⟨s1,hs1⟩:∃s1:ES,s1={s with queue:=q}:=⟨_,rfl⟩;rw[←hs1,←ha1]at kE F3 kp⊢;have K1:SK s s1:=by rw[hs1];exact⟨rfl,rfl,rfl,rfl,rfl,rfl,rfl⟩
 have B1:s1.B=s.B:=by rw[hs1]
 have O1:SOk n s1:=by
  have:=hs.ql;rw[hq]at this;rw[hs1];exact{hs with ql:=(by show q.length≤n;simp only[List.length_cons]at this;omega),qs:=fun y hy=>hs.qs y (by rw[hq];exact List.mem_cons_of_mem _ hy)}
 clear kx kF hx2 h2 k1 k2 hcq2 hcq hp esp;generalize σ2.set x (.cells (evC true s1 a1 hv))=σ3 at kE F3 kp⊢;obtain⟨hp,np⟩:=kp;have hx3:=kE.cx;have ht3:TB σ3 a1.t s.T s.lim:=by have:=kE.ct;rw[K1.T,K1.lim]at this;exact this
 have hg3:a1.gv= .sl 4 (faC s.given):=by have:=kE.gsl;rw[K1.given]at this;exact this
 have hb3:RK σ3 a1.b s.B:=by have:=kE.cb;rw[B1]at this;exact this
 have hgl:=hs.gl;have hbk:=hs.bok (by omega);have htl:=hs.tok.len;have ht3':σ3 a1.t=some (.cells [.sl 4 (faC s.T),int s.lim]):=ht3;have skip:C0 s hv=(true,s1,hv)→∀{fr:Fr},A8 Tryz.prog fr σ3 (Tryz.f45).results.toList=some (boo true)→Dr Tryz.prog (fun r σ'=>r=boo (C0 s hv).1∧∃a',EV true σ' x a' (C0 s hv).2.1 (C0 s hv).2.2∧Frm x a a' σ σ') (Tryz.f45).results.toList fr σ3:=fun e _ hr=>
  Ad hr ⟨by rw[e],a1,by rw[e];exact kE,F3⟩
 refine Ag [.rd 0 false,.rd 1 false,.rd 2 false,.rd 3 true,.rd 4 true,.ef 5 [],.rd 6 false,.rd 7 false,.rd 8 false,.rd 9 false,.rd 10 true,.rd 11 true,.ef 12 [],.rd 13 false,.rd 14 false,.rd 15 false,.rd 16 false] ?_;simp only[go_sem,Aa,hx3,hp,hg3];refine(Ej s.given f (by omega) hs.gs hfs).p ?_;by_cases hgi:f∈s.given
 case' pos=>
  simp only[go_sem,Aa,decide_eq_true hgi];refine Ag [.rd 0 false,.rd 1 false,.rd 2 false,.rd 3 false,.rd 4 false,.rd 5 false,.rd 6 true,.rd 7 false,.rd 8 false,.rd 9 true,.rd 10 true,.ef 11 [],.rd 12 false] ?_;simp only[go_sem,Aa,hx3,hp,ht3',Bool.not_true];refine(Ej s.T f (by omega) hs.tok.sm hfs).p ?_;by_cases hT:f∈s.T
  case' pos=>
   rw[if_pos (.inl hT),←hs1]at hst;simp only[go_sem,Aa,decide_eq_true hT];exact skip hst rfl
  have hns:¬(f∈s.T∨(f∉s.given∧(ofF s.B f).length=0)):=fun h=>h.elim hT fun h=>h.1 hgi;rw[if_neg hns]at hst;simp only[go_sem,Aa,decide_eq_false hT]
 case' neg=>
  simp only[go_sem,Aa,decide_eq_false hgi,hx3,hp];refine(Ak5 hb3 hbk f hfs).p ?_;by_cases hof:(ofF s.B f).length=0
  case' pos=>
   rw[if_pos (.inr ⟨hgi,hof⟩),←hs1]at hst;have d3:=decide_eq_false (show¬(0:Int)<(ofF s.B f).length by omega);simp only[go_sem,Aa,As,d3];refine Ag [.rd 0 false,.rd 1 false,.rd 2 false,.rd 3 false,.rd 4 false,.rd 5 false,.rd 6 true,.rd 7 false,.rd 8 false,.rd 9 true,.rd 10 true,.ef 11 [],.rd 12 false] ?_;simp only[go_sem,Aa,Bool.not_false];exact skip hst rfl
  have d3:=decide_eq_true (show(0:Int)<(ofF s.B f).length by omega);simp only[go_sem,Aa,As,d3];refine Ag [.rd 0 false,.rd 1 false,.rd 2 false,.rd 3 false,.rd 4 false,.rd 5 false,.rd 6 true,.rd 7 false,.rd 8 false,.rd 9 true,.rd 10 true,.ef 11 [],.rd 12 false] ?_;simp only[go_sem,Aa,hx3,hp,ht3',Bool.not_true];refine(Ej s.T f (by omega) hs.tok.sm hfs).p ?_;by_cases hT:f∈s.T
  case' pos=>
   rw[if_pos (.inl hT),←hs1]at hst;simp only[go_sem,Aa,decide_eq_true hT];exact skip hst rfl
  have hns:¬(f∈s.T∨(f∉s.given∧(ofF s.B f).length=0)):=fun h=>h.elim hT fun h=>hof h.2;rw[if_neg hns]at hst;simp only[go_sem,Aa,decide_eq_false hT]
 all_goals
  obtain⟨T2,er,hP⟩:∃T2 er,Ce s.T s.lim f=(T2,er):=⟨_,_,rfl⟩;obtain⟨pT,pl⟩:=Xs hs.tok hs.tl hs.lm hfs;simp only[hP]at hst pT pl;refine Ag [.rd 0 false,.rd 1 false,.rd 2 false,.rd 3 true,.rd 4 true,.ef 5 [],.rd 6 false] ?_;simp only[go_sem,Aa,hx3,hp];refine(Aov ht3 hs.tok f hfs).mono ?_;rintro _ σ4 ⟨rfl,rfl⟩;simp only[hP];have E4:=kE.setT (T:=T2);obtain⟨s2,hs2⟩:∃s2:ES,s2={s1 with T:=T2}:=⟨_,rfl⟩;rw[←hs2,K1.lim]at E4;have F4:Frm x a a1 σ (σ3.set a1.t (tbC T2 s.lim)):=F3.trans .setT;have hp4:(σ3.set a1.t (tbC T2 s.lim)) p=some (.cells f.cs):=by rw[Af (fun e=>np (.inr (.inl e)))];exact hp
  have O2:SOk n s2:=by rw[hs2];exact{O1 with tok:=(by show TOk T2 s1.lim;rw[K1.lim];exact pT),tl:=(by show(T2.length:Int)≤s1.lim;rw[K1.lim];exact pl)}
  have r2:s2.rules=s.rules:=by rw[hs2];exact K1.rules
  have m2:s2.me=s.me:=by rw[hs2];exact K1.me
  have T22:s2.T=T2:=by rw[hs2]
  have e2:s2={s with queue:=q,T:=T2}:=by rw[hs2,hs1]
  have hst2:er=0→C0 s hv=(true,rlD s.me f T2 s.rules s.rules.length (s2,hv)):=fun he=>by rw[hst,if_pos he,e2]
  clear skip hg3 hb3 ht3 ht3' hx3 kE F3 hp hs2 O1 K1 hs1;generalize σ3.set a1.t (tbC T2 s.lim)=σ4 at E4 F4 hp4⊢;have hx4:=E4.cx;by_cases he:er=0
  case neg=>
   have kE:=E4.setX (f:=true) (hv':=hv);have esp:A0 (evC true s2 a1 hv) 8 [boo true]=evC true {s2 with full:=true} a1 hv:=rfl;rw[if_neg he]at hst;simp only[go_sem,Aa,decide_eq_false he,hx4,esp,kE.all1];refine Ad (r:=boo true) rfl ⟨by rw[hst],a1,?_,F4.trans .setX⟩;rw[hst,e2];rw[e2]at kE;exact kE
  simp only[go_sem,Aa,decide_eq_true he];have O20:SOk (n+Cr s.rules 0*60004) s2:=O2.le (Nat.le_add_right _ _);refine⟨fun m fr σ'=>∃(i:Nat) (a':EA) (P:ES×Bool),m=s.rules.length-i∧i≤s.rules.length∧P=rlD s.me f T2 s.rules i (s2,hv)∧SOk (n+Cr s.rules i*60004) P.1∧EV true σ' x a' P.1 P.2∧Frm x a a' σ σ'∧σ' p=some (.cells f.cs)∧¬Bn x a' p∧fr 0=ptr x∧fr 3=ptr p∧fr 5=int i,⟨_,0,a1,(s2,hv),rfl,by omega,rfl,O20,E4,F4,hp4,np,rfl,rfl,rfl⟩,?_⟩;clear O20 E4 F4 hp4 np hx4;rintro m fr σ1 ⟨i,a',P,rfl,hi,hP',hO,hE,hF,hp,np,f0,f3,f5⟩;have K':SK s2 P.1:=by rw[hP'];exact Lx s.me f T2 s.rules (s2,hv) i
  have rl':P.1.rules=s.rules:=K'.rules.trans r2;have hx1:=hE.cx;simp only[go_sem,f0,f5,hx1,rl',Ci];refine aIf_by (fun hlt=>?_) (fun hlt=>?_)
  case' refine_2=>
   have ei:i=s.rules.length:=by omega
   subst ei;rw[hst2 he];simp only[go_sem,Aa];exact Ad (r:=boo true) rfl ⟨rfl,a',by rw[←hP'];exact hE,hF⟩
  have hil:i<s.rules.length:=by omega
  obtain⟨r,hrr⟩:∃r,r=s.rules[i]:=⟨_,rfl⟩;have hr4:=hs.rs _ (List.getElem_mem hil);rw[←hrr]at hr4;have rg:(rlC s.rules).getD i []=r.cs:=by rw[hrr];exact C3 hil
  have hgr:s.rules.getD i rlZ=r:=by rw[Dh hil,hrr]
  have hbo:=hr4.1.1;have hrl:=hs.rl;have hls:Cr s.rules (i+1)=Cr s.rules i+r.bo.length:=by rw[←hgr];rfl
  have hll:=Xj s.rules (show i+1≤s.rules.length by omega);simp only[go_sem,Aa];obtain⟨z,hz⟩:∃z,z=0:=⟨_,rfl⟩;have OJ:SOk (n+Cr s.rules i*60004+z*60004) P.1:=SOk.le hO (Nat.le_add_right _ _);refine⟨fun m fr σ'=>∃(j:Nat) (a':EA) (P:ES×Bool),m=r.bo.length-j∧j≤r.bo.length∧P=ltD s.me f T2 i r j (rlD s.me f T2 s.rules i (s2,hv))∧SOk (n+Cr s.rules i*60004+j*60004) P.1∧EV true σ' x a' P.1 P.2∧Frm x a a' σ σ'∧σ' p=some (.cells f.cs)∧¬Bn x a' p∧fr 0=ptr x∧fr 3=ptr p∧fr 5=int i∧fr 6=int j,⟨_,0,a',P,rfl,by omega,hP',hz▸OJ,hE,hF,hp,np,f0,f3,f5,rfl⟩,?_⟩;clear OJ hz hO hE hF hp np f0 f3 f5 hP' K' rl' hx1;rintro m fr σ1 ⟨j,a',P,rfl,hj,hP',hO,hE,hF,hp,np,f0,f3,f5,f6⟩;have K':SK s2 P.1:=by rw[hP'];exact(Lx s.me f T2 s.rules (s2,hv) i).trans (Tu s.me f T2 i r _ j)
  have rl':P.1.rules=s.rules:=K'.rules.trans r2;have me':P.1.me=s.me:=K'.me.trans m2;have T':P.1.T=T2:=K'.T.trans T22;have hx1:=hE.cx;have lcl:=D3 r.bo;simp only[go_sem,f0,f5,f6,hx1,rl',rg,Ci,lcl];refine⟨by omega,?_⟩;refine aIf_by (fun hlt=>?_) (fun hlt=>?_)
  ·have hjl:j<r.bo.length:=by omega
   have hil':i<P.1.rules.length:=by rw[rl'];exact hil
   have hri:P.1.rules[i]=r:=by rw[hrr];exact List.getElem_of_eq rl' hil'
   simp only[go_sem,Aa,f0,f3,f5,f6,hp];refine(Aaw hE hO (by omega) i hil' j f hfs).mono ?_;rintro _ σ2 ⟨a2,E2,G2⟩;have kp:=G2 _ _ hp np
   have O3:SOk (n+Cr s.rules i*60004+(j+1)*60004) (bdS i (Ki r s.me j f T2).1 P.1):=(P8 i (m:=r.bo.length) (by omega) _ _ hO (Ww hfs pT.sm)).le (by
    have:=docl (r:=r) (me:=s.me) (first:=(j:Int)) (f:=f) (l:=T2);omega)
   rw[hri,me',T']at E2;simp only[go_sem,Aa,f6,Au j (by omega)];exact⟨r.bo.length-(j+1),by omega,j+1,a2,lkD s.me f T2 i r j P,rfl,by omega,by rw[O5,←hP'],O3,E2,hF.trans G2,kp.1,kp.2,f0,f3,f5,rfl⟩
  ·have ej:j=r.bo.length:=by omega
   have h9:∀{A B C:Nat},B=A+C→j=C→n+A*60004+j*60004=n+B*60004:=fun{A B C} h1 h2=>by rw[h1,h2,Nat.add_mul,Nat.add_assoc]
   have O':SOk (n+Cr s.rules (i+1)*60004) P.1:=by
    rw[←h9 hls ej];exact hO
   have es':P=rlD s.me f T2 s.rules (i+1) (s2,hv):=by rw[Pl,hgr,hP',ej]
   simp only[go_sem,Aa,f5,Au i (by omega)];exact⟨s.rules.length-(i+1),by omega,i+1,a',P,rfl,by omega,es',O',hE,hF,hp,np,f0,f3,rfl⟩
end
def Uv:Nat→ES→Prop
 |0,s=>H5 s∧(Bs s).1=false
 |k+1,s=>H5 s∧((Bs s).1=true→Uv k (Bs s).2)
def Hr:Nat→ES→ES
 |0,s=>s
 |k+1,s=>if(Bs s).1=true then Hr k (Bs s).2 else s
theorem Ahu(s:ES):(Bs s).2.rules=s.rules:=by
 unfold Bs
 repeat' split
 all_goals first|rfl|exact(J2 _ _ _ _ _ _).rules
theorem Aht{s:ES}(h:(Bs s).1=false):(Bs s).2=s:=by
 by_cases h1:s.full=true
 ·unfold Bs;rw[if_pos h1]
 cases hq:s.queue with
 |nil=>unfold Bs;rw[if_neg h1,hq]
 |cons f q=>
  exfalso;revert h;unfold Bs;rw[if_neg h1,hq];simp only;split
  ·intro h;cases h
  ·split<;>(intro h;cases h)
section
variable{σ:St}{x:Nat}{a:EA}{s:ES}{n:Nat}
theorem Ago(h:EV false σ x a s false)(hs:SOk n s)(hl:Cr s.rules s.rules.length≤80)(N:Nat)(hn:n+(N+1)*4800160≤800000000000)(hd:Uv N s):
  AT Tryz.prog 17 [ptr x] σ fun r σ'=>∃a',EV false σ' x a' (Hr N s) false∧Frm x a a' σ σ':=by
 refine AT.ob Tryz.func17 rfl ?_;simp only[go_sem];refine⟨fun m fr σ'=>∃(k:Nat) (a':EA) (s':ES),m=k∧k≤N∧s'.rules=s.rules∧Uv k s'∧Hr k s'=Hr N s∧SOk (n+(N-k)*4800160) s'∧EV false σ' x a' s' false∧Frm x a a' σ σ'∧fr 0=ptr x∧fr 3=int (N-k:Nat),⟨_,N,a,s,rfl,by omega,rfl,hd,rfl,by rw[Nat.sub_self];exact hs.le (Nat.le_add_right _ _),h,.refl,rfl,by rw[Nat.sub_self];rfl⟩,?_⟩;rintro m fr σ1 ⟨k,a',s',rfl,hk,hr,hd',he,hO,hE,hF,f0,f3⟩;have hl':Cr s'.rules s'.rules.length≤80:=by rw[hr];exact hl
 have hw:H5 s':=by cases m<;>exact hd'.1
 simp only[go_sem,f0];refine(Oe hE hO (by omega) hw).mono ?_;rintro _ σ2 ⟨rfl,a2,E2,F2⟩;have hso:=Ud hO hw;cases hb:(Bs s').1 with
 |false=>
  have e1:=Aht hb;have e2:Hr m s'=s':=by
   cases m with
   |zero=>rfl
   |succ k=>show(if(Bs s').1=true then _ else s')=s';rw[hb];rfl
  rw[e1]at E2;simp only[go_sem,Aa,hb,f3];exact Ad (r:=int (N-m:Nat)) rfl ⟨a2,by rw[←he,e2];exact E2,hF.trans F2⟩
 |true=>
  cases m with
  |zero=>rw[hd'.2]at hb;cases hb
  |succ k=>
   have hd2:=hd'.2 hb;have e2:Hr k (Bs s').2=Hr N s:=by rw[←he];show _=(if(Bs s').1=true then _ else s');rw[hb];rfl
   have ek:N-k=N-(k+1)+1:=by omega
   simp only[go_sem,Aa,hb,f3,Ip (show N-(k+1)<9223372036854775807 by omega)];exact⟨k,by omega,k,a2,(Bs s').2,rfl,by omega,by rw[Ahu,hr],hd2,e2,hso.le (by omega),E2,hF.trans F2,f0,by rw[ek]⟩
end
theorem Akb{n:Nat}{me:ByteArray}{f:Fa}{T:List Fa}(i:Nat){r:Rl}{P:ES×Bool}(h:SOk n P.1)(hr:r.S4)(hf:f.Sm)(hT:∀y∈T,y.Sm):∀(k:Nat),SOk (n+k*60004) (ltD me f T i r k P).1
 |0=>h.le (Nat.le_add_right _ _)
 |k+1=>by
  have h1:=Akb (me:=me) i h hr hf hT k;have h3:=docl (r:=r) (me:=me) (first:=(k:Int)) (f:=f) (l:=T);have hbo:=hr.1.1;rw[O5];exact(P8 i (m:=r.bo.length) (by omega) _ _ h1 (Ww hf hT)).le (by omega)
theorem Ak3{n:Nat}{me:ByteArray}{f:Fa}{T:List Fa}{rules:List Rl}{P:ES×Bool}(h:SOk n P.1)(hr:∀r∈rules,r.S4)(hf:f.Sm)(hT:∀y∈T,y.Sm):∀(k:Nat),k≤rules.length→SOk (n+Cr rules k*60004) (rlD me f T rules k P).1
 |0,_=>by show SOk (n+0*60004) P.1;exact h.le (Nat.le_add_right _ _)
 |k+1,hk=>by
  have h1:=Ak3 (me:=me) h hr hf hT k (by omega);have e:rules.getD k rlZ=rules[k]:=Dh (by omega) _;have h2:=Akb (me:=me) (T:=T) k h1 (hr _ (List.getElem_mem (show k<rules.length by omega))) hf hT rules[k].bo.length;rw[Pl];show SOk (n+(Cr rules k+(rules.getD k rlZ).bo.length)*60004) _;rw[e,Nat.add_mul,←Nat.add_assoc];exact h2
theorem Afv{n:Nat}{s:ES}{hv:Bool}(h:SOk n s):SOk (n+Cr s.rules s.rules.length*60004) (C0 s hv).2.1∧(C0 s hv).2.1.rules=s.rules:=by
 unfold C0;split
 ·exact⟨h.le (Nat.le_add_right _ _),rfl⟩
 split
 ·exact⟨h.le (Nat.le_add_right _ _),rfl⟩
 rename_i f q hq;have hf:=h.qs f (by rw[hq];simp);have hql:=h.ql;rw[hq]at hql;simp only[List.length_cons]at hql;obtain⟨p1,p2⟩:=Xs h.tok h.tl h.lm hf;have h1:SOk n {s with queue:=q}:={h with ql:=(by show q.length≤n;omega),qs:=fun y hy=>h.qs y (by rw[hq];exact List.mem_cons_of_mem _ hy)};have h2:SOk n {s with queue:=q,T:=(Ce s.T s.lim f).1}:={h1 with tok:=p1,tl:=p2};split
 ·exact⟨h1.le (Nat.le_add_right _ _),rfl⟩
 split
 ·exact⟨Ak3 (P:=({s with queue:=q,T:=(Ce s.T s.lim f).1},hv)) h2 h.rs hf p1.sm _ (Nat.le_refl _),(Lx s.me f (Ce s.T s.lim f).1 s.rules ({s with queue:=q,T:=(Ce s.T s.lim f).1},hv) _).rules⟩
 ·exact⟨{h2.le (Nat.le_add_right _ _)with},rfl⟩
def Qc:Nat→ES×Bool→Bool×(ES×Bool)
 |0,P=>(false,P)
 |k+1,P=>if P.2=true then(false,P)else if(C0 P.1 P.2).1=true then Qc k (C0 P.1 P.2).2 else(true,(C0 P.1 P.2).2)
section
variable{σ:St}{x:Nat}{a:EA}{s:ES}{n:Nat}{hv:Bool}
theorem Ahd(h:EV true σ x a s hv)(hs:SOk n s)(hl:Cr s.rules s.rules.length≤80)(hn:n+402*4800320≤800000000000):
  AT Tryz.prog 46 [ptr x] σ fun r σ'=>r=boo (Qc 400 (s,hv)).1∧∃a',EV true σ' x a' (Qc 400 (s,hv)).2.1 (Qc 400 (s,hv)).2.2∧Frm x a a' σ σ':=by
 refine AT.ob Tryz.func46 rfl ?_;obtain⟨R,hR⟩:∃R,R=Qc 400 (s,hv):=⟨_,rfl⟩;rw[←hR];simp only[go_sem];refine⟨fun m fr σ'=>∃(k:Nat) (a':EA) (P:ES×Bool),m=k∧k≤400∧Qc k P=R∧P.1.rules=s.rules∧SOk (n+(400-k)*4800320) P.1∧EV true σ' x a' P.1 P.2∧Frm x a a' σ σ'∧fr 0=ptr x∧fr 3=int (400-k:Nat),⟨_,400,a,(s,hv),rfl,by omega,hR.symm,rfl,hs.le (Nat.le_add_right _ _),h,.refl,rfl,rfl⟩,?_⟩;rintro m fr σ1 ⟨k,a',⟨s',w⟩,rfl,hk,hd,hr,hO,hE,hF,f0,f3⟩;simp only at hr hO hE;have hx:=hE.cx;simp only[go_sem,f3];refine aIf_by (fun hlt=>?_) (fun hlt=>?_)
 ·obtain⟨k,rfl⟩:∃j,m=j+1:=⟨m-1,by omega⟩
  have hd':(if w=true then(false,(s',w))else if(C0 s' w).1=true then Qc k (C0 s' w).2 else(true,(C0 s' w).2))=R:=hd;clear hd;cases w with
  |true=>
   rw[if_pos rfl]at hd';simp only[go_sem,Aa,f0,hx];exact Ad (r:=boo false) rfl ⟨by rw[←hd'],a',by rw[←hd'];exact hE,hF⟩
  |false=>
   rw[if_neg (by decide)]at hd';have hl':Cr s'.rules s'.rules.length≤80:=by rw[hr];exact hl
   have sz:=Afv (hv:=false) hO;simp only[go_sem,Aa,f0,hx];refine(Aay hE hO (by omega)).mono ?_;rintro _ σ2 ⟨rfl,a2,E2,G2⟩;have hO2:=sz.1.le (m:=n+(400-k)*4800320) (by omega);cases hc:(C0 s' false).1 with
   |true=>
    rw[if_pos hc]at hd';have ek:400-k=400-(k+1)+1:=by omega
    simp only[go_sem,Aa,hc,f3,Ip (show 400-(k+1)<9223372036854775807 by omega)];exact⟨k,by omega,k,a2,(C0 s' false).2,rfl,by omega,hd',by rw[sz.2,hr],hO2,E2,hF.trans G2,f0,by rw[ek]⟩
   |false=>
    rw[if_neg (by rw[hc];decide)]at hd';simp only[go_sem,Aa,hc];exact Ad (r:=boo true) rfl ⟨by rw[←hd'],a2,by rw[←hd'];exact E2,hF.trans G2⟩
 ·have e0:m=0:=by omega
  subst e0;have hd':(false,(s',w))=R:=hd;simp only[go_sem,Aa];exact Ad (r:=boo false) rfl ⟨by rw[←hd'],a',by rw[←hd'];exact hE,hF⟩
end
theorem Ahs{s:ES}{hv:Bool}(h:(C0 s hv).1=false):(C0 s hv).2=(s,hv):=by
 by_cases h1:s.full=true
 ·unfold C0;rw[if_pos h1]
 cases hq:s.queue with
 |nil=>unfold C0;rw[if_neg h1,hq]
 |cons f q=>
  exfalso;revert h;unfold C0;rw[if_neg h1,hq];simp only;split
  ·intro h;cases h
  ·split<;>(intro h;cases h)
theorem Aee:∀(k:Nat) (s:ES) (w:Bool),(Qc k (s,w)).1=true→w=false∧Uv k s∧Hr k s=(Qc k (s,w)).2.1∧(Qc k (s,w)).2.2=false
 |0,s,w,h=>by cases h
 |k+1,s,w,h=>by
  have e:Qc (k+1) (s,w)=if w=true then(false,(s,w))else if(C0 s w).1=true then Qc k (C0 s w).2 else(true,(C0 s w).2):=rfl
  rw[e]at h⊢;cases w with
  |true=>rw[if_pos rfl]at h;cases h
  |false=>
   rw[if_neg (by decide)]at h⊢;cases hc:(C0 s false).1 with
   |true=>
    rw[if_pos hc]at h;rw[if_pos rfl];obtain⟨s',w',hp⟩:∃s' w',(C0 s false).2=(s',w'):=⟨_,_,rfl⟩;rw[hp]at h⊢;obtain⟨h1,h2,h3,h4⟩:=Aee k s' w' h;have hf:(C0 s false).2.2=false:=by rw[hp];exact h1
    obtain⟨_,k1,k2⟩:=X9 hf;rw[hp]at k2;simp only at k2;rw[hc]at k1;refine⟨rfl,⟨Ya hf,fun _=>by rw[←k2];exact h2⟩,?_,h4⟩;show(if(Bs s).1=true then Hr k (Bs s).2 else s)=_;rw[if_pos k1.symm,←k2];exact h3
   |false=>
    rw[if_neg (by decide)];have hp:=Ahs hc;have hf:(C0 s false).2.2=false:=by rw[hp]
    obtain⟨_,k1,_⟩:=X9 hf;rw[hc]at k1;refine⟨rfl,⟨Ya hf,fun h5=>by rw[←k1]at h5;cases h5⟩,?_,hf⟩;show(if(Bs s).1=true then Hr k (Bs s).2 else s)=(C0 s false).2.1;rw[if_neg (by rw[←k1];decide),hp]
structure HIn(me:ByteArray)(B0:List De)(P:ES×List Fa):Prop where
 mi:P.1.me=me
 sub:∀d∈P.1.B,d∈B0
 nd:P.1.B.Nodup
 mem:∀y,y∈P.2↔(y.at'≠me∧(∃d∈B0,d.hd=y)∧¬∃d∈P.1.B,d.hd=y)
theorem Ae9{B:List De}{f:Fa}:(ofF B f).length=0↔¬∃d∈B,d.hd=f:=by
 rw[List.length_eq_zero_iff];unfold ofF;rw[List.filter_eq_nil_iff];simp
theorem Ame{me:ByteArray}{B0:List De}{P:ES×List Fa}{d:De}(h:HIn me B0 P)(hd:d∈P.1.B):HIn me B0 (Ct P d):=by
 have hB:∀e,e∈(P.1.B.filter fun y=>!decide (y=d))↔e∈P.1.B∧e≠d:=fun e=>by
  rw[List.mem_filter];simp
 refine⟨h.mi,fun e he=>h.sub e ((hB e).1 he).1,h.nd.filter _,fun y=>?_⟩;have hm:=h.mem y;have e2:(Ct P d).2=if d.hd.at'≠P.1.me∧(ofF (P.1.B.filter fun y=>!decide (y=d)) d.hd).length=0 then P.2++[d.hd]else P.2:=rfl
 have e1:(Ct P d).1.B=P.1.B.filter fun y=>!decide (y=d):=rfl;rw[e1,e2,h.mi];by_cases hy:d.hd=y
 ·have hno:y∉P.2:=fun hp=>(hm.1 hp).2.2 ⟨d,hd,hy⟩
  have hin:∃e∈B0,e.hd=y:=⟨d,h.sub d hd,hy⟩;by_cases hc:d.hd.at'≠me∧(ofF (P.1.B.filter fun y=>!decide (y=d)) d.hd).length=0
  ·rw[if_pos hc]
   refine⟨fun _=>⟨hy▸hc.1,hin,hy▸Ae9.1 hc.2⟩,fun _=>by rw[hy];simp⟩
  ·rw[if_neg hc]
   refine⟨fun hp=>absurd hp hno,fun hp=>absurd ⟨hy▸hp.1,Ae9.2 (hy▸hp.2.2)⟩ hc⟩
 ·have hex:(∃e∈P.1.B.filter (fun y=>!decide (y=d)),e.hd=y)↔∃e∈P.1.B,e.hd=y:=by
   constructor
   ·rintro⟨e,he,k⟩
    exact⟨e,((hB e).1 he).1,k⟩
   ·rintro⟨e,he,k⟩
    exact⟨e,(hB e).2 ⟨he,fun h'=>hy (by rw[←h'];exact k)⟩,k⟩
  rw[hex,←hm];split
  ·rw[List.mem_append,List.mem_singleton]
   exact⟨fun hp=>hp.elim _root_.id fun e=>absurd e.symm hy,.inl⟩
  ·exact Iff.rfl
theorem Zg{me:ByteArray}{B0:List De}:∀(U:List De) (P:ES×List Fa),HIn me B0 P→U.Nodup→(∀d∈U,d∈P.1.B)→HIn me B0 (U.foldl Ct P)
 | [],P,h,_,_=>h
 |d::U,P,h,hn,hs=>by
  have hn:=List.nodup_cons.1 hn;exact Zg U (Ct P d) (Ame h (hs d (by simp))) hn.2 fun e he=>Wx (hs e (by simp[he])) fun h'=>hn.1 (h'▸he)
theorem An1{me:ByteArray}{B0:List De}{P:ES×List Fa}{g:Fa}(h:HIn me B0 P):HIn me B0 (Cp P g):=by
 unfold Cp;refine Zg _ _ ⟨h.mi,h.sub,h.nd,h.mem⟩ (h.nd.filter _) fun d hd=>(List.mem_filter.1 hd).1
theorem Z3{me:ByteArray}{B0:List De}:∀(G:List Fa) (P:ES×List Fa),HIn me B0 P→HIn me B0 (G.foldl Cp P)
 | [],P,h=>h
 |g::G,P,h=>Z3 G (Cp P g) (An1 h)
theorem W7{s:ES}{y:Fa}:y∈Iw s↔(∃d∈s.B,d.hd=y)∧y.at'≠s.me:=by
 unfold Iw Rn;rw[List.mem_filter,Ax Ah];simp
theorem Aoe{s:ES}(hB:s.B.Nodup)(G:List Fa):Az Al [] ((Iw s).filter fun y=>!decide (y∈Iw (G.foldl Cp (s,[])).1))=Az Al [] (G.foldl Cp (s,[])).2:=by
 have h:=Z3 (me:=s.me) (B0:=s.B) G (s,[]) ⟨rfl,fun d hd=>hd,hB,fun y=>by
  simp only[List.not_mem_nil,false_iff];exact fun⟨_,h1,h2⟩=>h2 h1⟩
 refine Dx Ah (Bg Ah .nil) (Bg Ah .nil) fun y=>?_;rw[Ax Ah,Ax Ah,List.mem_filter,h.mem];simp only[Bool.not_eq_true',decide_eq_false_iff_not,List.not_mem_nil,or_false];rw[W7,W7,h.mi];constructor
 ·rintro⟨⟨h1,h2⟩,h3⟩
  exact⟨h2,h1,fun h4=>h3 ⟨h4,h2⟩⟩
 ·rintro⟨h1,h2,h3⟩
  exact⟨⟨h2,h1⟩,fun h4=>h3 h4.1⟩
theorem An2{s:ES}(hT:Ck Al s.T):Az Al [] (s.T.filter fun y=>!decide (y∈Ca s.B (s.given.filter fun g=>decide (g∈s.T))))=C6 s:=by
 unfold C6 Ls;rw[Hb hT,Hb (hT.filter _)];refine List.filter_congr fun y hy=>?_
 congr 1
 refine decide_eq_decide.2 ?_;rw[List.mem_filter];simp[hy]
theorem Aoc{s:ES}{f:Fa}(hg:Ck Al s.given):Az Al [] (s.given.filter fun y=>!decide (y∈[f]))=(Bp s f).given:=by
 show _=(Az Al [] s.given).filter _;rw[Hb hg,Hb (hg.filter _)]
section
variable{σ:St}{x:Nat}{a:EA}{s:ES}{n:Nat}{hv:Bool}
theorem Ajb{n:Nat}{s:ES}(h:SOk n s):(Iw s).length≤n∧∀y∈Iw s,y.Sm:=by
 have h1:=Bm (c:=Al) (s:=[]) (l:=s.B.map De.hd);have h2:=List.length_filter_le (fun y:Fa=>!decide (y.at'=s.me)) (Rn s.B);have h3:=h.bl;simp only[List.length_nil,List.length_map]at h1;refine⟨by unfold Iw;unfold Rn at h2⊢;omega,fun y hy=>?_⟩;obtain⟨⟨d,hd,e⟩,_⟩:=W7.1 hy;rw[←e];exact(h.bs d hd).1
set_option maxHeartbeats 1600000 in
theorem Ac5(h:EV true σ x a s hv)(hs:SOk n s)(hn:n≤800000000000)(f:Fa)(hfs:f.Sm):
  AT Tryz.prog 44 [ptr x,.agg f.cs] σ fun r σ'=>r=int (Gs s f).1∧∃a',EV true σ' x a' (Gs s f).2 hv∧Frm x a a' σ σ':=by
 refine AT.ob Tryz.func44 rfl ?_;simp only[go_sem];refine Ctx.nil.alloc fun p σ2 c2=>?_;have hp:=c2.g0;have hsb:=c2.sub;clear c2;have h2:=h.more hsb;have hx2:=h2.cx;have hgl:=hs.gl;have hgs:=h2.gsl;simp only[go_sem];refine Ag [.rd 0 false,.rd 1 false,.rd 2 false,.rd 3 true,.rd 4 true,.ef 5 [],.rd 6 false] ?_;simp only[go_sem,hp,hx2,hgs];refine(Ej s.given f (by omega) hs.gs hfs).p ?_;by_cases hin:f∈s.given
 case neg=>
  have e:Gs s f=(152,s):=by unfold Gs;rw[if_neg hin]
  simp only[go_sem,decide_eq_false hin];exact Ad (r:=int 152) rfl ⟨by rw[e],a,by rw[e];exact h2,.of hsb⟩
 simp only[go_sem,decide_eq_true hin];refine Ag [.rd 0 false,.rd 1 false,.rd 2 false,.rd 3 false,.rd 4 true,.rd 5 true,.rd 6 false,.ef 7 [],.rd 8 false,.rd 9 false,.ef 10 []] ?_;simp only[go_sem,hp,hx2,hgs];refine(AT.weak (Mm s.given [f] (by omega) hs.gs (by simp) (fun y hy=>by rw[List.mem_singleton.1 hy];exact hfs)) (vws_same Om)).p ?_;rw[Aoc hs.gr];obtain⟨kE,kF⟩:=h2.setH (l:=(Bp s f).given);have esp:A0 (evC true s a hv) 5 [.sl 4 (faC (Bp s f).given)]=evC true (Bp s f) {a with gv:=.sl 4 (faC (Bp s f).given)} hv:=rfl;simp only[go_sem,Aa,hx2,esp,kE.all1];have F3:=(Frm.of hsb).trans kF;obtain⟨s1,hs1⟩:∃s1:ES,s1=Bp s f:=⟨_,rfl⟩;rw[show({s with given:=(Bp s f).given}:ES)=s1 from hs1.symm,←hs1]at kE F3;rw[←hs1];obtain⟨a1,ha1⟩:∃a1:EA,a1={a with gv:=.sl 4 (faC s1.given)}:=⟨_,rfl⟩;rw[←ha1]at kE F3⊢;have O1:SOk n s1:=by rw[hs1];exact Xh hs
 have hd:Gs s f=(0,{((C6 s1).foldl Cp (s1,[])).1 with outs:=((C6 s1).foldl Cp (s1,[])).1.outs++(Az Al [] ((C6 s1).foldl Cp (s1,[])).2).map fun y=>(y,true)}):=by unfold Gs;rw[if_pos hin,hs1]
 clear kF hx2 hp hs1 ha1;generalize σ2.set x (.cells (evC true s1 a1 hv))=σ4 at kE F3⊢;have hx4:=kE.cx;have gl4:=O1.gl;have hg4:=kE.gsl;have ht4:σ4 a1.t=some (.cells [.sl 4 (faC s1.T),int s1.lim]):=kE.ct;have htl:=O1.tok.len;obtain⟨W,hW⟩:∃W,W=s1.given:=⟨_,rfl⟩;refine⟨fun m fr σ'=>∃(i:Nat) (lv:AV),m=W.length-i∧i≤W.length∧LAt 4 σ' lv (faC ((W.take i).filter fun g=>decide (g∈s1.T)))∧B9 σ4 σ' lv∧fr 0=ptr x∧fr 5=lv∧fr 6=int i,⟨_,0,A4,rfl,by omega,.none,.nil,rfl,rfl,rfl⟩,?_⟩;rintro m fr σ5 ⟨i,lv,rfl,hi,hL,hG,f0,f5,f6⟩;have E5:=kE.more hG.sub;have hx5:=E5.cx;have ht5:=hG.sub _ _ ht4;rw[←hW]at hg4;rw[←hW]at gl4;simp only[go_sem,f0,f6,hx5,hg4,Am];refine aIf_by (fun hlt=>?_) (fun hlt=>?_)
 ·have hil:i<W.length:=by omega
  have hsm:=O1.gs W[i] (by rw[←hW];exact List.getElem_mem hil);have et:=Iu (p:=fun g=>decide (g∈s1.T)) hil;have nx:=Au i (by omega);simp only[go_sem,Aa];refine Ag [.rd 0 false,.rd 1 false,.rd 2 false,.rd 3 true,.rd 4 false,.rd 5 false,.rd 6 true,.rd 7 false,.rd 8 false,.rd 9 false,.rd 10 true,.rd 11 false,.rd 12 false,.rd 13 true,.ef 14 []] ?_;simp only[go_sem,Aa,f0,f6,hx5,hg4,ht5,Aq hil,Am];refine⟨by omega,(Ej s1.T W[i] (by omega) O1.tok.sm hsm).p ?_⟩;by_cases hm:W[i]∈s1.T
  ·rw[if_pos (decide_eq_true hm)]at et
   have tl:((W.take i).filter fun g=>decide (g∈s1.T)).length≤W.length:=Nh;simp only[go_sem,Aa,decide_eq_true hm,f0,f5,f6,hx5,hg4,Aq hil,Am];refine⟨by omega,?_⟩;refine Ap (ys:=[W[i].cs]) rfl (by decide) (by decide) (by decide) (hL.app (by rw[Am];simp only[List.length_cons,List.length_nil];omega) fun lv' σ6 hL5 hs5=>?_);have e5:faC ((W.take i).filter fun g=>decide (g∈s1.T))++[W[i].cs]=faC ((W.take (i+1)).filter fun g=>decide (g∈s1.T)):=by rw[et];simp[faC]
   rw[e5]at hL5;simp only[go_sem,Aa,f6,nx];exact⟨W.length-(i+1),by omega,i+1,lv',rfl,by omega,hL5,hG.step hs5,f0,rfl,rfl⟩
  ·rw[if_neg (by simpa using hm),List.append_nil]at et
   simp only[go_sem,Aa,decide_eq_false hm,f6,nx];exact⟨W.length-(i+1),by omega,i+1,lv,rfl,by omega,by rw[et];exact hL,hG,f0,f5,rfl⟩
 ·rw[List.take_of_length_le (by omega)]at hL
  simp only[go_sem,Aa,f0,f5,hx5];have nlv:∀y,Bn x a1 y→¬Own lv y:=fun y hf=>by
   obtain⟨o,hy⟩:=If kE hf;exact(hG y o hy).2
  obtain⟨σ6,e6⟩:∃σ6,σ6=St.free σ5 lv:=⟨_,rfl⟩;have E6:EV true σ6 x a1 s1 hv:=E5.keep fun y o hy hf=>by rw[e6,I5 (nlv y hf)];exact hy
  have F6:Frm x a a1 σ σ6:=F3.trans fun y o hy hn=>⟨by rw[e6,I5 (hG y o hy).2];exact(hG y o hy).1,hn⟩;obtain⟨bs,hbs⟩:∃bs,bs=W.filter fun g=>decide (g∈s1.T):=⟨_,rfl⟩;have hbl:bs.length≤W.length:=by rw[hbs];exact List.length_filter_le _ _
  have hbm:∀y∈bs,y.Sm:=fun y hy=>O1.gs y (by rw[hbs]at hy;rw[←hW];exact(List.mem_filter.1 hy).1);have hb6:RK σ6 a1.b s1.B:=E6.cb;have hbk:=O1.bok (by omega);have hbl2:=O1.bl;rw[←hbs]at hL;refine AT.pre (args':=[ptr a1.b,.sl 4 (faC bs)]) ((Aat (e6▸hb6) hbk bs (by omega) hbm).mono ?_) (by kernel_rfl) Afx (vws_same (vws_cons hL.vw_free By));rintro _ _ ⟨rfl,rfl⟩;rw[←e6];clear e6 E5 hx5 ht5 hL hG nlv kE F3 hx4 ht4;have hx6:=E6.cx;have ht6:σ6 a1.t=some (.cells [.sl 4 (faC s1.T),int s1.lim]):=E6.ct;have ly:=Nj s1.B bs;have lyl:=ly.len;have lys:∀y∈Ca s1.B bs,y.Sm:=fun y hy=>by
   rcases ly.own y hy with hy|⟨d,hd,e⟩
   ·exact hbm y hy
   ·rw[←e];exact(O1.bs d hd).1
  simp only[go_sem,Aa,f0,hx6,ht6];refine(Mm s1.T (Ca s1.B bs) (by omega) O1.tok.sm (by omega) lys).p ?_;rw[hbs,hW,An2 O1.tok.rises];simp only[go_sem,Aa,f0];refine(Rc E6 O1 hn).p ?_;obtain⟨G,hG⟩:∃G,G=C6 s1:=⟨_,rfl⟩;rw[←hG]at hd⊢
  have hGs:∀y∈G,y.Sm:=fun y hy=>O1.tok.sm y (by
   rw[hG]at hy;have:=(List.mem_filter.1 hy).1;rw[Ax Ah]at this;simpa using this)
  have gl:G.length≤1000000:=by
   rw[hG];have h1:=List.length_filter_le (fun y=>!decide (y∈Ls s1)) (Az Al [] s1.T);have h2:=Bm (c:=Al) (s:=[]) (l:=s1.T);simp only[List.length_nil]at h2;unfold C6;omega
  have g0:GOk n (s1,[]):=⟨O1,by have:=O1.bo;show s1.B.length+s1.outs.length+0≤n;omega,fun y hy=>by cases hy⟩;have fcl:=Am G;obtain⟨was,hwas⟩:∃was,was=Iw s1:=⟨_,rfl⟩;have hws:=Ajb O1;rw[←hwas]at hws⊢;simp only[go_sem,Aa];refine⟨fun m fr σ'=>∃(i:Nat) (P:ES×List Fa),m=G.length-i∧i≤G.length∧P=(G.take i).foldl Cp (s1,[])∧GOk n P∧EV true σ' x a1 P.1 hv∧Frm x a a1 σ σ'∧fr 0=ptr x∧fr 8= .sl 4 (faC G)∧fr 9= .sl 4 (faC was)∧fr 10=int i,⟨_,0,(s1,[]),rfl,by omega,rfl,g0,E6,F6,f0,rfl,rfl,rfl⟩,?_⟩;clear g0 E6 F6 hx6 ht6 f0 f5 f6 hb6;rintro m fr σ2 ⟨i,P,rfl,hi,hP,hO,hE,hF,f0,f8,f9,f10⟩;simp only[go_sem,f8,f10,fcl];refine aIf_by (fun hlt=>?_) (fun hlt=>?_)
  case' refine_1=>
   have hil:i<G.length:=by omega
   have hgs:=hGs _ (List.getElem_mem hil);obtain⟨g,hg⟩:∃g,g=G[i]:=⟨_,rfl⟩;rw[←hg]at hgs;have gg:(faC G).getD i []=g.cs:=by rw[hg];exact Aq hil
   have hx4:=hE.cx;simp only[go_sem,Aa];refine Ag [.rd 0 false,.rd 1 false,.rd 2 false,.rd 3 true,.rd 4 false,.rd 5 false,.rd 6 false,.rd 7 true,.ef 8 []] ?_;simp only[go_sem,Aa,f0,f8,f10,hx4,gg,fcl];refine⟨by omega,(Ak9 (t:=a1.t) hE.ct hO.ok.tok g hgs).mono ?_⟩;rintro _ σ5 ⟨rfl,rfl⟩;have hE1:EV true (σ2.set a1.t (tbC (Hd P.1.T g).1 P.1.lim)) x a1 (Q3 P g).1 hv:=hE.setT;have hF1:Frm x a a1 σ (σ2.set a1.t (tbC (Hd P.1.T g).1 P.1.lim)):=hF.trans .setT;have hO1:=Ado (g:=g) hO;obtain⟨P1,hP1⟩:∃P1,P1=Q3 P g:=⟨_,rfl⟩;have hB1:P1.1.B=P.1.B:=by rw[hP1];rfl
   rw[←hP1]at hE1 hO1;generalize σ2.set a1.t (tbC (Hd P.1.T g).1 P.1.lim)=σ5 at hE1 hF1⊢;clear hE hF hx4;have hx5:=hE1.cx;have hb5:RK σ5 a1.b P1.1.B:=hE1.cb;simp only[go_sem,Aa];refine Ag [.rd 0 false,.rd 1 false,.rd 2 false,.rd 3 true,.rd 4 false,.rd 5 false,.rd 6 false,.rd 7 true,.ef 8 [],.rd 9 false] ?_;simp only[go_sem,Aa,f0,f8,f10,hx5,gg,fcl];refine⟨by omega,(Alb hb5 (hO1.ok.bok (by omega)) g hgs).p ?_⟩;obtain⟨U,hU⟩:∃U,U=Ps P1.1.B g:=⟨_,rfl⟩;have hUm:∀d∈U,d∈P1.1.B:=fun d hd=>by rw[hU]at hd;exact(List.mem_filter.1 hd).1
   have hUn:U.Nodup:=by rw[hU];exact(I6 A7 hO1.ok.br).filter _
   have hUl:U.length≤800000000000:=by
    have h1:=List.length_filter_le (fun d:De=>decide (g∈d.bo)) P1.1.B;have h2:=hO1.ok.bl;rw[hU];unfold Ps;omega
   have hUs:∀d∈U,d.Sm:=fun d hd=>hO1.ok.bs d (hUm d hd);have es1:U.foldl Ct P1=Cp P g:=by unfold Cp;rw[hU,hP1];rfl
   rw[←hU];have dcl:=As U;simp only[go_sem,Aa];refine⟨fun m fr σ'=>∃(k:Nat) (P2:ES×List Fa),m=U.length-k∧k≤U.length∧P2=(U.take k).foldl Ct P1∧GOk n P2∧EV true σ' x a1 P2.1 hv∧Frm x a a1 σ σ'∧fr 0=ptr x∧fr 8= .sl 4 (faC G)∧fr 9= .sl 4 (faC was)∧fr 10=int i∧fr 11= .sl 6 (deC U)∧fr 12=int k,⟨_,0,P1,rfl,by omega,rfl,hO1,hE1,hF1,f0,f8,f9,f10,rfl,rfl⟩,?_⟩;clear hE1 hF1 hx5 hb5 f0 f8 f9 f10;rintro m fr σ2 ⟨k,P2,rfl,hk,hP2,hO2,hE2,hF2,f0,f8,f9,f10,f11,f12⟩;simp only[go_sem,f11,f12,dcl];refine aIf_by (fun hlt=>?_) (fun hlt=>?_)
   case' refine_2=>
    have ek:k=U.length:=by omega
    have eP:P2=(G.take (i+1)).foldl Cp (s1,[]):=by rw[hP2,ek,List.take_length,es1,Mg _ hil,←hP,hg]
    simp only[go_sem,Aa,f10,Au i (by omega)];exact⟨G.length-(i+1),by omega,i+1,P2,rfl,by omega,eP,hO2,hE2,hF2,f0,f8,f9,rfl⟩
   have hkl:k<U.length:=by omega
   obtain⟨d,hdd⟩:∃d,d=U[k]:=⟨_,rfl⟩;have hdm:d∈U:=by rw[hdd];exact List.getElem_mem hkl
   have hds:=hUs d hdm;have hdB:d∈P2.1.B:=by
    rw[hP2];exact S2 _ _ (hUm d hdm) (by rw[hdd];exact Ae4 hUn hkl)
   have dg:(deC U).getD k []=d.cs:=by rw[hdd];exact Ch hkl
   have e2:Ct P2 d=(U.take (k+1)).foldl Ct P1:=by rw[Mg _ hkl,←hP2,hdd]
   have hO3:=Abw hO2 hdB;have hx4:=hE2.cx;simp only[go_sem,Aa];refine Ag [.rd 0 false,.rd 1 false,.rd 2 false,.rd 3 true,.rd 4 false,.rd 5 false,.rd 6 false,.rd 7 true,.ef 8 []] ?_;simp only[go_sem,Aa,f0,f11,f12,hx4,dg,dcl];refine⟨by omega,(Akz (t:=a1.b) hE2.cb (hO2.ok.bok (by omega)) d hds).mono ?_⟩;rintro _ σ5 ⟨rfl,rfl⟩;have hE3:EV true (σ2.set a1.b (rkC (P2.1.B.filter fun y=>!decide (y=d)))) x a1 (Ct P2 d).1 hv:=hE2.setB;have hF3:Frm x a a1 σ (σ2.set a1.b (rkC (P2.1.B.filter fun y=>!decide (y=d)))):=hF2.trans .setB;simp only[go_sem,Aa,f12,Au k (by omega)];exact⟨U.length-(k+1),by omega,k+1,Ct P2 d,rfl,by omega,e2,hO3,hE3,hF3,f0,f8,f9,f10,f11,rfl⟩
  have ei:i=G.length:=by omega
  rw[ei,List.take_length]at hP;simp only[go_sem,Aa,f0,f9];refine(Rc hE hO.ok hn).p ?_;have hws2:=Ajb hO.ok;simp only[go_sem,Aa,f9];refine(Mm was (Iw P.1) (by omega) hws.2 (by omega) hws2.2).p ?_;rw[hwas,hP,Aoe (I6 A7 O1.br) G,←hP];rw[←hP]at hd;obtain⟨H,hH⟩:∃H,H=Az Al [] P.2:=⟨_,rfl⟩;rw[←hH]at hd⊢;have Hl:H.length≤P.2.length:=by
   have:=Bm (c:=Al) (s:=[]) (l:=P.2);rw[←hH]at this;simp only[List.length_nil]at this;omega
  have hcl:=Am H;have hle:=hO.le;obtain⟨z,hz⟩:∃z,z=P.1.outs:=⟨_,rfl⟩;have hzl:z.length+P.2.length≤n:=by rw[hz];omega
  simp only[go_sem,Aa];refine⟨fun m fr σ'=>∃(k:Nat) (a':EA) (s':ES),m=H.length-k∧k≤H.length∧s'={P.1 with outs:=z++(H.take k).map fun y=>(y,true)}∧EV true σ' x a' s' hv∧Frm x a a' σ σ'∧fr 0=ptr x∧fr 13= .sl 4 (faC H)∧fr 14=int k,⟨_,0,a1,P.1,rfl,by omega,by rw[hz];simp,hE,hF,f0,rfl,rfl⟩,?_⟩;clear hE hF f0 f8 f9 f10;rintro m fr σ2 ⟨k,a',s',rfl,hk,hs',E2,F2,f0,f13,f14⟩;simp only[go_sem,f13,f14,hcl];refine aIf_by (fun hlt=>?_) (fun hlt=>?_)
  case' refine_2=>
   have ek:k=H.length:=by omega
   rw[ek,List.take_length,hz]at hs';simp only[go_sem,Aa];exact Ad (r:=int 0) rfl ⟨by rw[hd],a',by rw[hd,←hs'];exact E2,F2⟩
  have hkl:k<H.length:=by omega
  obtain⟨g,hg⟩:∃g,g=H[k]:=⟨_,rfl⟩;have gg:(faC H).getD k []=g.cs:=by rw[hg];exact Aq hkl
  have hx4:=E2.cx;have ol:s'.outs.length=z.length+k:=by rw[hs'];simp;omega
  simp only[go_sem,Aa];refine Ag [.rd 0 false,.rd 1 false,.rd 2 false,.rd 3 false,.rd 4 true,.rd 5 false,.rd 6 false,.rd 7 false,.rd 8 true,.rd 9 false,.rd 10 false,.ef 11 [],.rd 12 false,.rd 13 false,.ef 14 []] ?_;simp only[go_sem,Aa,f0,f13,f14,hx4,gg,hcl];refine⟨by omega,Nat.le_refl 5,rfl,rfl,?_⟩;refine Ap (ys:=[g.cs++[boo true]]) rfl (by decide) (by decide) (by decide) (E2.co.app (by rw[R2,ol];simp only[List.length_cons,List.length_nil];omega) fun v' σ5 k1 k2=>?_);rw[show ouC s'.outs++[g.cs++[boo true]]=ouC (s'.outs++[(g,true)]) by simp[ouC]]at k1;obtain⟨kx,kE,kF⟩:=E2.setO k1 k2;have esp:A0 (evC true s' a' hv) 7 [v']=evC true {s' with outs:=s'.outs++[(g,true)]} {a' with ov:=v'} hv:=rfl;have e5:({s' with outs:=s'.outs++[(g,true)]}:ES)={P.1 with outs:=z++(H.take (k+1)).map fun y=>(y,true)}:=by
   rw[hs',List.take_add_one,List.getElem?_eq_getElem hkl,hg];simp only[List.map_append,Option.toList,List.map_cons,List.map_nil,List.append_assoc]
  simp only[go_sem,Aa,kx,k1.one,k1.cells,esp,kE.all1,f14,Au k (by omega)];exact⟨H.length-(k+1),by omega,k+1,_,_,rfl,by omega,e5,kE,F2.trans kF,f0,f13,rfl⟩
end
structure K3(s s':ES):Prop where
 me:s'.me=s.me
 names:s'.names=s.names
 rules:s'.rules=s.rules
 lim:s'.lim=s.lim
theorem K3.refl(s:ES):K3 s s:=⟨rfl,rfl,rfl,rfl⟩
theorem K3.trans{s s' s'':ES}(h:K3 s s')(k:K3 s' s''):K3 s s'':=⟨k.me.trans h.me,k.names.trans h.names,k.rules.trans h.rules,k.lim.trans h.lim⟩
theorem Vi(s:ES)(f:Fa):K3 s (Ec s f).2:=by
 unfold Ec
 repeat' split
 all_goals exact⟨rfl,rfl,rfl,rfl⟩
theorem Xf{n g:Nat}{s:ES}{f:Fa}(h:SOk n s)(hg:s.given.length≤g)(g1:g+1≤1000000):SOk (n+1) (Ec s f).2∧(Ec s f).2.given.length≤g+1:=by
 unfold Ec;split
 ·rename_i hf
  split
  ·split
   ·exact⟨h.le (by omega),Nat.le_trans hg (Nat.le_succ g)⟩
   ·have h2:=Bm (c:=Al) (s:=[]) (l:=s.given++[f])
    simp only[List.length_nil,List.length_append,List.length_cons]at h2;have hsm:=Xm hf;have hgl:(Az Al [] (s.given++[f])).length≤g+1:=by omega
    refine⟨{h.le (show n≤n+1 by omega)with ql:=?_,qs:=fun y hy=>?_,gr:=Bg Ah .nil,gl:=(by show(Az Al [] (s.given++[f])).length≤1000000;omega),gs:=fun y hy=>?_},hgl⟩
    ·show(s.queue++[f]).length≤n+1
     have:=h.ql;simp only[List.length_append,List.length_cons,List.length_nil];omega
    ·rcases List.mem_append.1 hy with hy|hy
     ·exact h.qs y hy
     ·rw[List.mem_singleton.1 hy];exact hsm
    ·rcases(Ax Ah).1 hy with hy|hy
     ·rcases List.mem_append.1 hy with hy|hy
      ·exact h.gs y hy
      ·rw[List.mem_singleton.1 hy];exact hsm
     ·cases hy
  ·exact⟨h.le (by omega),Nat.le_trans hg (Nat.le_succ g)⟩
 ·exact⟨h.le (by omega),Nat.le_trans hg (Nat.le_succ g)⟩
theorem Aeg{n:Nat}:∀(l:List De) (p:ES×List Fa),l.Nodup→(∀d∈l,d∈p.1.B)→GOk n p→GOk n (l.foldl Ct p)
 | [],p,_,_,h=>h
 |d::l,p,hn,hm,h=>by
  obtain⟨n1,n2⟩:=List.nodup_cons.1 hn;exact Aeg l (Ct p d) n2 (fun e he=>Wx (hm e (by simp[he])) fun e'=>n1 (e'▸he)) (Abw h (hm d (by simp)))
theorem Arh{n:Nat}{p:ES×List Fa}{g:Fa}(h:GOk n p):GOk n (Cp p g):=
 Aeg _ _ ((I6 A7 h.ok.br).filter _) (fun d hd=>(List.mem_filter.1 hd).1) (Ado h)
theorem Aes{n:Nat}:∀(l:List Fa) (p:ES×List Fa),GOk n p→GOk n (l.foldl Cp p)
 | [],p,h=>h
 |g::l,p,h=>Aes l (Cp p g) (Arh h)
theorem Qd:∀(l:List De) (p:ES×List Fa),K3 p.1 (l.foldl Ct p).1∧(l.foldl Ct p).1.given=p.1.given∧(l.foldl Ct p).1.queue=p.1.queue∧(l.foldl Ct p).1.T=p.1.T∧(l.foldl Ct p).1.full=p.1.full∧(l.foldl Ct p).1.outs=p.1.outs
 | [],p=>⟨.refl _,rfl,rfl,rfl,rfl,rfl⟩
 |d::l,p=>by
  obtain⟨h1,h2,h3,h4,h5,h6⟩:=Qd l (Ct p d);exact⟨K3.trans (s':=(Ct p d).1) ⟨rfl,rfl,rfl,rfl⟩ h1,h2,h3,h4,h5,h6⟩
theorem Qo:∀(l:List Fa) (p:ES×List Fa),K3 p.1 (l.foldl Cp p).1∧(l.foldl Cp p).1.given=p.1.given∧(l.foldl Cp p).1.queue=p.1.queue∧(l.foldl Cp p).1.full=p.1.full∧(l.foldl Cp p).1.outs=p.1.outs
 | [],p=>⟨.refl _,rfl,rfl,rfl,rfl⟩
 |g::l,p=>by
  obtain⟨h1,h2,h3,h4,h5⟩:=Qo l (Cp p g);obtain⟨k1,k2,k3,_,k4,k5⟩:=Qd (Ps p.1.B g) (Q3 p g);exact⟨K3.trans (s':=(Cp p g).1) (K3.trans (s':=(Q3 p g).1) ⟨rfl,rfl,rfl,rfl⟩ k1) h1,h2.trans k2,h3.trans k3,h4.trans k4,h5.trans k5⟩
theorem U3(s:ES)(f:Fa):K3 s (Gs s f).2:=by
 unfold Gs;split
 ·have:=(Qo (C6 (Bp s f)) (Bp s f,[])).1
  exact⟨this.me,this.names,this.rules,this.lim⟩
 ·exact .refl s
theorem Ad2{n g:Nat}{s:ES}{f:Fa}(h:SOk n s)(hg:s.given.length≤g):SOk n (Gs s f).2∧(Gs s f).2.given.length≤g:=by
 unfold Gs;split
 ·have G0:GOk n (Bp s f,[]):=⟨Xh h,by have:=h.bo;exact this,fun y hy=>by cases hy⟩
  have G:=Aes (C6 (Bp s f)) _ G0;obtain⟨_,e1,_⟩:=Qo (C6 (Bp s f)) (Bp s f,[]);generalize (C6 (Bp s f)).foldl Cp (Bp s f,[])=p at G e1;have h2:=Bm (c:=Al) (s:=[]) (l:=p.2);have h3:=G.le;simp only[List.length_nil]at h2;refine⟨{G.ok with bo:=?_,os:=fun o ho=>?_},?_⟩
  ·show p.1.B.length+(p.1.outs++(Az Al [] p.2).map fun y=>(y,true)).length≤n
   rw[List.length_append,List.length_map];omega
  ·rcases List.mem_append.1 ho with ho|ho
   ·exact G.ok.os o ho
   ·obtain⟨y,hy,rfl⟩:=List.mem_map.1 ho
    rcases(Ax Ah).1 hy with hy|hy
    ·exact G.sm y hy
    ·cases hy
  ·show p.1.given.length≤g
   rw[e1];have h1:=List.length_filter_le (fun y=>!decide (y∈[f])) (Az Al [] s.given);have h2:=Bm (c:=Al) (s:=[]) (l:=s.given);simp only[List.length_nil]at h2;show((Az Al [] s.given).filter fun y=>!decide (y∈[f])).length≤g;omega
 ·exact⟨h,hg⟩
theorem J5(s:ES):K3 s (Bs s).2∧(Bs s).2.given=s.given:=by
 unfold Bs;split
 ·exact⟨.refl s,rfl⟩
 split
 ·exact⟨.refl s,rfl⟩
 rename_i f q hq;split
 ·exact⟨⟨rfl,rfl,rfl,rfl⟩,rfl⟩
 split
 ·have k:=J2 s.me f (Ce s.T s.lim f).1 s.rules {s with queue:=q,T:=(Ce s.T s.lim f).1} s.rules.length
  exact⟨⟨k.me,k.names,k.rules,k.lim⟩,k.given⟩
 ·exact⟨⟨rfl,rfl,rfl,rfl⟩,rfl⟩
theorem U6:∀(k:Nat) (s:ES),K3 s (Hr k s)∧(Hr k s).given=s.given
 |0,s=>⟨.refl s,rfl⟩
 |k+1,s=>by
  show K3 s (if(Bs s).1=true then Hr k (Bs s).2 else s)∧(if(Bs s).1=true then Hr k (Bs s).2 else s).given=s.given;split
  ·obtain⟨h1,h2⟩:=U6 k (Bs s).2
   obtain⟨k1,k2⟩:=J5 s;exact⟨k1.trans h1,h2.trans k2⟩
  ·exact⟨.refl s,rfl⟩
theorem Aef:∀(k:Nat) {n:Nat} {s:ES},SOk n s→Cr s.rules s.rules.length≤80→Uv k s→SOk (n+k*4800160) (Hr k s)∧H5 (Hr k s)∧(Bs (Hr k s)).1=false
 |0,n,s,h,hl,hd=>⟨h.le (by omega),hd.1,hd.2⟩
 |k+1,n,s,h,hl,hd=>by
  show SOk _ (if(Bs s).1=true then Hr k (Bs s).2 else s)∧H5 (if(Bs s).1=true then Hr k (Bs s).2 else s)∧(Bs (if(Bs s).1=true then Hr k (Bs s).2 else s)).1=false;split
  ·rename_i hc
   obtain⟨k1,k2⟩:=J5 s;have h1:=(Ud h hd.1).le (m:=n+4800160) (by omega);obtain⟨j1,j2,j3⟩:=Aef k h1 (by rw[k1.rules];exact hl) (hd.2 hc);exact⟨j1.le (by omega),j2,j3⟩
  ·rename_i hc
   exact⟨h.le (by omega),hd.1,by simpa using hc⟩
structure Both(σ:St)(x:Nat)(a:EA)(y:Nat)(b:EA)(s:ES):Prop where
 ex:EV false σ x a s false
 ey:EV true σ y b s false
 dj:∀z,Bn x a z→¬Bn y b z
theorem EV.stay{r:Bool}{σ σ':St}{x y:Nat}{a a' b:EA}{t:ES}{hv:Bool}(h:EV r σ y b t hv)(F:Frm x a a' σ σ')(dj:∀z,Bn y b z→¬Bn x a z):EV r σ' y b t hv∧∀z,Bn y b z→¬Bn x a' z:=
 ⟨h.keep fun z o hz hf=>(F z o hz (dj z hf)).1,fun z hf=>by
  obtain⟨o,ho⟩:=If h hf;exact(F z o ho (dj z hf)).2⟩
theorem Both.more{σ σ':St}{x y:Nat}{a b:EA}{s:ES}(h:Both σ x a y b s)(hs:∀z o,σ z=some o→σ' z=some o):Both σ' x a y b s:=⟨h.ex.more hs,h.ey.more hs,h.dj⟩
def Jd(s:ES)(a:Ac):ES:=if a.k=0 then(Ec s a.f).2 else if a.k=1 then(Gs s a.f).2 else if a.k=2 then(Bs s).2 else s
def Gh(l:List Ac)(s:ES):ES:=l.foldl Jd s
theorem Q0{l:List Ac}{i:Nat}(s:ES)(h:i<l.length):Gh (l.take (i+1)) s=Jd (Gh (l.take i) s) l[i]:=by
 unfold Gh;rw[List.take_add_one,List.getElem?_eq_getElem h];simp only[Option.toList,List.foldl_append,List.foldl_cons,List.foldl_nil]
theorem U0(s:ES)(a:Ac):K3 s (Jd s a):=by
 unfold Jd
 repeat' split
 ·exact Vi s a.f
 ·exact U3 s a.f
 ·exact(J5 s).1
 ·exact .refl s
theorem Mo:∀(l:List Ac) (s:ES),K3 s (Gh l s)
 | [],s=>.refl s
 |a::l,s=>(U0 s a).trans (Mo l (Jd s a))
theorem Adw{n g:Nat}{s:ES}{a:Ac}(h:SOk n s)(hg:s.given.length≤g)(g1:g+1≤1000000)(hl:Cr s.rules s.rules.length≤80)(hw:a.k=2→H5 s):SOk (n+4800320) (Jd s a)∧(Jd s a).given.length≤g+1:=by
 unfold Jd;split
 ·have:=Xf (f:=a.f) h hg g1
  exact⟨this.1.le (by omega),this.2⟩
 ·split
  ·have:=Ad2 (f:=a.f) h hg
   exact⟨this.1.le (by omega),by omega⟩
  ·split
   ·rename_i h2
    have h1:=Ud h (hw h2);refine⟨h1.le ?_,by rw[(J5 s).2];omega⟩;exact Nat.add_le_add_left (Nat.le_trans (Nat.mul_le_mul hl (Nat.le_refl 60002)) (by decide)) n
   ·exact⟨h.le (by omega),by omega⟩
theorem Aqh(s:ES):(Bs s).2.T.length≤s.T.length+1∧(Bs s).2.lim=s.lim:=by
 refine⟨?_,(J5 s).1.lim⟩;have hp:∀f,(Ce s.T s.lim f).1.length≤s.T.length+1:=fun f=>by
  unfold Ce
  repeat' split
  ·simp
  ·simp
  ·exact Kp
  ·simp
 unfold Bs;split
 ·exact Nat.le_succ _
 split
 ·exact Nat.le_succ _
 rename_i f q hq;split
 ·exact Nat.le_succ _
 split
 ·rw[(J2 s.me f (Ce s.T s.lim f).1 s.rules {s with queue:=q,T:=(Ce s.T s.lim f).1} s.rules.length).T]
  exact hp f
 ·exact hp f
theorem Al7(s:ES)(f:Fa):(Gs s f).2.T.length≤s.T.length:=by
 have key:∀(G:List Fa) (p:ES×List Fa),(G.foldl Cp p).1.T.length≤p.1.T.length:=fun G=>by
  induction G with
  |nil=>exact fun _=>Nat.le_refl _
  |cons g G ih=>
   intro p;refine Nat.le_trans (ih (Cp p g)) ?_;show((Ps p.1.B g).foldl Ct (Q3 p g)).1.T.length≤_;rw[(Qd (Ps p.1.B g) (Q3 p g)).2.2.2.1];show(Hd p.1.T g).1.length≤_;unfold Hd;split
   ·exact List.length_filter_le _ _
   ·exact Nat.le_refl _
 unfold Gs;split
 ·exact key (C6 (Bp s f)) (Bp s f,[])
 ·exact Nat.le_refl _
structure Way(n:Nat)(s:ES):Prop where
 inv:Inv s
 full:s.full=false
 T:s.T.length≤n
theorem Way.step{n:Nat}{s:ES}(h:Way n s)(hl:(n:Int)<s.lim):Way (n+1) (Bs s).2:=by
 obtain⟨h1,h2⟩:=An8 h.inv (.inl (by have:=h.T;omega)) h.full;exact⟨h1,h2,Nat.le_trans (Aqh s).1 (by have:=h.T;omega)⟩
theorem Way.le{n m:Nat}{s:ES}(h:Way n s)(hm:n≤m):Way m s:=⟨h.inv,h.full,Nat.le_trans h.T hm⟩
theorem Way.act{n:Nat}{s:ES}(h:Way n s)(hl:(n:Int)<s.lim)(a:Ac):Way (n+1) (Jd s a):=by
 unfold Jd;split
 ·refine⟨Ajp h.inv a.f,?_,?_⟩
  ·unfold Ec
   repeat' split
   all_goals exact h.full
  ·have:(Ec s a.f).2.T=s.T:=by
    unfold Ec
    repeat' split
    all_goals rfl
   rw[this];have:=h.T;omega
 ·split
  ·obtain⟨h1,h2⟩:=An6 h.inv a.f
   exact⟨h1,h2.trans h.full,Nat.le_trans (Al7 s a.f) (by have:=h.T;omega)⟩
  ·split
   ·exact h.step hl
   ·exact h.le (Nat.le_succ n)
theorem Way.run:∀(l:List Ac) {n:Nat} {s:ES},Way n s→(n:Int)+l.length≤s.lim→Way (n+l.length) (Gh l s)
 | [],n,s,h,_=>h
 |a::l,n,s,h,hl=>by
  simp only[List.length_cons]at hl⊢;have:=Way.run l (h.act (by omega) a) (by rw[(U0 s a).lim];omega);exact this.le (by omega)
theorem Way.drn:∀(k:Nat) {n:Nat} {s:ES},Way n s→(n:Int)+k≤s.lim→Way (n+k) (Hr k s)
 |0,n,s,h,_=>h
 |k+1,n,s,h,hl=>by
  show Way _ (if(Bs s).1=true then Hr k (Bs s).2 else s);split
  ·have:=Way.drn k (h.step (by omega)) (by rw[(Aqh s).2];omega)
   exact this.le (by omega)
  ·exact h.le (by omega)
theorem Ao0{s:ES}(h:(Bs s).1=false)(hf:s.full=false):s.queue=[]:=by
 cases hq:s.queue with
 |nil=>rfl
 |cons f q=>
  exfalso;revert h;unfold Bs;rw[if_neg (by rw[hf];decide),hq];simp only;split
  ·intro h;cases h
  ·split<;>(intro h;cases h)
def finS(me:ByteArray)(names:List ByteArray)(rs:List Rl)(l:List Ac):ES:=Hr 400 (Gh l (Ex me names 4096 rs))
structure Fin7(me:ByteArray)(names:List ByteArray)(rs:List Rl)(l:List Ac)(s:ES):Prop where
 inv:Inv s
 q:s.queue=[]
 full:s.full=false
 ok:SOk 3000000000 s
 eme:s.me=me
 enames:s.names=names
 erules:s.rules=rs
 egiven:s.given=(Gh l (Ex me names 4096 rs)).given
 nm:me∈names
 gl:s.given.length≤100
theorem fin7{me:ByteArray}{names:List ByteArray}{rs:List Rl}{l:List Ac}(hm:me∈names)(hb:¬Mz rs)(hS:C7Sm names rs l)(hw:∀i (h:i<l.length),l[i].k=2→H5 (Gh (l.take i) (Ex me names 4096 rs)))(hd:Uv 400 (Gh l (Ex me names 4096 rs))):Fin7 me names rs l (finS me names rs l):=by
 obtain⟨i1,i2,i3,i4⟩:=An7 (me:=me) (names:=names) (lim:=4096) hb;have k0:SK (Oo me names 4096 rs) (Ex me names 4096 rs):=H4 me rs _ _;have l0:(Ex me names 4096 rs).lim=4096:=k0.lim;have r0:(Ex me names 4096 rs).rules=rs:=k0.rules;have al:=hS.al;have W0:Way 0 (Ex me names 4096 rs):=⟨i1,i2,by rw[i4];exact Nat.le_refl _⟩;have W1:=Way.run l W0 (by rw[l0];omega);have sm:=Mo l (Ex me names 4096 rs);have W2:=Way.drn 400 W1 (by rw[sm.lim,l0];omega);have rl80:=hS.rl;have O0:SOk 4800320 (Ex me names 4096 rs):=(Yk (n:=0) (me:=me) (rules:=rs) (Nm (by omega) (by omega) hS.rs (by omega) (by have:=hS.nm;omega)) rs.length).le (by omega);have O1:∀i,i≤l.length→SOk (4800320+i*4800320) (Gh (l.take i) (Ex me names 4096 rs))∧(Gh (l.take i) (Ex me names 4096 rs)).given.length≤i:=fun i=>by
  induction i with
  |zero=>exact fun _=>⟨O0,by show(Ex me names 4096 rs).given.length≤0;rw[i3];exact Nat.le_refl _⟩
  |succ i ih=>
   intro hi;obtain⟨k1,k2⟩:=ih (by omega);rw[Q0 _ (show i<l.length by omega)];obtain⟨j1,j2⟩:=Adw (a:=l[i]) k1 k2 (by omega) (by rw[(Mo (l.take i) (Ex me names 4096 rs)).rules,r0];exact hS.lt) (hw i (by omega));exact⟨j1.le (by omega),j2⟩
 obtain⟨k1,k2⟩:=O1 l.length (Nat.le_refl _);rw[List.take_length]at k1 k2;obtain⟨j1,j2,j3⟩:=Aef 400 k1 (by rw[sm.rules,r0];exact hS.lt) hd;obtain⟨d1,d2⟩:=U6 400 (Gh l (Ex me names 4096 rs));refine⟨W2.inv,Ao0 j3 W2.full,W2.full,j1.le (by omega),?_,?_,?_,d2,hm,?_⟩
 ·exact d1.me.trans (sm.me.trans k0.me)
 ·exact d1.names.trans (sm.names.trans k0.names)
 ·exact d1.rules.trans (sm.rules.trans r0)
 ·show(Hr 400 _).given.length≤100
  rw[d2];omega
def zerD(me:ByteArray)(rules:List Rl)(k:Nat)(P:ES×Bool):ES×Bool:=(List.range k).foldl (fun P i=>if(rules.getD i rlZ).bo.length=0 then lkD me faZ [] i (rules.getD i rlZ) (-1) P else P) P
def newD(me:ByteArray)(names:List ByteArray)(lim:Int)(rules:List Rl):ES×Bool:=zerD me rules rules.length (Oo me names lim rules,false)
theorem Mw{me:ByteArray}{rules:List Rl}{k:Nat}{P:ES×Bool}:zerD me rules (k+1) P=if(rules.getD k rlZ).bo.length=0 then lkD me faZ [] k (rules.getD k rlZ) (-1) (zerD me rules k P)else zerD me rules k P:=by
 unfold zerD;rw[List.range_succ,List.foldl_append];rfl
theorem Mv(me:ByteArray)(rules:List Rl)(P:ES×Bool):∀k,SK P.1 (zerD me rules k P).1
 |0=>.refl _
 |k+1=>by
  rw[Mw];split
  ·exact(Mv me rules P k).trans (F9 _ _ _)
  ·exact Mv me rules P k
theorem Yi{me:ByteArray}{rules:List Rl}{P:ES×Bool}:∀k,(zerD me rules k P).2=false→P.2=false∧(zerD me rules k P).1=zerS me rules k P.1
 |0,h=>⟨h,rfl⟩
 |k+1,h=>by
  rw[Mw]at h⊢;rw[Ka];split at h
  ·rename_i h0
   rw[if_pos h0,if_pos h0];obtain⟨h1,h2,_⟩:=Aj9 h;obtain⟨k1,k2⟩:=Yi k h1;exact⟨k1,by rw[h2,k2]⟩
  ·rename_i h0
   rw[if_neg h0,if_neg h0];exact Yi k h
theorem Ajc:faZ.Sm:=by show([]:List Cn).length≤_;simp
theorem Yj{n:Nat}{me:ByteArray}{rules:List Rl}{P:ES×Bool}(h:SOk n P.1)(hr:∀r∈rules,r.S4):∀k,k≤rules.length→SOk (n+k*60004) (zerD me rules k P).1
 |0,_=>h.le (Nat.le_add_right _ _)
 |k+1,hk=>by
  have ih:=Yj (me:=me) (rules:=rules) h hr k (by omega);rw[Mw];split
  ·rename_i h0
   have e:rules.getD k rlZ=rules[k]:=Dh (by omega) _;rw[e]at h0⊢;have hr4:=hr _ (List.getElem_mem (show k<rules.length by omega));have h3:=docl (r:=rules[k]) (me:=me) (first:= -1) (f:=faZ) (l:=[]);exact(P8 k (m:=rules[k].bo.length) (by have:=hr4.1.1;omega) _ _ ih (Ww Ajc (fun y hy=>by cases hy))).le (by omega)
  ·exact ih.le (by omega)
section
variable{σ:St}
set_option maxHeartbeats 1600000 in
theorem Aot(me:ByteArray)(names:List ByteArray)(lim:Int)(rules:List Rl)(hn:names.length≤1000000)(hl:rules.length≤1000000)(hr:∀r∈rules,r.S4):
  AT Tryz.prog 29 [str me,.sl 1 (stC names),int lim,.sl 11 (rlC rules)] σ fun v σ'=>
   (v= .tup [.v (.pointer none),int 2]∧(me∉names∨Mz rules∨¬(1≤lim∧lim≤4096))∧∀y o,σ y=some o→σ' y=some o)∨
   (me∈names∧¬Mz rules∧1≤lim∧lim≤4096∧∃x a,v= .tup [ptr x,int 0]∧EV true σ' x a (newD me names lim rules).1 (newD me names lim rules).2∧∀y o,σ y=some o→σ' y=some o∧¬Bn x a y):=by
 refine AT.ob Tryz.func29 rfl ?_;have no:(me∉names∨Mz rules∨¬(1≤lim∧lim≤4096))→∀{fr:Fr} {σ':St},(∀y o,σ y=some o→σ' y=some o)→A8 Tryz.prog fr σ' (Tryz.f29).results.toList=some (.tup [.v (.pointer none),int 2])→Dr Tryz.prog (fun v σ'=>(v= .tup [.v (.pointer none),int 2]∧(me∉names∨Mz rules∨¬(1≤lim∧lim≤4096))∧∀y o,σ y=some o→σ' y=some o)∨(me∈names∧¬Mz rules∧1≤lim∧lim≤4096∧∃x a,v= .tup [ptr x,int 0]∧EV true σ' x a (newD me names lim rules).1 (newD me names lim rules).2∧∀y o,σ y=some o→σ' y=some o∧¬Bn x a y)) (Tryz.f29).results.toList fr σ':=fun h _ _ hs hr=>
  Ad hr (.inl ⟨rfl,h,hs⟩)
 simp only[go_sem];refine(Ak1 names me (by omega)).p ?_;by_cases hnm:me∈names
 case neg=>
  simp only[go_sem,decide_eq_false hnm,Bool.not_false];exact no (.inl hnm) (fun _ _ h=>h) rfl
 simp only[go_sem,decide_eq_true hnm,Bool.not_true,Ci];refine⟨fun m fr σ'=>∃i:Nat,m=rules.length-i∧i≤rules.length∧(∀k (hk:k<rules.length),k<i→∀y∈rules[k].bo,y.at'= .zero)∧σ'=σ∧fr 0=str me∧fr 1= .sl 1 (stC names)∧fr 2=int lim∧fr 3= .sl 11 (rlC rules)∧fr 10=int i,⟨_,0,rfl,by omega,fun k hk h=>by omega,rfl,rfl,rfl,rfl,rfl,rfl⟩,?_⟩;rintro m fr σ ⟨i,rfl,hi,hz,rfl,f0,f1,f2,f3,f10⟩;simp only[go_sem,f3,f10,Ci];refine aIf_by (fun hlt=>?_) (fun hlt=>?_)
 case' refine_1=>
  have hil:i<rules.length:=by omega
  obtain⟨r,hrr⟩:∃r,r=rules[i]:=⟨_,rfl⟩;have hr4:=hr _ (List.getElem_mem hil);rw[←hrr]at hr4;have rg:(rlC rules).getD i []=r.cs:=by rw[hrr];exact C3 hil
  have h1:=hr4.1.1;have lcl:=D3 r.bo;simp only[go_sem,Aa];refine⟨fun m fr σ'=>∃j:Nat,m=r.bo.length-j∧j≤r.bo.length∧(∀k (hk:k<r.bo.length),k<j→r.bo[k].at'= .zero)∧σ'=σ∧fr 0=str me∧fr 1= .sl 1 (stC names)∧fr 2=int lim∧fr 3= .sl 11 (rlC rules)∧fr 10=int i∧fr 11=int j,⟨_,0,rfl,by omega,fun k hk h=>by omega,rfl,f0,f1,f2,f3,f10,rfl⟩,?_⟩;clear f0 f1 f2 f3 f10;rintro m fr σ ⟨j,rfl,hj,hz2,rfl,f0,f1,f2,f3,f10,f11⟩;simp only[go_sem,f3,f10,f11,rg,Ci];refine⟨by omega,?_⟩;refine aIf_by (fun hlt=>?_) (fun hlt=>?_)
  ·have hjl:j<r.bo.length:=by omega
   simp only[go_sem,Aa,f3,f10,f11,rg,Ci,D2 hjl,lcl];refine⟨by omega,by omega,Ale ?_⟩;by_cases hat:r.bo[j].at'= .zero
   ·simp only[go_sem,Aa,decide_eq_true hat,f11,Au j (by omega)]
    refine⟨r.bo.length-(j+1),by omega,j+1,rfl,by omega,fun k hk hkj=>?_,f0,f1,f2,f3,f10,rfl⟩;by_cases e:k=j
    ·subst e;exact hat
    ·exact hz2 k hk (by omega)
   ·simp only[go_sem,Aa,decide_eq_false hat]
    refine no (.inr (.inl ⟨r,by rw[hrr];exact List.getElem_mem hil,_,List.getElem_mem hjl,hat⟩)) (fun _ _ h=>h) rfl
  ·simp only[go_sem,Aa,f10,Au i (by omega)]
   refine⟨rules.length-(i+1),by omega,i+1,rfl,by omega,fun k hk hki=>?_,f0,f1,f2,f3,rfl⟩;by_cases e:k=i
   ·subst e
    intro y hy;rw[←hrr]at hy;obtain⟨q,hq,e⟩:=List.mem_iff_getElem.1 hy;rw[←e];exact hz2 q hq (by omega)
   ·exact hz k hk (by omega)
 have hgood:¬Mz rules:=fun⟨r,hm,y,hy,hne⟩=>by
  obtain⟨k,hk,e⟩:=List.mem_iff_getElem.1 hm;exact hne (hz k hk (by omega) y (by rw[e];exact hy))
 clear hz;simp only[go_sem,Aa,f2];refine(Ala lim).mono ?_;intro v σ2 htn;by_cases hlim:1≤lim∧lim≤4096
 case neg=>
  rw[if_neg hlim]at htn;obtain⟨rfl,rfl⟩:=htn;simp only[go_sem,Aa];exact no (.inr (.inr hlim)) (fun _ _ h=>h) rfl
 rw[if_pos hlim]at htn;obtain⟨t,ft,rfl,rfl⟩:=htn;obtain⟨σ2,e2⟩:∃s,s=σ.set t (tbC [] lim):=⟨_,rfl⟩;have ht2:σ2 t=some (tbC [] lim):=by rw[e2];exact Ab
 have hs2:∀y o,σ y=some o→σ2 y=some o:=by rw[e2];exact B2 ft fun _ _ h=>h
 rw[←e2];clear e2;simp only[go_sem,Aa,f0,f1,f3];refine Ay fun b fb _=>?_;simp only[go_sem,Aa];obtain⟨σ3,e3⟩:∃s,s=σ2.set b (.cells [.v (.slice none 0 0)]):=⟨_,rfl⟩;have hb3:σ3 b=some (.cells [A4]):=by rw[e3];exact Ab
 have hs3:∀y o,σ2 y=some o→σ3 y=some o:=by rw[e3];exact B2 fb fun _ _ h=>h
 rw[←e3];clear e3;refine Ay fun x hx _=>?_;obtain⟨raw,hraw⟩:∃r:List AV,r=[.v (.string me),.sl 1 (stC names),.sl 11 (rlC rules),.v (.pointer (some ⟨t,0,none⟩)),.v (.pointer (some ⟨b,0,none⟩)),.v (.slice none 0 0),.v (.slice none 0 0),.v (.slice none 0 0),.v (.bool false),.v (.bool false)]:=⟨_,rfl⟩;rw[←hraw];obtain⟨s0,hs0⟩:∃s0,s0=Oo me names lim rules:=⟨_,rfl⟩;obtain⟨a0,ha0⟩:∃a0:EA,a0=⟨t,b,.sl 4 (faC []),A4,A4⟩:=⟨_,rfl⟩;have O0:SOk 0 s0:=by rw[hs0];exact Nm hlim.1 hlim.2 hr hl hn
 have ht3:=hs3 _ _ ht2;have nxt:x≠t:=fun e=>by rw[e,ht3]at hx;cases hx
 have nxb:x≠b:=fun e=>by rw[e,hb3]at hx;cases hx
 have ntb:t≠b:=fun e=>by rw[←e,ht2]at fb;cases fb
 have at0:a0.t=t:=by rw[ha0]
 have ab0:a0.b=b:=by rw[ha0]
 have nq0:∀y,¬Own a0.gv y∧¬Jc a0.qv y∧¬Own a0.ov y:=fun y=>by rw[ha0];exact⟨Ha,Tz,B5⟩
 have E4:EV true ((σ3.set b (rkC [])).set x (.cells (evC true s0 a0 false))) x a0 s0 false:=⟨Ab,by rw[at0,Af nxt.symm,Af ntb,ht3,hs0];rfl,by rw[ab0,Af nxb.symm,Ab,hs0];rfl,by rw[if_pos rfl,ha0,hs0];rfl,by rw[ha0,hs0];exact .nil,by rw[ha0,hs0];exact .none,by rw[at0];exact nxt,by rw[ab0];exact nxb,by rw[at0,ab0];exact ntb,fun y ho=>absurd ho (nq0 y).1⟩;have F4:∀y o,σ y=some o→((σ3.set b (rkC [])).set x (.cells (evC true s0 a0 false))) y=some o∧¬Bn x a0 y:=fun y o hy=>by
  have y2:=hs2 _ _ hy;have y3:=hs3 _ _ y2;have nyx:y≠x:=fun e=>by rw[e,hx]at y3;cases y3
  have nyb:y≠b:=fun e=>by rw[e,fb]at y2;cases y2
  refine⟨by rw[Af nyx,Af nyb];exact y3,fun hf=>?_⟩;rcases hf with e|e|e|e|e|e
  ·exact nyx e
  ·rw[e,at0,ft]at hy;cases hy
  ·exact nyb (by rw[e,ab0])
  ·exact(nq0 y).1 e
  ·exact(nq0 y).2.1 e
  ·exact(nq0 y).2.2 e
 have V4:SV (σ3.set x (.cells raw)) ((σ3.set b (rkC [])).set x (.cells (evC true s0 a0 false))):=Fc fun y o hy=>by
  by_cases e1:y=x
  ·rw[e1,Ab]at hy
   injection hy with hy;subst hy;refine .inr ⟨.cells raw,by rw[e1,Ab],?_⟩;rw[hraw,ha0,hs0];exact vws_same (vws_same (vws_same (vws_same (vws_same (vws_cons (.nil 4) (Bv _))))))
  ·by_cases e2:y=b
   ·rw[Af e1,e2,Ab]at hy
    injection hy with hy;subst hy;exact .inr ⟨.cells [A4],by rw[Af e1,e2];exact hb3,vws_cons (.nil 6) By⟩
   ·rw[Af e1,Af e2]at hy
    exact .inl (by rw[Af e1];exact hy)
 generalize (σ3.set b (rkC [])).set x (.cells (evC true s0 a0 false))=σE at E4 F4 V4;generalize σ3.set x (.cells raw)=σ4 at V4⊢;clear hx nxt nxb ntb nq0 at0 ab0 ht3 hb3 hs3 fb ht2 hs2 ft hraw;have m0:s0.me=me:=by rw[hs0];rfl
 have r0:s0.rules=rules:=by rw[hs0];rfl
 have T0:s0.T=[]:=by rw[hs0];rfl
 simp only[go_sem,Aa];refine⟨fun m fr σ'=>∃(i:Nat) (a':EA) (P:ES×Bool) (σE:St),m=rules.length-i∧i≤rules.length∧P=zerD me rules i (s0,false)∧SOk (0+i*60004) P.1∧SV σ' σE∧EV true σE x a' P.1 P.2∧(∀y o,σ y=some o→σE y=some o∧¬Bn x a' y)∧fr 3= .sl 11 (rlC rules)∧fr 14=ptr x∧fr 15=int i,⟨_,0,a0,(s0,false),σE,rfl,by omega,rfl,O0,V4,E4,F4,f3,rfl,rfl⟩,?_⟩;clear E4 F4 V4 f0 f1 f2 f3 f10 O0;rintro m fr σ1 ⟨i,a',P,σE,rfl,hi,hP,hO,hV,hE,hF,f3,f14,f15⟩;simp only[go_sem,f3,f15,Ci];refine aIf_by (fun hlt=>?_) (fun hlt=>?_)
 case' refine_2=>
  have ei:i=rules.length:=by omega
  rw[ei]at hP;simp only[go_sem,Aa,f14];exact Ae (r:=.tup [ptr x,int 0]) rfl _ σE (view_of hV (.refl _)) (.inr ⟨hnm,hgood,hlim.1,hlim.2,x,a',rfl,by rw[show newD me names lim rules=P by rw[hP,hs0];rfl];exact hE,hF⟩)
 have hil:i<rules.length:=by omega
 obtain⟨r,hrr⟩:∃r,r=rules[i]:=⟨_,rfl⟩;have hr4:=hr _ (List.getElem_mem hil);rw[←hrr]at hr4;have rg:(rlC rules).getD i []=r.cs:=by rw[hrr];exact C3 hil
 have hgr:rules.getD i rlZ=r:=by rw[Dh hil,hrr]
 have K':SK s0 P.1:=by rw[hP];exact Mv me rules (s0,false) i
 have lcl:=D3 r.bo;have nx:=Au i (by omega);have es:=Mw (me:=me) (rules:=rules) (k:=i) (P:=(s0,false));rw[hgr,←hP]at es;by_cases hbo:r.bo.length=0
 case neg=>
  rw[if_neg hbo]at es;have d1:=decide_eq_false (show¬(r.bo.length:Int)=0 by omega);simp only[go_sem,Aa,f3,f15,rg,Ci,lcl,d1,nx];exact⟨by omega,rules.length-(i+1),by omega,i+1,a',P,σE,rfl,by omega,es.symm,hO.le (by omega),hV,hE,hF,f14,rfl⟩
 rw[if_pos hbo]at es;have d1:=decide_eq_true (show(r.bo.length:Int)=0 by omega);have hil':i<P.1.rules.length:=by rw[K'.rules,r0];exact hil
 have hri:P.1.rules[i]=r:=by rw[hrr];exact List.getElem_of_eq (K'.rules.trans r0) hil'
 have mP:P.1.me=me:=K'.me.trans m0;have TP:P.1.T=[]:=K'.T.trans T0;simp only[go_sem,Aa,f3,f14,f15,rg,Ci,lcl,d1];have hc:=Aaw hE hO (by omega) i hil' (-1) faZ Ajc;rw[hri,mP,TP]at hc;refine⟨by omega,(AT.pre hc (by kernel_rfl) hV (vws_same (vws_same (vws_same (vws_cons (.agg [str emp,str emp,str emp,A4] faZ.cs rfl (show VWs _ _ [str emp,str emp,str emp,A4] faZ.cs from vws_same (vws_same (vws_same (vws_cons (.nil 3) By)))).2) By))))).mono ?_⟩;rintro _ σ5 ⟨a2,E2,G2⟩;have O2:=Yj (n:=0) (me:=me) (rules:=rules) (P:=(s0,false)) (by rw[hs0];exact Nm hlim.1 hlim.2 hr hl hn) hr (i+1) (by omega);rw[es,Nat.zero_add]at O2;simp only[go_sem,Aa,f15,nx];exact⟨rules.length-(i+1),by omega,i+1,a2,lkD me faZ [] i r (-1) P,σ5,rfl,by omega,es.symm,O2,Fc fun _ _ h=>.inl h,E2,fun y o hy=>G2 y o (hF y o hy).1 (hF y o hy).2,f3,f14,rfl⟩
end
def Kh(P:ES×Bool)(a:Ac):ES×Bool:=if a.k=0 then((Ec P.1 a.f).2,P.2)else if a.k=1 then((Gs P.1 a.f).2,P.2)else if a.k=2 then(C0 P.1 P.2).2 else P
theorem Alu{P:ES×Bool}{a:Ac}(h:(Kh P a).2=false):P.2=false∧(Kh P a).1=Jd P.1 a∧(a.k=2→H5 P.1):=by
 unfold Kh at h⊢;unfold Jd;by_cases k0:a.k=0
 ·rw[if_pos k0]at h⊢;rw[if_pos k0];exact⟨h,rfl,fun e=>by omega⟩
 rw[if_neg k0]at h⊢;rw[if_neg k0];by_cases k1:a.k=1
 ·rw[if_pos k1]at h⊢;rw[if_pos k1];exact⟨h,rfl,fun e=>by omega⟩
 rw[if_neg k1]at h⊢;rw[if_neg k1];by_cases k2:a.k=2
 ·rw[if_pos k2]at h⊢;rw[if_pos k2]
  obtain⟨h1,_,h3⟩:=X9 h;exact⟨h1,h3,fun _=>Ya h⟩
 ·rw[if_neg k2]at h⊢;rw[if_neg k2];exact⟨h,rfl,fun e=>absurd e k2⟩
theorem Alv{n g:Nat}{P:ES×Bool}{a:Ac}{rs:List Rl}(h:SOk n P.1)(hg:P.1.given.length≤g)(g1:g+1≤1000000)(hr:P.1.rules=rs)(hl:Cr rs rs.length≤80):SOk (n+4800320) (Kh P a).1∧(Kh P a).1.given.length≤g+1∧(Kh P a).1.rules=rs:=by
 unfold Kh;split
 ·have:=Xf (f:=a.f) h hg g1
  exact⟨this.1.le (by omega),this.2,(Vi P.1 a.f).rules.trans hr⟩
 ·split
  ·have:=Ad2 (f:=a.f) h hg
   exact⟨this.1.le (by omega),Nat.le_trans this.2 (Nat.le_succ g),(U3 P.1 a.f).rules.trans hr⟩
  ·split
   ·obtain⟨k1,k2⟩:=Afv (hv:=P.2) h
    have k3:(C0 P.1 P.2).2.1.given=P.1.given:=by
     unfold C0;split
     ·rfl
     split
     ·rfl
     split
     ·rfl
     split
     ·exact(Lx _ _ _ _ _ _).given
     ·rfl
    rw[hr]at k1;refine⟨k1.le (Nat.add_le_add_left (Nat.le_trans (Nat.mul_le_mul hl (Nat.le_refl 60004)) (by decide)) n),by rw[k3];omega,k2.trans hr⟩
   ·exact⟨h.le (by omega),by omega,hr⟩
section
variable{σ:St}
set_option maxHeartbeats 1600000 in
theorem Ary{lv:AV}(me:ByteArray)(names:List ByteArray)(lim:Int)(rs:List Rl)(l:List Ac)(hS:C7Sm names rs l)(h0:Rd 5 σ lv (acC l)):
  AT Tryz.prog 13 [.agg (c7C me names lim rs),lv] σ fun v σ'=>
   (v= .tup [.v (.pointer none),.v (.pointer none),boo false]∧∀z o,σ z=some o→σ' z=some o)∨
   (∃x a y b,v= .tup [ptr x,ptr y,boo true]∧Fin7 me names rs l (finS me names rs l)∧Both σ' x a y b (finS me names rs l)∧∀z o,σ z=some o→σ' z=some o∧¬Bn x a z∧¬Bn y b z):=by
 refine AT.ob Tryz.func13 rfl ?_;have ho:(c7C me names lim rs).all AV.one=true:=rfl;have al:=hS.al;have rl80:=hS.rl;have nm8:=hS.nm;have n8:∀m,m+4860324≤800000000000→m+Cr rs rs.length*60004+60004≤800000000000:=by
  have:=hS.lt;revert this;generalize Cr rs rs.length=L;intro h m hm;have:=Nat.mul_le_mul h (Nat.le_refl 60004);omega
 have n7:∀m,m+4860324≤800000000000→m+Cr rs rs.length*60002≤800000000000:=by
  have:=hS.lt;revert this;generalize Cr rs rs.length=L;intro h m hm;have:=Nat.mul_le_mul h (Nat.le_refl 60002);omega
 have no:∀{fr:Fr} {σ':St},(∀y o,σ y=some o→σ' y=some o)→A8 Tryz.prog fr σ' (Tryz.f13).results.toList=some (.tup [.v (.pointer none),.v (.pointer none),boo false])→Dr Tryz.prog (fun v σ'=>(v= .tup [.v (.pointer none),.v (.pointer none),boo false]∧∀z o,σ z=some o→σ' z=some o)∨
   (∃x a y b,v= .tup [ptr x,ptr y,boo true]∧Fin7 me names rs l (finS me names rs l)∧Both σ' x a y b (finS me names rs l)∧∀z o,σ z=some o→σ' z=some o∧¬Bn x a z∧¬Bn y b z)) (Tryz.f13).results.toList fr σ':=fun hs hr=>
  Ad hr (.inl ⟨rfl,hs⟩)
 simp only[go_sem,ho];refine Ctx.nil.alloc fun p σ1 c1=>?_;have hp:=c1.g0;have hs1:=c1.sub;have fp:=c1.f0;clear c1;simp only[go_sem,hp];refine(Aot me names 4096 rs (by omega) (by omega) hS.rs).mono ?_;rintro _ σ2 (⟨rfl,hbad,hs2⟩|⟨n1,n2,n3,n4,y,b,rfl,E2,F2⟩)
 ·simp only[go_sem]
  exact no (fun z o hz=>hs2 _ _ (hs1 _ _ hz)) rfl
 simp only[go_sem];obtain⟨s0,hs0⟩:∃s0,s0=Ex me names 4096 rs:=⟨_,rfl⟩;have hr0:s0.rules=rs:=by rw[hs0];exact(H4 me rs (Oo me names 4096 rs) rs.length).rules
 have O0:SOk (4800320+0*4800320) s0:=by
  rw[hs0];exact(Yk (n:=0) (me:=me) (rules:=rs) (Nm n3 n4 hS.rs (by omega) (by omega)) rs.length).le (by omega)
 have G0:s0.given.length≤0:=by
  rw[hs0,show(Ex me names 4096 rs).given=[]from(H4 me rs (Oo me names 4096 rs) rs.length).given];exact Nat.le_refl _
 obtain⟨P0,hP0⟩:∃P0,P0=newD me names 4096 rs:=⟨_,rfl⟩;have e0:P0.2=false→P0.1=s0:=fun h=>by rw[hP0]at h⊢;rw[hs0];exact(Yi _ h).2
 have OP0:SOk 4800320 P0.1∧P0.1.given.length≤0∧P0.1.rules=rs:=by
  have k:=Mv me rs (Oo me names 4096 rs,false) rs.length;refine⟨?_,?_,?_⟩
  ·rw[hP0]
   exact(Yj (n:=0) (P:=(Oo me names 4096 rs,false)) (me:=me) (Nm n3 n4 hS.rs (by omega) (by omega)) hS.rs rs.length (Nat.le_refl _)).le (by omega)
  ·rw[hP0];show(zerD me rs rs.length _).1.given.length≤0;rw[k.given];exact Nat.le_refl _
  ·rw[hP0];exact k.rules
 rw[←hP0]at E2;have hp2:=F2 _ _ hp;have FF2:∀z o,σ z=some o→σ2 z=some o∧¬Bn y b z:=fun z o hz=>F2 _ _ (hs1 _ _ hz);refine⟨fun m fr σ'=>∃(i:Nat) (b:EA) (P:ES×Bool),m=l.length-i∧i≤l.length∧EV true σ' y b P.1 P.2∧SOk (4800320+i*4800320) P.1∧P.1.given.length≤i∧P.1.rules=rs∧(P.2=false→P.1=Gh (l.take i) s0∧∀j (hj:j<l.length),j<i→l[j].k=2→H5 (Gh (l.take j) s0))∧(∀z o,σ z=some o→σ' z=some o∧¬Bn y b z)∧σ' p=some (.cells (c7C me names lim rs))∧¬Bn y b p∧fr 1=lv∧fr 2=ptr p∧fr 7=ptr y∧fr 9=int i,⟨_,0,b,P0,rfl,by omega,E2,OP0.1,OP0.2.1,OP0.2.2,fun h=>⟨e0 h,fun j hj h=>by omega⟩,FF2,hp2.1,hp2.2,rfl,rfl,rfl,rfl⟩,?_⟩;clear E2 OP0 e0 F2 FF2 hp2 hp hs1;rintro m fr σ3 ⟨i,b,P,rfl,hi,E3,O3,G3,R3,hrun,F3,hp3,np3,f1,f2,f7,f9⟩;have hlv:Rd 5 σ3 lv (acC l):=h0.keep fun z o hz=>(F3 z o hz).1;by_cases hil:i<l.length
 ·have d1:=decide_eq_true (show(i:Int)<l.length by omega)
  have hfs:=hS.fs _ (List.getElem_mem hil);have nx:=Au i (by omega);simp only[go_sem,Aa,f1,f9,hlv.len,Df,d1];refine hlv.elem (by omega) (by rw[Df];omega) fun q0 hq0=>?_;rw[Int.toNat_natCast,Kg hil]at hq0;simp only[go_sem];refine hq0.fld (by decide) (by rw[Ac.len];omega) fun q1 hq1=>?_;simp only[go_sem];refine hq1.load1 (by decide) (by rw[Ac.len];omega) ?_;simp only[go_sem,Ac.at0];refine Jk (fun fr σ'=>∃b',EV true σ' y b' (Kh P l[i]).1 (Kh P l[i]).2∧(∀z o,σ z=some o→σ' z=some o∧¬Bn y b' z)∧σ' p=some (.cells (c7C me names lim rs))∧¬Bn y b' p∧fr 1=lv∧fr 2=ptr p∧fr 7=ptr y∧fr 9=int i) ?_ ?_
  ·by_cases k0:l[i].k=0
   ·have ea:Kh P l[i]=((Ec P.1 l[i].f).2,P.2):=by unfold Kh;rw[if_pos k0]
    simp only[go_sem,Aa,decide_eq_true k0,f1,f7,f9];refine hlv.elem (by omega) (by rw[Df];omega) fun r0 hr0=>?_;rw[Int.toNat_natCast,Kg hil]at hr0;simp only[go_sem];refine hr0.fld (by decide) (by rw[Ac.len];omega) fun r1 hr1=>?_;simp only[go_sem];refine hr1.load (by decide) (by rw[Ac.len];omega) ?_;simp only[go_sem,Ac.fa];refine(Ac9 E3 O3 (by omega) l[i].f).mono ?_;rintro _ σ4 ⟨rfl,b2,E4,G4⟩;simp only[go_sem,Aa];exact⟨b2,by rw[ea];exact E4,fun z o hz=>G4 z o (F3 z o hz).1 (F3 z o hz).2,(G4 _ _ hp3 np3).1,(G4 _ _ hp3 np3).2,f1,f2,f7,f9⟩
   by_cases k1:l[i].k=1
   ·have ea:Kh P l[i]=((Gs P.1 l[i].f).2,P.2):=by unfold Kh;rw[if_neg k0,if_pos k1]
    simp only[go_sem,Aa,decide_eq_false k0,decide_eq_true k1,f1,f7,f9];refine hlv.elem (by omega) (by rw[Df];omega) fun r0 hr0=>?_;rw[Int.toNat_natCast,Kg hil]at hr0;simp only[go_sem];refine hr0.fld (by decide) (by rw[Ac.len];omega) fun r1 hr1=>?_;simp only[go_sem];refine hr1.load (by decide) (by rw[Ac.len];omega) ?_;simp only[go_sem,Ac.fa];refine(Ac5 E3 O3 (by omega) l[i].f hfs).mono ?_;rintro _ σ4 ⟨rfl,b2,E4,G4⟩;simp only[go_sem,Aa];exact⟨b2,by rw[ea];exact E4,fun z o hz=>G4 z o (F3 z o hz).1 (F3 z o hz).2,(G4 _ _ hp3 np3).1,(G4 _ _ hp3 np3).2,f1,f2,f7,f9⟩
   by_cases k2:l[i].k=2
   ·have ea:Kh P l[i]=(C0 P.1 P.2).2:=by unfold Kh;rw[if_neg k0,if_neg k1,if_pos k2]
    simp only[go_sem,Aa,decide_eq_false k0,decide_eq_false k1,decide_eq_true k2,f7];refine(Aay E3 O3 (by rw[R3];exact n8 _ (by omega))).mono ?_;rintro _ σ4 ⟨rfl,b2,E4,G4⟩;simp only[go_sem,Aa];exact⟨b2,by rw[ea];exact E4,fun z o hz=>G4 z o (F3 z o hz).1 (F3 z o hz).2,(G4 _ _ hp3 np3).1,(G4 _ _ hp3 np3).2,f1,f2,f7,f9⟩
   ·have ea:Kh P l[i]=P:=by unfold Kh;rw[if_neg k0,if_neg k1,if_neg k2]
    simp only[go_sem,Aa,decide_eq_false k0,decide_eq_false k1,decide_eq_false k2];exact⟨b,by rw[ea];exact E3,F3,hp3,np3,f1,f2,f7,f9⟩
  ·rintro fr σ4 ⟨b2,E4,F4,hp4,np4,f1,f2,f7,f9⟩
   have hy4:=E4.cx;obtain⟨q1,q2,q3⟩:=Alv (a:=l[i]) O3 G3 (by omega) R3 hS.lt;cases hv:(Kh P l[i]).2 with
   |true=>
    rw[hv]at hy4;simp only[go_sem,Aa,f7,hy4];exact no (fun z o hz=>(F4 z o hz).1) rfl
   |false=>
    rw[hv]at hy4;obtain⟨w1,w2,w3⟩:=Alu hv;obtain⟨u1,u2⟩:=hrun w1;simp only[go_sem,Aa,f7,f9,hy4,nx]
    exact⟨l.length-(i+1),by omega,i+1,b2,Kh P l[i],rfl,by omega,E4,q1.le (by omega),q2,q3,fun _=>⟨by rw[w2,u1,Q0 _ hil],fun j hj hji hk=>by
     by_cases e:j=i
     ·subst e;rw[←u1];exact w3 hk
     ·exact u2 j hj (by omega) hk⟩,F4,hp4,np4,f1,f2,rfl⟩
 ·have ei:i=l.length:=by omega
  subst ei;rw[List.take_length]at hrun;have d1:=decide_eq_false (show¬((l.length:Nat):Int)<l.length by omega);simp only[go_sem,Aa,f1,f7,f9,hlv.len,Df,d1];refine(Ahd E3 O3 (by rw[R3];exact hS.lt) (by omega)).mono ?_;rintro _ σ4 ⟨rfl,b2,E4,G4⟩;have F4:∀z o,σ z=some o→σ4 z=some o∧¬Bn y b2 z:=fun z o hz=>G4 z o (F3 z o hz).1 (F3 z o hz).2;have hp4:=G4 _ _ hp3 np3;cases hd:(Qc 400 (P.1,P.2)).1 with
  |false=>
   simp only[go_sem,Aa,hd,Bool.not_false];exact no (fun z o hz=>(F4 z o hz).1) rfl
  |true=>
  obtain⟨w1,w2,w3,w4⟩:=Aee 400 P.1 P.2 hd;obtain⟨u1,u2⟩:=hrun w1;rw[w4,←w3,u1]at E4;rw[u1]at w2;have hw2:∀j (h:j<l.length),l[j].k=2→H5 (Gh (l.take j) (Ex me names 4096 rs)):=fun j h hk=>by rw[←hs0];exact u2 j h h hk
  have Fn:=fin7 n1 n2 hS hw2 (by rw[←hs0];exact w2);have efin:finS me names rs l=Hr 400 (Gh l s0):=by rw[hs0];rfl
  rw[←efin]at E4;clear E3 O3 G3 R3 hrun F3 hp3 np3 w1 w3 w4;simp only[go_sem,Aa,hd,f2,hp4.1,Bool.not_true];refine(Aen me names 4096 rs (by omega) (by omega) hS.rs).mono ?_;rintro _ σ5 (⟨rfl,hbad,_⟩|⟨_,_,_,_,x,a,rfl,E5,F5⟩)
  ·rcases hbad with h|h|h
   ·exact absurd n1 h
   ·exact absurd h n2
   ·exact absurd ⟨n3,n4⟩ h
  rw[←hs0]at E5;have y5:EV true σ5 y b2 (finS me names rs l) false:=E4.keep fun z o hz _=>(F5 z o hz).1;have dj5:∀z,Bn x a z→¬Bn y b2 z:=fun z hx hy=>by
   obtain⟨o,ho⟩:=If E4 hy;exact(F5 z o ho).2 hx
  have FF5:∀z o,σ z=some o→σ5 z=some o∧¬Bn x a z∧¬Bn y b2 z:=fun z o hz=>⟨(F5 z o (F4 z o hz).1).1,(F5 z o (F4 z o hz).1).2,(F4 z o hz).2⟩;clear E4 G4 F4 hp4 F5 f2 f9;simp only[go_sem,Aa];refine⟨fun m fr σ'=>∃(j:Nat) (a:EA),m=l.length-j∧j≤l.length∧EV false σ' x a (Gh (l.take j) s0) false∧EV true σ' y b2 (finS me names rs l) false∧(∀z,Bn x a z→¬Bn y b2 z)∧SOk (4800320+j*4800320) (Gh (l.take j) s0)∧(Gh (l.take j) s0).given.length≤j∧(∀z o,σ z=some o→σ' z=some o∧¬Bn x a z∧¬Bn y b2 z)∧fr 1=lv∧fr 7=ptr y∧fr 10=ptr x∧fr 12=int j,⟨_,0,a,rfl,by omega,E5,y5,dj5,O0,G0,FF5,f1,f7,rfl,rfl⟩,?_⟩;clear E5 y5 dj5 O0 G0 FF5 f1 f7 hlv;rintro m fr σ6 ⟨j,a,rfl,hj,E6,y6,dj6,O6,G6,F6,f1,f7,f10,f12⟩;have hlv:Rd 5 σ6 lv (acC l):=h0.keep fun z o hz=>(F6 z o hz).1;have R6:(Gh (l.take j) s0).rules=rs:=(Mo (l.take j) s0).rules.trans hr0;by_cases hjl:j<l.length
  ·have d1:=decide_eq_true (show(j:Int)<l.length by omega)
   have hfs:=hS.fs _ (List.getElem_mem hjl);have nx:=Au j (by omega);simp only[go_sem,f1,f12,hlv.len,Df,d1];refine Jk (fun fr σ'=>∃a',EV false σ' x a' (Jd (Gh (l.take j) s0) l[j]) false∧EV true σ' y b2 (finS me names rs l) false∧(∀z,Bn x a' z→¬Bn y b2 z)∧(∀z o,σ z=some o→σ' z=some o∧¬Bn x a' z∧¬Bn y b2 z)∧fr 1=lv∧fr 7=ptr y∧fr 10=ptr x∧fr 12=int j) ?_ ?_
   ·simp only[go_sem,Aa,f1,f12]
    refine hlv.elem (by omega) (by rw[Df];omega) fun q0 hq0=>?_;rw[Int.toNat_natCast,Kg hjl]at hq0;simp only[go_sem];refine hq0.fld (by decide) (by rw[Ac.len];omega) fun q1 hq1=>?_;simp only[go_sem];refine hq1.load1 (by decide) (by rw[Ac.len];omega) ?_;simp only[go_sem,Ac.at0];by_cases k0:l[j].k=0
    ·have ea:Jd (Gh (l.take j) s0) l[j]=(Ec (Gh (l.take j) s0) l[j].f).2:=by unfold Jd;rw[if_pos k0]
     simp only[go_sem,Aa,decide_eq_true k0,f1,f10,f12];refine hlv.elem (by omega) (by rw[Df];omega) fun r0 hr0=>?_;rw[Int.toNat_natCast,Kg hjl]at hr0;simp only[go_sem];refine hr0.fld (by decide) (by rw[Ac.len];omega) fun r1 hr1=>?_;simp only[go_sem];refine hr1.load (by decide) (by rw[Ac.len];omega) ?_;simp only[go_sem,Ac.fa];refine(Tb E6 O6 (by omega) l[j].f).mono ?_;rintro _ σ7 ⟨rfl,a2,E7,G7⟩;obtain⟨y7,dj7⟩:=y6.stay G7 fun z hz hx=>dj6 z hx hz;simp only[go_sem,Aa]
     exact⟨a2,by rw[ea];exact E7,y7,fun z hx hy=>dj7 z hy hx,fun z o hz=>by
      obtain⟨k1,k2,k3⟩:=F6 z o hz;exact⟨(G7 z o k1 k2).1,(G7 z o k1 k2).2,k3⟩,f1,f7,f10,f12⟩
    by_cases k1:l[j].k=1
    ·have ea:Jd (Gh (l.take j) s0) l[j]=(Gs (Gh (l.take j) s0) l[j].f).2:=by unfold Jd;rw[if_neg k0,if_pos k1]
     simp only[go_sem,Aa,decide_eq_false k0,decide_eq_true k1,f1,f10,f12];refine hlv.elem (by omega) (by rw[Df];omega) fun r0 hr0=>?_;rw[Int.toNat_natCast,Kg hjl]at hr0;simp only[go_sem];refine hr0.fld (by decide) (by rw[Ac.len];omega) fun r1 hr1=>?_;simp only[go_sem];refine hr1.load (by decide) (by rw[Ac.len];omega) ?_;simp only[go_sem,Ac.fa];refine(Ta E6 O6 (by omega) l[j].f hfs).mono ?_;rintro _ σ7 ⟨rfl,a2,E7,G7⟩;obtain⟨y7,dj7⟩:=y6.stay G7 fun z hz hx=>dj6 z hx hz;simp only[go_sem,Aa]
     exact⟨a2,by rw[ea];exact E7,y7,fun z hx hy=>dj7 z hy hx,fun z o hz=>by
      obtain⟨k1,k2,k3⟩:=F6 z o hz;exact⟨(G7 z o k1 k2).1,(G7 z o k1 k2).2,k3⟩,f1,f7,f10,f12⟩
    by_cases k2:l[j].k=2
    ·have ea:Jd (Gh (l.take j) s0) l[j]=(Bs (Gh (l.take j) s0)).2:=by unfold Jd;rw[if_neg k0,if_neg k1,if_pos k2]
     simp only[go_sem,Aa,decide_eq_false k0,decide_eq_false k1,decide_eq_true k2,f10];refine(Oe E6 O6 (by rw[R6];exact n7 _ (by omega)) (u2 j hjl hjl k2)).mono ?_;rintro _ σ7 ⟨rfl,a2,E7,G7⟩;obtain⟨y7,dj7⟩:=y6.stay G7 fun z hz hx=>dj6 z hx hz;simp only[go_sem,Aa]
     exact⟨a2,by rw[ea];exact E7,y7,fun z hx hy=>dj7 z hy hx,fun z o hz=>by
      obtain⟨k1,k2,k3⟩:=F6 z o hz;exact⟨(G7 z o k1 k2).1,(G7 z o k1 k2).2,k3⟩,f1,f7,f10,f12⟩
    ·have ea:Jd (Gh (l.take j) s0) l[j]=Gh (l.take j) s0:=by unfold Jd;rw[if_neg k0,if_neg k1,if_neg k2]
     simp only[go_sem,Aa,decide_eq_false k0,decide_eq_false k1,decide_eq_false k2];exact⟨a,by rw[ea];exact E6,y6,dj6,F6,f1,f7,f10,f12⟩
   ·rintro fr σ7 ⟨a2,E7,y7,dj7,F7,f1,f7,f10,f12⟩
    obtain⟨q1,q2⟩:=Adw (a:=l[j]) O6 G6 (by omega) (by rw[R6];exact hS.lt) (u2 j hjl hjl);rw[←Q0 _ hjl]at E7 q1 q2;simp only[go_sem,Aa,f12,nx];exact⟨l.length-(j+1),by omega,j+1,a2,rfl,by omega,E7,y7,dj7,q1.le (by omega),q2,F7,f1,f7,f10,rfl⟩
  ·have ej:j=l.length:=by omega
   subst ej;rw[List.take_length]at E6 O6 R6;have d1:=decide_eq_false (show¬((l.length:Nat):Int)<l.length by omega);simp only[go_sem,Aa,f1,f10,f12,hlv.len,Df,d1];refine(Ago E6 O6 (by rw[R6];exact hS.lt) 400 (by omega) w2).mono ?_;rintro _ σ7 ⟨a2,E7,G7⟩;obtain⟨y7,dj7⟩:=y6.stay G7 fun z hz hx=>dj6 z hx hz;rw[←efin]at E7;simp only[go_sem,Aa,f7,f10]
   exact Ad (r:=.tup [ptr x,ptr y,boo true]) rfl (.inr ⟨x,a2,y,b2,rfl,Fn,⟨E7,y7,fun z hx hy=>dj7 z hy hx⟩,fun z o hz=>by
    obtain⟨k1,k2,k3⟩:=F6 z o hz;exact⟨(G7 z o k1 k2).1,(G7 z o k1 k2).2,k3⟩⟩)
end
section
variable{σ:St}{t b1 b2:Nat}{T:List Fa}{lim:Int}
theorem Qm(h:TB σ t T lim)(hT:TOk T lim)(h1:σ b1=some (.cells [ptr t]))(h2:σ b2=some (.cells [fnv 117])):AT Tryz.prog 18 [Sf b1 b2] σ fun r σ'=>r= .sl 4 (faC T)∧σ'=σ:=by
 have hm:AT Tryz.prog 18 [Sf b1 b2] σ fun r σ'=>LAt 4 σ' r (faC T)∧B9 σ σ' r:=by
  refine AT.ob Tryz.func18 rfl ?_;have tlen:=hT.len;simp only[go_sem];refine Ay fun d hd hdm=>?_;have hI0:=OnI.start hd;obtain⟨σ2,e2⟩:∃s,s=σ.set d (.cells [A4]):=⟨_,rfl⟩;rw[←e2]at hI0⊢;clear e2 hdm;simp only[go_sem,Aa];refine⟨by kernel_rfl,?_⟩;refine Qn (fun fr=>fr 3=ptr d) rfl fun assign body fr hA hB f3=>?_;intro n l hl hlm;have htl:=hI0.none hl;have hsl:∀y o,σ2 y=some o→(σ2.set l (.loop fr n [9] assign body .ready none)) y=some o:=B2 hl fun _ _ h=>h;refine(Q4 (t:=t) (b1:=b1) (b2:=b2) hT (fun i σ'=>OnI σ d (T.take i) σ'∧σ' l=some (.loop fr n [9] assign body .ready none)) ?_ ?_ ?_ ⟨by simpa using hI0.more hsl,Ab⟩).mono ?_
  ·rintro i σ5 ⟨g1,g2⟩
   exact⟨g1.sub h,g1.sub h1,g1.sub h2⟩
  ·rintro i σ5 σ6 ⟨g1,g2⟩ hs
   exact⟨g1.more hs,hs _ _ g2⟩
  ·rintro i σ5 hil ⟨g1,g2⟩
   refine Ut hA g2 rfl (by rw[hA,hB];rfl) ?_;have hbg:=fun k fr1 σ1=>Wq (P:=Tryz.prog) (l:=l) (fr:=fr) (fr1:=fr1) (σ1:=σ1) (ps:=[9]) (n:=n) (assign:=assign) (k:=k) hB;simp only[go_sem];refine Ay fun q hq hqm=>?_;obtain⟨σ6,e6⟩:∃s,s=σ5.set q (.cells T[i].cs):=⟨_,rfl⟩;have hs6:∀y o,σ5 y=some o→σ6 y=some o:=by rw[e6];exact B2 hq fun _ _ h=>h
   have hq6:σ6 q=some (.cells T[i].cs):=by rw[e6];exact Ab
   have g1':=g1.more hs6;have g2':=hs6 _ _ g2;simp only[go_sem,Ab,Cc,←e6,hbg];clear e6 hqm hq g1 g2;refine⟨g2',?_⟩;have g3:=g1'.loop (σ':=σ6.set l (.loop fr n [9] assign body .busy none)) g2' htl fun y hy=>Af hy;have g4:(σ6.set l (.loop fr n [9] assign body .busy none)) l=some (.loop fr n [9] assign body .busy none):=Ab;have g5:(σ6.set l (.loop fr n [9] assign body .busy none)) q=some (.cells T[i].cs):=by rw[Af (fun e=>by rw[e,g2']at hq6;cases hq6)];exact hq6
   revert g3 g4 g5;generalize σ6.set l (.loop fr n [9] assign body .busy none)=σ7;intro g3 g4 g5;obtain⟨hd0,lv,k1,k2,k3⟩:=g3;have hld:l≠d:=fun e=>by rw[e,k1]at g4;cases g4
   have nl:¬Own lv l:=fun ho=>by obtain⟨cap,h⟩:=k2.own_rows ho;rw[g4]at h;cases h
   simp only[go_sem,Aa,f3,k1,g5];refine Ap (ys:=[T[i].cs]) rfl (by decide) (by decide) (by decide) (k2.app (by rw[Am,List.length_take];simp only[List.length_cons,List.length_nil];omega) fun lv' σ8 hL4 hs4=>?_);obtain⟨g6,g7⟩:=OnI.app hd0 k1 k2 k3 hL4 hs4;have m6:=hs4 _ _ g4 nl;simp only[go_sem,Aa,g7,f3,hL4.one,hL4.cells,Xz];have g6':(σ8.set d (.cells [lv'])) l=some (.loop fr n [9] assign body .busy none):=by rw[Af hld];exact m6.1
   have ht:T.take i++[T[i]]=T.take (i+1):=by rw[List.take_add_one,List.getElem?_eq_getElem hil];rfl
   rw[ht]at g6;exact⟨⟨_,g6'⟩,g6.loop (σ':=(σ8.set d (.cells [lv'])).set l (.loop fr n [9] assign body .ready none)) g6' htl (fun y hy=>Af hy)⟩
  ·rintro _ σ5 ⟨g1,g2⟩
   rw[List.take_of_length_le (by omega)]at g1;have hdel:∀y,y≠l→(σ5.del l) y=σ5 y:=fun y hy=>by simp only[St.del];rw[if_neg hy]
   have g3:=g1.loop g2 htl hdel;unfold M8;rw[g2];refine⟨(by intro h;cases h),?_⟩;unfold Sc
   dsimp only
   obtain⟨_,lv,k1,k2,k3⟩:=g3;simp only[go_sem,Aa,f3,k1];exact Ad (r:=lv) rfl ⟨k2,k3⟩
 exact hm.post (by kernel_rfl) fun r σ' ⟨h1,h2⟩=>⟨_,_,Gf h1 h2,rfl,rfl⟩
end
section
variable{σ:St}
set_option maxHeartbeats 1600000 in
theorem evalLeast_at(hlive:∀σ,AT Tryz.prog 12 [] σ fun r σ'=>r=boo true∧σ'=σ)(me:ByteArray)(names:List ByteArray)(lim:Int)(rs:List Rl)(l:List Ac)(hw:C7Wf rs l):
  AT Tryz.prog 5 [.agg (c7C me names lim rs),.sl 5 (acC l)] σ fun v σ'=>v=boo true:=by
 refine AT.ob Tryz.func5 rfl ?_;have ho:(c7C me names lim rs).all AV.one=true:=rfl;simp only[go_sem,ho];refine Ctx.nil.alloc fun p σ1 c1=>?_;have hp:=c1.g0;clear c1;simp only[go_sem,hp];refine(Agp me names lim rs l hw .sl).mono ?_;rintro _ σ1 ⟨⟨b,rfl,hb⟩,rfl⟩;cases b with
 |false=>
  simp only[go_sem,Bool.not_false];refine(hlive _).p ?_;simp only[go_sem];exact Ad (r:=boo true) rfl rfl
 |true=>
 have hS:=hb rfl;have rl80:=hS.rl;have nm8:=hS.nm;simp only[go_sem,Bool.not_true,hp];refine(Ahh me names lim rs (by omega) (by omega) hS.rs).mono ?_;rintro _ σ1 ⟨⟨b,rfl,hb2⟩,rfl⟩;cases b with
 |false=>
  simp only[go_sem,Bool.not_false];refine(hlive _).p ?_;simp only[go_sem];exact Ad (r:=boo true) rfl rfl
 |true=>
 obtain⟨hR,hN⟩:=hb2 rfl;simp only[go_sem,Bool.not_true,hp];refine(Ary me names lim rs l hS .sl).mono ?_;rintro _ σ2 (⟨rfl,hs2⟩|⟨x,a,y,b,rfl,Fn,B,F2⟩)
 ·simp only[go_sem,Bool.not_false]
  refine(hlive _).p ?_;simp only[go_sem];exact Ad (r:=boo true) rfl rfl
 obtain⟨s,hs⟩:∃s,s=finS me names rs l:=⟨_,rfl⟩;rw[←hs]at Fn B;have hp2:=(F2 _ _ hp).1;have hy:=B.ey.cx;have hgv:=B.ey.gsl;have gl:=Fn.gl;have htx:TB σ2 a.t s.T s.lim:=B.ex.ct;have tok:=Fn.ok.tok;have tl:=tok.len;simp only[go_sem,Bool.not_true];refine Ag [.rd 0 true,.rd 1 false,.rd 2 false,.rd 3 false,.rd 4 true,.ef 5 [],.rd 6 false,.rd 7 false,.rd 8 false,.rd 9 false,.rd 10 false,.rd 11 false,.rd 12 false] ?_;simp only[go_sem,hp2,hy,hgv];refine(Am6 me names lim rs s.given hS.rs (by omega) (by omega) (by omega) Fn.ok.gs).mono ?_;rintro _ σ3 ⟨m,b3,rfl,hF,hm1,hm2,rfl⟩;cases b3 with
 |false=>
  simp only[go_sem,Bool.not_false];refine(hlive _).p ?_;simp only[go_sem];exact Ad (r:=boo true) rfl rfl
 |true=>
 obtain⟨e1,e2⟩:=Agt Fn.inv Fn.q Fn.eme Fn.enames Fn.erules tok.rises (hF rfl) hR hN Fn.nm;rw[←e1,←e2];simp only[go_sem,Bool.not_true];refine(Qf B.ex).mono ?_;rintro _ σ4 ⟨b1,b2,rfl,c4⟩;have B4:=B.more c4.sub;obtain⟨⟨k1,k2⟩,_⟩:=c4.g1;have htx4:TB σ4 a.t s.T s.lim:=c4.sub _ _ htx;simp only[go_sem];refine(Qm htx4 tok k2 k1).p ?_;simp only[go_sem];refine(Aad (a:=s.T) (b:=s.T) .sl .sl (by omega) tok.sm (by omega) tok.sm).p ?_;have xl:(Iw s).length≤400:=by rw[e2];exact Nat.le_trans (List.length_filter_le _ _) hm1
 have xs:∀f∈Iw s,f.Sm:=fun f hf=>by rw[e2]at hf;exact hm2 f (List.mem_filter.1 hf).1
 simp only[go_sem,decide_true];refine(Zs B4.ex Fn.ok (by omega)).p ?_;simp only[go_sem];refine(Aad (a:=Iw s) (b:=Iw s) .sl .sl (by omega) xs (by omega) xs).p ?_;simp only[go_sem,decide_true];refine(Ra B4.ex).p ?_;have q0:decide (((s.queue.length:Nat):Int)=0)=true:=by rw[Fn.q];rfl
 simp only[go_sem,q0];refine(Ai5 B4.ex).p ?_;simp only[go_sem,Fn.full,Bool.not_false];refine(hlive _).p ?_;simp only[go_sem];exact Ad (r:=boo true) rfl rfl
end
def txA:ByteArray:=⟨#[97]⟩
def tmX:Tm:=⟨⟨#[88]⟩,false,0,emp⟩
def rlA:Rl:=⟨⟨⟨#[65]⟩,false,0,emp⟩,⟨#[112]⟩,[tmX],.zero,[⟨.zero,⟨#[113]⟩,[tmX],.zero⟩]⟩
def faA:Fa:=⟨txA,txA,⟨#[113]⟩,[⟨true,1,emp⟩]⟩
def fpA:Fa:=⟨txA,txA,⟨#[112]⟩,[⟨true,1,emp⟩]⟩
def liv(T:List Fa)(B:List De)(g q:List Fa):ES:=⟨txA,[txA],[rlA],T,9,B,g,q,[],false⟩
def deA:De:=⟨0,fpA,[faA]⟩
theorem Ap9:Ex txA [txA] 9 [rlA]=liv [] [] [] []:=by kernel_rfl
theorem Aj3:Ec (liv [] [] [] []) faA=(0,liv [] [] [faA] [faA]):=by kernel_rfl
theorem Aj4:Bs (liv [] [] [faA] [faA])=(true,liv [faA] [deA] [faA] [fpA]):=by kernel_rfl
theorem Aj5:Bs (liv [faA] [deA] [faA] [fpA])=(true,liv [fpA,faA] [deA] [faA] []):=by kernel_rfl
theorem Aqa:Gs (liv [fpA,faA] [deA] [faA] []) faA=(0,liv [] [] [] []):=by kernel_rfl
theorem Aez:H5 (liv [] [] [faA] [faA]):=fun _ f q hq _ _ i hi j hj=>by
 injection hq with e1 e2;subst e1;obtain rfl:i=0:=by have:i<1:=hi;omega
 obtain rfl:j=0:=by have:j<1:=hj;omega
 exact Nat.le_of_ble_eq_true (by kernel_rfl)
theorem Ae0:H5 (liv [faA] [deA] [faA] [fpA]):=fun _ f q hq _ _ i hi j hj=>by
 injection hq with e1 e2;subst e1;obtain rfl:i=0:=by have:i<1:=hi;omega
 obtain rfl:j=0:=by have:j<1:=hj;omega
 exact Nat.le_of_ble_eq_true (by kernel_rfl)
theorem Ak2:∀r∈[rlA],r.S4:=fun r hr=>by
 rw[List.mem_singleton.1 hr];exact⟨⟨by decide,fun l hl=>by rw[List.mem_singleton.1 hl];decide⟩,by decide⟩
theorem Ack:SOk 2 (liv [] [] [] []):=by
 rw[←Ap9];exact Yk (n:=0) (Nm (by omega) (by omega) Ak2 (by decide) (by decide)) 1
theorem Aj6:SOk 3 (liv [] [] [faA] [faA]):=by
 have:=(Xf (f:=faA) (g:=0) Ack (Nat.le_refl _) (by decide)).1;rw[Aj3]at this;exact this
theorem Aj7:SOk 60005 (liv [faA] [deA] [faA] [fpA]):=by
 have:=Ud Aj6 Aez;rw[Aj4]at this;exact this
theorem Aj8:SOk 120007 (liv [fpA,faA] [deA] [faA] []):=by
 have:=Ud Aj7 Ae0;rw[Aj5]at this;exact this
theorem Aro:SOk 120007 (liv [] [] [] []):=Ack.le (by decide)
section
variable{σ:St}
theorem elive_at(hp:∀σ,AT Tryz.prog 42 [str ⟨#[65,58,32,112,40,88,41,32,58,45,32,113,40,88,41,46]⟩] σ fun r σ'=>r= .tup [.sl 11 (rlC [rlA]),int 0,int 0]∧σ'=σ):AT Tryz.prog 12 [] σ fun r σ'=>r=boo true∧σ'=σ:=by
 refine AT.ob Tryz.func12 rfl ?_;simp only[go_sem];refine(hp σ).p ?_;simp only[go_sem];have hnew:=Aen (σ:=σ) txA [txA] 9 [rlA] (by decide) (by decide) Ak2;refine(AT.weak hnew (show VWs σ σ [str txA,.fsl 1 [[str txA]],int 9,.sl 11 (rlC [rlA])] [str txA,.sl 1 (stC [txA]),int 9,.sl 11 (rlC [rlA])]from vws_same Om)).mono ?_;rintro _ σ1 (⟨rfl,hbad,hs3⟩|⟨_,_,_,_,x,a,rfl,E1,F1⟩)
 ·rcases hbad with h|h|h
  ·exact absurd (List.mem_singleton.2 rfl) h
  ·obtain⟨r,hr,y,hy,hne⟩:=h
   rw[List.mem_singleton.1 hr]at hy;rw[List.mem_singleton.1 hy]at hne;exact absurd rfl hne
  ·exact absurd ⟨by omega,by omega⟩ h
 rw[Ap9]at E1;simp only[go_sem];clear hnew;refine Ay fun q hq _=>?_;have nq:¬Bn x a q:=fun hf=>by obtain⟨o,ho⟩:=If E1 hf;rw[hq]at ho;cases ho
 have sq:σ q=none:=Cy (fun y o hy=>(F1 y o hy).1) hq;simp only[go_sem,Ab,Cc];have hvw:∀{τ τ':St},VWs τ τ' [str txA,str txA,str ⟨#[113]⟩,.fsl 3 [[boo true,int 1,str emp]]] faA.cs:=fun{τ τ'}=>
  vws_same (vws_same (vws_same (vws_cons (LAt.full.vw_same fun z hz=>absurd hz A3) By)))
 have sv:SV (σ1.set q (.cells [str txA,str txA,str ⟨#[113]⟩,.fsl 3 [[boo true,int 1,str emp]]])) (σ1.set q (.cells faA.cs)):=Kw (o:=.cells [str txA,str txA,str ⟨#[113]⟩,.fsl 3 [[boo true,int 1,str emp]]]) Ab hvw fun y o hy ho=>by rw[Af hy];exact ho
 have E2:EV false (σ1.set q (.cells faA.cs)) x a (liv [] [] [] []) false:=E1.more (B2 hq fun _ _ h=>h);have hq2:(σ1.set q (.cells faA.cs)) q=some (.cells faA.cs):=Ab;have F2:∀y o,σ y=some o→(σ1.set q (.cells faA.cs)) y=some o:=fun y o hy=>by rw[Af fun e=>by rw[e,sq]at hy;cases hy];exact(F1 y o hy).1
 have hsm:faA.Sm:=by show([⟨true,1,emp⟩]:List Cn).length≤_;simp
 refine(AT.pre (Tb E2 Ack (by decide) faA) (by kernel_rfl) sv (vws_same (vws_cons (.agg [str txA,str txA,str ⟨#[113]⟩,.fsl 3 [[boo true,int 1,str emp]]] faA.cs rfl hvw.2) By))).mono ?_;generalize σ1.set q (.cells faA.cs)=σ2 at hq2 F2;rintro _ σ3 ⟨rfl,a3,E3,G3⟩;have q3:=G3 _ _ hq2 nq;have F3:∀y o,σ y=some o→σ3 y=some o∧¬Bn x a3 y:=fun y o hy=>G3 _ _ (F2 y o hy) (F1 y o hy).2;rw[Aj3]at E3;simp only[go_sem,Aj3];refine(Oe E3 Aj6 (by decide) Aez).mono ?_;rintro _ σ4 ⟨rfl,a4,E4,G4⟩;have q4:=G4 _ _ q3.1 q3.2;have F4:∀y o,σ y=some o→σ4 y=some o∧¬Bn x a4 y:=fun y o hy=>G4 _ _ (F3 y o hy).1 (F3 y o hy).2;rw[Aj4]at E4;simp only[go_sem,Aj4,Bool.not_true];refine(Ra E4).p ?_;have e1:(((liv [faA] [deA] [faA] [fpA]).queue.length:Nat):Int)=1:=rfl;simp only[go_sem,e1];refine(Oe E4 Aj7 (by decide) Ae0).mono ?_;rintro _ σ5 ⟨rfl,a5,E5,G5⟩;have q5:=G5 _ _ q4.1 q4.2;have F5:∀y o,σ y=some o→σ5 y=some o∧¬Bn x a5 y:=fun y o hy=>G5 _ _ (F4 y o hy).1 (F4 y o hy).2;rw[Aj5]at E5;simp only[go_sem,Aj5,Bool.not_true];refine(Qf E5).mono ?_;rintro _ σ6 ⟨b1,b2,rfl,c6⟩;obtain⟨⟨k2,k1⟩,_⟩:=c6.g1;have E6:=E5.more c6.sub;have q6:=c6.sub _ _ q5.1;have F6:∀y o,σ y=some o→σ6 y=some o∧¬Bn x a5 y:=fun y o hy=>⟨c6.sub _ _ (F5 y o hy).1,(F5 y o hy).2⟩;clear c6;simp only[go_sem];refine(Qm (E6.ct) Aj8.tok k1 k2).p ?_;have e2:decide ((((liv [fpA,faA] [deA] [faA] []).T.length:Nat):Int)=2)=true:=rfl;simp only[go_sem,e2,q6];refine(Ta E6 Aj8 (by decide) faA hsm).mono ?_;rintro _ σ7 ⟨rfl,a7,E7,G7⟩;have F7:∀y o,σ y=some o→σ7 y=some o:=fun y o hy=>(G7 _ _ (F6 y o hy).1 (F6 y o hy).2).1;rw[Aqa]at E7;simp only[go_sem,Aqa];refine(Qf E7).mono ?_;rintro _ σ8 ⟨b3,b4,rfl,c8⟩;obtain⟨⟨k4,k3⟩,_⟩:=c8.g1;have E8:=E7.more c8.sub;have F8:∀y o,σ y=some o→σ8 y=some o:=fun y o hy=>c8.sub _ _ (F7 y o hy);simp only[go_sem];refine(Qm (E8.ct) Aro.tok k3 k4).p ?_;have e3:decide ((((liv [] [] [] []).T.length:Nat):Int)=0)=true:=rfl;simp only[go_sem,e3];exact Ae (r:=boo true) rfl _ σ (An F8) ⟨rfl,rfl⟩
end
theorem As4{n:Nat}{cs:List AV}(h:Ty Tryz.prog (n+3) 86 cs):∃c:Cn,cs=c.cs∧c.Wf:=by
 have hx:=Rf Tryz.underlying86 h;obtain⟨x1,y1,rfl,h1,x2,y2,rfl,h2,x3,y3,rfl,h3,rfl⟩:=hx;obtain⟨b,rfl⟩:=Af1 Tryz.underlying4 h1;obtain⟨k,rfl,_⟩:=Yg Tryz.underlying3 h2;obtain⟨s,rfl,hs⟩:=Jh Tryz.underlying9 h3;exact⟨⟨b,k,s⟩,rfl,hs⟩
theorem Aie{n:Nat}:∀(es:List (List AV)),(∀x∈es,Ty Tryz.prog (n+3) 86 x)→∃l:List Cn,es=cnC l∧∀c∈l,c.Wf
 | [],_=>⟨[],rfl,fun x hx=>by cases hx⟩
 |x::es,h=>by
  obtain⟨l,rfl,hl⟩:=Aie es fun y hy=>h y (by simp[hy]);obtain⟨t,rfl,ht⟩:=As4 (h x (by simp));exact⟨t::l,rfl,fun y hy=>by rcases List.mem_cons.1 hy with rfl|hy;exact ht;exact hl y hy⟩
theorem Ata{n:Nat}{cs:List AV}(h:Ty Tryz.prog (n+5) 30 cs):∃f:Fa,cs=f.cs∧f.Wf:=by
 have hx:=Rf Tryz.underlying30 h;obtain⟨x1,y1,rfl,h1,x2,y2,rfl,h2,x3,y3,rfl,h3,x4,y4,rfl,h4,rfl⟩:=hx;obtain⟨a,rfl,ha⟩:=Jh Tryz.underlying9 h1;obtain⟨b,rfl,hb⟩:=Jh Tryz.underlying9 h2;obtain⟨p,rfl,hp⟩:=Jh Tryz.underlying9 h3;obtain⟨es,rfl,hl,he⟩:=Ui Tryz.underlying28 h4;obtain⟨ts,rfl,hts⟩:=Aie es he;have e1:Tryz.prog.cellsOf 86=3:=by kernel_rfl
 have e2:Tryz.prog.bytesOf 86=32:=by kernel_rfl
 rw[e1];rw[e2,Hv]at hl;exact⟨⟨a,b,p,ts⟩,rfl,by show ts.length≤_;omega,ha,hb,hp,hts⟩
theorem Afm{n:Nat}:∀(es:List (List AV)),(∀x∈es,Ty Tryz.prog (n+7) 92 x)→∃l:List Rl,es=rlC l∧∀x∈l,x.Wf
 | [],_=>⟨[],rfl,fun x hx=>by cases hx⟩
 |x::es,h=>by
  obtain⟨l,rfl,hl⟩:=Afm es fun y hy=>h y (by simp[hy]);obtain⟨t,rfl,ht⟩:=Att (h x (by simp));exact⟨t::l,rfl,fun y hy=>by rcases List.mem_cons.1 hy with rfl|hy;exact ht;exact hl y hy⟩
theorem Aor{n:Nat}{cs:List AV}(h:Ty Tryz.prog (n+8) 23 cs):∃l:List Rl,cs=[.sl 11 (rlC l)]∧l.length≤140737488351232∧∀x∈l,x.Wf:=by
 obtain⟨es,rfl,hl,he⟩:=Ui Tryz.underlying23 h;obtain⟨ts,rfl,hts⟩:=Afm es he;have e1:Tryz.prog.cellsOf 92=11:=by kernel_rfl
 have e2:1≤Tryz.prog.bytesOf 92:=Nat.le_of_ble_eq_true (by kernel_rfl);rw[e1];rw[Ci]at hl;exact⟨ts,rfl,Nat.le_trans (Nat.le_mul_of_pos_right _ e2) hl,hts⟩
theorem Afw{n:Nat}:∀(es:List (List AV)),(∀x∈es,Ty Tryz.prog (n+1) 9 x)→∃l:List ByteArray,es=stC l
 | [],_=>⟨[],rfl⟩
 |x::es,h=>by
  obtain⟨l,rfl⟩:=Afw es fun y hy=>h y (by simp[hy]);obtain⟨t,rfl,_⟩:=Jh Tryz.underlying9 (h x (by simp));exact⟨t::l,rfl⟩
theorem Aoz{n:Nat}{cs:List AV}(h:Ty Tryz.prog (n+2) 22 cs):∃l:List ByteArray,cs=[.sl 1 (stC l)]:=by
 obtain⟨es,rfl,_,he⟩:=Ui Tryz.underlying22 h;obtain⟨ts,rfl⟩:=Afw es he;have e1:Tryz.prog.cellsOf 9=1:=by kernel_rfl
 rw[e1];exact⟨ts,rfl⟩
theorem Asz{n:Nat}{cs:List AV}(h:Ty Tryz.prog (n+9) 25 cs):∃(me:ByteArray) (names:List ByteArray) (lim:Int) (rs:List Rl),cs=c7C me names lim rs∧rs.length≤140737488351232∧∀r∈rs,r.Wf:=by
 have hx:=Rf Tryz.underlying25 h;obtain⟨x1,y1,rfl,h1,x2,y2,rfl,h2,x3,y3,rfl,h3,x4,y4,rfl,h4,rfl⟩:=hx;obtain⟨me,rfl,_⟩:=Jh Tryz.underlying9 h1;obtain⟨names,rfl⟩:=Aoz h2;obtain⟨lim,rfl,_⟩:=Yg Tryz.underlying3 h3;obtain⟨rs,rfl,h5,h6⟩:=Aor h4;exact⟨me,names,lim,rs,rfl,h5,h6⟩
theorem Asu{n:Nat}{cs:List AV}(h:Ty Tryz.prog (n+6) 32 cs):∃a:Ac,cs=a.cs∧a.f.Wf:=by
 have hx:=Rf Tryz.underlying32 h;obtain⟨x1,y1,rfl,h1,x2,y2,rfl,h2,rfl⟩:=hx;obtain⟨k,rfl,_⟩:=Yg Tryz.underlying3 h1;obtain⟨f,rfl,hf⟩:=Ata h2;exact⟨⟨k,f⟩,by simp[Ac.cs],hf⟩
theorem Ah5{n:Nat}:∀(es:List (List AV)),(∀x∈es,Ty Tryz.prog (n+6) 32 x)→∃l:List Ac,es=acC l∧∀a∈l,a.f.Wf
 | [],_=>⟨[],rfl,fun x hx=>by cases hx⟩
 |x::es,h=>by
  obtain⟨l,rfl,hl⟩:=Ah5 es fun y hy=>h y (by simp[hy]);obtain⟨t,rfl,ht⟩:=Asu (h x (by simp));exact⟨t::l,rfl,fun y hy=>by rcases List.mem_cons.1 hy with rfl|hy;exact ht;exact hl y hy⟩
theorem Aqy{n:Nat}{cs:List AV}(h:Ty Tryz.prog (n+7) 27 cs):∃l:List Ac,cs=[.sl 5 (acC l)]∧l.length≤140737488351232∧∀a∈l,a.f.Wf:=by
 obtain⟨es,rfl,hl,he⟩:=Ui Tryz.underlying27 h;obtain⟨ts,rfl,hts⟩:=Ah5 es he;have e1:Tryz.prog.cellsOf 32=5:=by kernel_rfl
 have e2:1≤Tryz.prog.bytesOf 32:=Nat.le_of_ble_eq_true (by kernel_rfl);rw[e1];rw[Df]at hl;exact⟨ts,rfl,Nat.le_trans (Nat.le_mul_of_pos_right _ e2) hl,hts⟩
theorem ca7_of{a b:AV}(ha:TyA Tryz.prog 9 25 a)(hb:TyA Tryz.prog 9 27 b):∃(me:ByteArray) (names:List ByteArray) (lim:Int) (rs:List Rl) (l:List Ac),a= .agg (c7C me names lim rs)∧b= .sl 5 (acC l)∧C7Wf rs l:=by
 obtain⟨cs,rfl,hx⟩:∃cs,a= .agg cs∧Ty Tryz.prog 9 25 cs:=by
  unfold TyA at ha;rw[Tryz.underlying25]at ha;exact ha
 have hb':Ty Tryz.prog 9 27 [b]:=by
  unfold TyA at hb;rw[Tryz.underlying27]at hb;exact hb
 obtain⟨me,names,lim,rs,rfl,h1,h2⟩:=Asz (n:=0) hx;obtain⟨l,e,h3,h4⟩:=Aqy (n:=2) hb';obtain rfl:b= .sl 5 (acC l):=by simpa using e
 exact⟨me,names,lim,rs,l,rfl,rfl,h1,h2,h3,h4⟩
def te3:TE:=⟨⟨false,1,[.int .i64 0],.int .i64⟩,false,false,false,false,false,true,none⟩
theorem Atx:Gl Tryz.prog 3 te3:=⟨by kernel_rfl,by kernel_rfl,by kernel_rfl,by kernel_rfl,by kernel_rfl,by kernel_rfl,by kernel_rfl,fun ls h=>by cases h⟩
def te5:TE:=⟨⟨false,1,[.int .u8 0],.int .u8⟩,false,false,false,false,false,true,none⟩
theorem Aty:Gl Tryz.prog 5 te5:=⟨by kernel_rfl,by kernel_rfl,by kernel_rfl,by kernel_rfl,by kernel_rfl,by kernel_rfl,by kernel_rfl,fun ls h=>by cases h⟩
def te9:TE:=⟨⟨false,1,[.string ⟨#[]⟩],.str⟩,false,false,false,false,false,true,none⟩
theorem Atz:Gl Tryz.prog 9 te9:=⟨by kernel_rfl,by kernel_rfl,by kernel_rfl,by kernel_rfl,by kernel_rfl,by kernel_rfl,by kernel_rfl,fun ls h=>by cases h⟩
def te20:TE:=⟨⟨false,1,[.nilIface],.iface⟩,false,false,false,false,false,false,none⟩
theorem Ar3:Gl Tryz.prog 20 te20:=⟨by kernel_rfl,by kernel_rfl,by kernel_rfl,by kernel_rfl,by kernel_rfl,by kernel_rfl,by kernel_rfl,fun ls h=>by cases h⟩
def te23:TE:=⟨⟨false,1,[.slice none 0 0],.sl 11 160 [.string ⟨#[]⟩,.bool false,.int .i64 0,.string ⟨#[]⟩,.string ⟨#[]⟩,.slice none 0 0,.string ⟨#[]⟩,.bool false,.int .i64 0,.string ⟨#[]⟩,.slice none 0 0] false⟩,true,false,false,false,false,true,none⟩
theorem Ar4:Gl Tryz.prog 23 te23:=⟨by kernel_rfl,by kernel_rfl,by kernel_rfl,by kernel_rfl,by kernel_rfl,by kernel_rfl,by kernel_rfl,fun ls h=>by cases h⟩
def te47:TE:=⟨⟨false,1,[.int .i64 0],.int .i64⟩,false,false,false,false,false,true,none⟩
theorem Ar5:Gl Tryz.prog 47 te47:=⟨by kernel_rfl,by kernel_rfl,by kernel_rfl,by kernel_rfl,by kernel_rfl,by kernel_rfl,by kernel_rfl,fun ls h=>by cases h⟩
def te86:TE:=⟨⟨true,3,[.bool false,.int .i64 0,.string ⟨#[]⟩],.st [(0,1,false),(1,1,false),(2,1,false)]⟩,false,false,false,false,false,true,(some [.b,.i .i64,.s])⟩
theorem Ar6:Gl Tryz.prog 86 te86:=⟨by kernel_rfl,by kernel_rfl,by kernel_rfl,by kernel_rfl,by kernel_rfl,by kernel_rfl,by kernel_rfl,fun ls h=>by cases h;exact⟨by kernel_rfl,by kernel_rfl,by kernel_rfl⟩⟩
def te88:TE:=⟨⟨true,4,[.string ⟨#[]⟩,.bool false,.int .i64 0,.string ⟨#[]⟩],.st [(0,1,false),(1,3,true)]⟩,false,false,false,false,false,true,(some [.s,.b,.i .i64,.s])⟩
theorem Ar7:Gl Tryz.prog 88 te88:=⟨by kernel_rfl,by kernel_rfl,by kernel_rfl,by kernel_rfl,by kernel_rfl,by kernel_rfl,by kernel_rfl,fun ls h=>by cases h;exact⟨by kernel_rfl,by kernel_rfl,by kernel_rfl⟩⟩
def te89:TE:=⟨⟨false,1,[.slice none 0 0],.sl 4 48 [.string ⟨#[]⟩,.bool false,.int .i64 0,.string ⟨#[]⟩] false⟩,true,false,false,false,false,true,none⟩
theorem Ar8:Gl Tryz.prog 89 te89:=⟨by kernel_rfl,by kernel_rfl,by kernel_rfl,by kernel_rfl,by kernel_rfl,by kernel_rfl,by kernel_rfl,fun ls h=>by cases h⟩
def te90:TE:=⟨⟨false,1,[.slice none 0 0],.sl 10 136 [.string ⟨#[]⟩,.bool false,.int .i64 0,.string ⟨#[]⟩,.string ⟨#[]⟩,.slice none 0 0,.string ⟨#[]⟩,.bool false,.int .i64 0,.string ⟨#[]⟩] false⟩,true,false,false,false,false,true,none⟩
theorem Ar9:Gl Tryz.prog 90 te90:=⟨by kernel_rfl,by kernel_rfl,by kernel_rfl,by kernel_rfl,by kernel_rfl,by kernel_rfl,by kernel_rfl,fun ls h=>by cases h⟩
def te92:TE:=⟨⟨true,11,[.string ⟨#[]⟩,.bool false,.int .i64 0,.string ⟨#[]⟩,.string ⟨#[]⟩,.slice none 0 0,.string ⟨#[]⟩,.bool false,.int .i64 0,.string ⟨#[]⟩,.slice none 0 0],.st [(0,4,true),(4,1,false),(5,1,false),(6,4,true),(10,1,false)]⟩,false,false,false,false,false,true,none⟩
theorem Asa:Gl Tryz.prog 92 te92:=⟨by kernel_rfl,by kernel_rfl,by kernel_rfl,by kernel_rfl,by kernel_rfl,by kernel_rfl,by kernel_rfl,fun ls h=>by cases h⟩
def Aqi:TE:=⟨⟨true,10,[.string ⟨#[]⟩,.bool false,.int .i64 0,.string ⟨#[]⟩,.string ⟨#[]⟩,.slice none 0 0,.string ⟨#[]⟩,.bool false,.int .i64 0,.string ⟨#[]⟩],.st [(0,4,true),(4,1,false),(5,1,false),(6,4,true)]⟩,false,false,false,false,false,true,none⟩
theorem Ao3:Gl Tryz.prog 104 Aqi:=⟨by kernel_rfl,by kernel_rfl,by kernel_rfl,by kernel_rfl,by kernel_rfl,by kernel_rfl,by kernel_rfl,fun ls h=>by cases h⟩
def Aqj:TE:=⟨⟨false,1,[.slice none 0 0],.sl 4 40 [.int .i64 0,.string ⟨#[]⟩,.int .i64 0,.int .i64 0] false⟩,true,false,false,false,false,true,none⟩
theorem Ao4:Gl Tryz.prog 130 Aqj:=⟨by kernel_rfl,by kernel_rfl,by kernel_rfl,by kernel_rfl,by kernel_rfl,by kernel_rfl,by kernel_rfl,fun ls h=>by cases h⟩
def Aqk:TE:=⟨⟨false,1,[.pointer none],.ptr 135⟩,false,true,false,false,false,true,none⟩
theorem Ao5:Gl Tryz.prog 133 Aqk:=⟨by kernel_rfl,by kernel_rfl,by kernel_rfl,by kernel_rfl,by kernel_rfl,by kernel_rfl,by kernel_rfl,fun ls h=>by cases h⟩
def Aql:TE:=⟨⟨true,2,[.slice none 0 0,.int .i64 0],.st [(0,1,false),(1,1,false)]⟩,false,false,false,false,false,true,none⟩
theorem Ao6:Gl Tryz.prog 135 Aql:=⟨by kernel_rfl,by kernel_rfl,by kernel_rfl,by kernel_rfl,by kernel_rfl,by kernel_rfl,by kernel_rfl,fun ls h=>by cases h⟩
def Aqm:TE:=⟨⟨true,2,[.int .i64 0,.int .i64 0],.st [(0,1,false),(1,1,false)]⟩,false,false,false,false,false,true,(some [.i .i64,.i .i64])⟩
theorem Ao7:Gl Tryz.prog 137 Aqm:=⟨by kernel_rfl,by kernel_rfl,by kernel_rfl,by kernel_rfl,by kernel_rfl,by kernel_rfl,by kernel_rfl,fun ls h=>by cases h;exact⟨by kernel_rfl,by kernel_rfl,by kernel_rfl⟩⟩
def Aqn:TE:=⟨⟨true,4,[.int .i64 0,.string ⟨#[]⟩,.int .i64 0,.int .i64 0],.st [(0,1,false),(1,1,false),(2,1,false),(3,1,false)]⟩,false,false,false,false,false,true,(some [.i .i64,.s,.i .i64,.i .i64])⟩
theorem Ao8:Gl Tryz.prog 186 Aqn:=⟨by kernel_rfl,by kernel_rfl,by kernel_rfl,by kernel_rfl,by kernel_rfl,by kernel_rfl,by kernel_rfl,fun ls h=>by cases h;exact⟨by kernel_rfl,by kernel_rfl,by kernel_rfl⟩⟩
def Aqo:TE:=⟨⟨false,1,[.nilFunc],.other⟩,false,false,true,false,false,true,none⟩
theorem Ao9:Gl Tryz.prog 218 Aqo:=⟨by kernel_rfl,by kernel_rfl,by kernel_rfl,by kernel_rfl,by kernel_rfl,by kernel_rfl,by kernel_rfl,fun ls h=>by cases h⟩
def tyT:Tr TE:=(.n (.n (.n (.n .e (.n (.n .e (.n .e (.n (.n (.n (.l Aqi) .e) .e) .e))) (.n (.n .e (.n (.n (.n (.l te88) .e) .e) .e)) .e))) (.n (.n .e (.n (.n (.n (.n (.n (.l te20) .e) .e) .e) .e) .e)) (.n .e (.n (.n .e (.n (.n (.n (.l te92) .e) .e) .e)) .e)))) (.n (.n (.n (.n (.n (.n .e (.n (.n (.l Aqj) .e) .e)) .e) .e) .e) (.n .e (.n (.n .e (.n (.n (.n (.l te90) .e) .e) (.n (.n (.l Aqo) .e) .e))) (.n (.n .e (.n (.n (.l Aqn) .e) .e)) .e)))) (.n (.n .e (.n (.n .e (.n (.n (.n (.l te86) .e) .e) .e)) .e)) .e))) (.n (.n (.n .e (.n (.n (.n (.n (.n (.n (.l te9) .e) .e) (.n (.n (.l Aqm) .e) .e)) .e) .e) (.n (.n .e (.n (.n (.n (.l te89) .e) .e) .e)) .e))) (.n (.n (.n (.n (.n (.n (.n (.l te5) .e) .e) (.n (.n (.l Aqk) .e) .e)) .e) .e) .e) .e)) (.n (.n (.n (.n (.n (.n (.n (.n (.l te3) .e) .e) .e) .e) .e) .e) .e) (.n (.n (.n (.n (.n .e (.n (.n (.l Aql) .e) .e)) .e) .e) (.n (.n (.n (.n (.n (.l te23) .e) .e) .e) .e) .e)) (.n (.n .e (.n (.n (.n (.n (.l te47) .e) .e) .e) .e)) .e)))))
theorem tyOk:tyT.All 10 (Gl Tryz.prog):=⟨⟨⟨⟨trivial,⟨⟨trivial,⟨trivial,⟨⟨⟨Ao3,trivial⟩,trivial⟩,trivial⟩⟩⟩,⟨⟨trivial,⟨⟨⟨Ar7,trivial⟩,trivial⟩,trivial⟩⟩,trivial⟩⟩⟩,⟨⟨trivial,⟨⟨⟨⟨⟨Ar3,trivial⟩,trivial⟩,trivial⟩,trivial⟩,trivial⟩⟩,⟨trivial,⟨⟨trivial,⟨⟨⟨Asa,trivial⟩,trivial⟩,trivial⟩⟩,trivial⟩⟩⟩⟩,⟨⟨⟨⟨⟨⟨trivial,⟨⟨Ao4,trivial⟩,trivial⟩⟩,trivial⟩,trivial⟩,trivial⟩,⟨trivial,⟨⟨trivial,⟨⟨⟨Ar9,trivial⟩,trivial⟩,⟨⟨Ao9,trivial⟩,trivial⟩⟩⟩,⟨⟨trivial,⟨⟨Ao8,trivial⟩,trivial⟩⟩,trivial⟩⟩⟩⟩,⟨⟨trivial,⟨⟨trivial,⟨⟨⟨Ar6,trivial⟩,trivial⟩,trivial⟩⟩,trivial⟩⟩,trivial⟩⟩⟩,⟨⟨⟨trivial,⟨⟨⟨⟨⟨⟨Atz,trivial⟩,trivial⟩,⟨⟨Ao7,trivial⟩,trivial⟩⟩,trivial⟩,trivial⟩,⟨⟨trivial,⟨⟨⟨Ar8,trivial⟩,trivial⟩,trivial⟩⟩,trivial⟩⟩⟩,⟨⟨⟨⟨⟨⟨⟨Aty,trivial⟩,trivial⟩,⟨⟨Ao5,trivial⟩,trivial⟩⟩,trivial⟩,trivial⟩,trivial⟩,trivial⟩⟩,⟨⟨⟨⟨⟨⟨⟨⟨Atx,trivial⟩,trivial⟩,trivial⟩,trivial⟩,trivial⟩,trivial⟩,trivial⟩,⟨⟨⟨⟨⟨trivial,⟨⟨Ao6,trivial⟩,trivial⟩⟩,trivial⟩,trivial⟩,⟨⟨⟨⟨⟨Ar4,trivial⟩,trivial⟩,trivial⟩,trivial⟩,trivial⟩⟩,⟨⟨trivial,⟨⟨⟨⟨Ar5,trivial⟩,trivial⟩,trivial⟩,trivial⟩⟩,trivial⟩⟩⟩⟩⟩
noncomputable def fe42:FE:=⟨Tryz.f42,[(3,[.rd 0 true,.rd 1 true,.ef 2 [0,1],.ef 3 [1],.ef 4 []]),(9,[.rd 0 true,.rd 1 false,.ef 2 [0],.rd 3 false,.ef 4 [],.ef 5 []])]⟩
noncomputable def fe83:FE:=⟨Tryz.f83,[]⟩
noncomputable def fe84:FE:=⟨Tryz.f84,[(3,[.rd 0 false,.rd 1 true,.rd 2 false,.rd 3 true,.ef 4 [1,3],.ef 5 [3],.ef 6 []])]⟩
noncomputable def fe85:FE:=⟨Tryz.f85,[]⟩
noncomputable def fe86:FE:=⟨Tryz.f86,[]⟩
noncomputable def fe87:FE:=⟨Tryz.f87,[(10,[.rd 0 false,.rd 1 true,.rd 2 false,.ef 3 [1],.rd 4 false,.ef 5 [],.rd 6 false,.ef 7 []])]⟩
noncomputable def Apk:FE:=⟨Tryz.f142,[]⟩
noncomputable def Apl:FE:=⟨Tryz.f143,[(7,[.rd 0 false,.rd 1 false,.rd 2 false,.rd 3 true,.rd 4 false,.ef 5 [3],.rd 6 false,.ef 7 []]),(10,[.rd 0 false,.rd 1 false,.rd 2 false,.rd 3 true,.rd 4 false,.ef 5 [3],.rd 6 false,.ef 7 []]),(24,[.rd 0 false,.rd 1 false,.rd 2 false,.rd 3 true,.rd 4 false,.ef 5 [3],.rd 6 false,.ef 7 []]),(26,[.rd 0 false,.rd 1 false,.rd 2 false,.rd 3 true,.rd 4 false,.ef 5 [3],.rd 6 false,.ef 7 []])]⟩
noncomputable def Apm:FE:=⟨Tryz.f144,[]⟩
noncomputable def Apn:FE:=⟨Tryz.f145,[]⟩
noncomputable def Apo:FE:=⟨Tryz.f146,[]⟩
noncomputable def App:FE:=⟨Tryz.f147,[]⟩
noncomputable def Apq:FE:=⟨Tryz.f148,[]⟩
noncomputable def Apr:FE:=⟨Tryz.f149,[]⟩
noncomputable def Aps:FE:=⟨Tryz.f150,[]⟩
noncomputable def Apt:FE:=⟨Tryz.f151,[]⟩
noncomputable def Apu:FE:=⟨Tryz.f182,[]⟩
noncomputable def Apv:FE:=⟨Tryz.f183,[]⟩
noncomputable def Apw:FE:=⟨Tryz.f184,[]⟩
noncomputable def Apx:FE:=⟨Tryz.f185,[]⟩
noncomputable def Apy:FE:=⟨Tryz.f186,[]⟩
noncomputable def Apz:FE:=⟨Tryz.f187,[]⟩
noncomputable def Ap0:FE:=⟨Tryz.f188,[]⟩
noncomputable def Ap1:FE:=⟨Tryz.f189,[]⟩
noncomputable def Ap2:FE:=⟨Tryz.f190,[]⟩
noncomputable def Ap3:FE:=⟨Tryz.f191,[]⟩
noncomputable def Ap4:FE:=⟨Tryz.f227,[]⟩
theorem Aq8:Fv Tryz.prog 42 fe42:=⟨Tryz.func42,by decide,by kernel_rfl⟩
theorem Aq9:Fv Tryz.prog 83 fe83:=⟨Tryz.func83,by decide,by kernel_rfl⟩
theorem Ara:Fv Tryz.prog 84 fe84:=⟨Tryz.func84,by decide,by kernel_rfl⟩
theorem Arb:Fv Tryz.prog 85 fe85:=⟨Tryz.func85,by decide,by kernel_rfl⟩
theorem Arc:Fv Tryz.prog 86 fe86:=⟨Tryz.func86,by decide,by kernel_rfl⟩
theorem Ard:Fv Tryz.prog 87 fe87:=⟨Tryz.func87,by decide,by kernel_rfl⟩
theorem Anc:Fv Tryz.prog 142 Apk:=⟨Tryz.func142,by decide,by kernel_rfl⟩
theorem Ane:Fv Tryz.prog 143 Apl:=⟨Tryz.func143,by decide,by kernel_rfl⟩
theorem Anf:Fv Tryz.prog 144 Apm:=⟨Tryz.func144,by decide,by kernel_rfl⟩
theorem Ang:Fv Tryz.prog 145 Apn:=⟨Tryz.func145,by decide,by kernel_rfl⟩
theorem Anh:Fv Tryz.prog 146 Apo:=⟨Tryz.func146,by decide,by kernel_rfl⟩
theorem Ani:Fv Tryz.prog 147 App:=⟨Tryz.func147,by decide,by kernel_rfl⟩
theorem Anj:Fv Tryz.prog 148 Apq:=⟨Tryz.func148,by decide,by kernel_rfl⟩
theorem Ank:Fv Tryz.prog 149 Apr:=⟨Tryz.func149,by decide,by kernel_rfl⟩
theorem Anl:Fv Tryz.prog 150 Aps:=⟨Tryz.func150,by decide,by kernel_rfl⟩
theorem Anm:Fv Tryz.prog 151 Apt:=⟨Tryz.func151,by decide,by kernel_rfl⟩
theorem Ann:Fv Tryz.prog 182 Apu:=⟨Tryz.func182,by decide,by kernel_rfl⟩
theorem Ano:Fv Tryz.prog 183 Apv:=⟨Tryz.func183,by decide,by kernel_rfl⟩
theorem Anp:Fv Tryz.prog 184 Apw:=⟨Tryz.func184,by decide,by kernel_rfl⟩
theorem Anq:Fv Tryz.prog 185 Apx:=⟨Tryz.func185,by decide,by kernel_rfl⟩
theorem Anr:Fv Tryz.prog 186 Apy:=⟨Tryz.func186,by decide,by kernel_rfl⟩
theorem Ans:Fv Tryz.prog 187 Apz:=⟨Tryz.func187,by decide,by kernel_rfl⟩
theorem Ant:Fv Tryz.prog 188 Ap0:=⟨Tryz.func188,by decide,by kernel_rfl⟩
theorem Anu:Fv Tryz.prog 189 Ap1:=⟨Tryz.func189,by decide,by kernel_rfl⟩
theorem Anv:Fv Tryz.prog 190 Ap2:=⟨Tryz.func190,by decide,by kernel_rfl⟩
theorem Anw:Fv Tryz.prog 191 Ap3:=⟨Tryz.func191,by decide,by kernel_rfl⟩
theorem Anx:Fv Tryz.prog 227 Ap4:=⟨Tryz.func227,by decide,by kernel_rfl⟩
noncomputable def ftT:Tr FE:=(.n (.n (.n (.n (.n .e (.n (.n (.n .e (.n (.n (.l Apm) .e) .e)) .e) .e)) (.n .e (.n .e (.n (.n .e (.n (.n (.l Apw) .e) .e)) .e)))) (.n (.n .e (.n (.n (.n .e (.n (.n (.l Apq) .e) .e)) (.n (.n (.n (.l fe84) .e) .e) .e)) .e)) (.n .e (.n .e (.n (.n .e (.n (.n (.l Ap0) .e) .e)) .e))))) (.n (.n (.n .e (.n (.n (.n .e (.n (.n (.l Apo) .e) .e)) .e) .e)) (.n (.n .e (.n (.n (.n (.n (.l fe42) .e) .e) .e) .e)) (.n .e (.n (.n .e (.n (.n (.l Apy) .e) .e)) .e)))) (.n (.n .e (.n (.n (.n .e (.n (.n (.l Aps) .e) .e)) (.n (.n (.n (.l fe86) .e) .e) .e)) (.n (.n .e (.n (.n (.l Apu) .e) .e)) .e))) (.n (.n (.n (.n .e (.n (.n (.l Apk) .e) .e)) .e) .e) (.n .e (.n (.n .e (.n (.n (.l Ap2) .e) .e)) .e)))))) (.n (.n (.n (.n .e (.n (.n (.n .e (.n (.n (.l Apn) .e) .e)) .e) .e)) (.n .e (.n .e (.n (.n .e (.n (.n (.l Apx) .e) .e)) .e)))) (.n (.n .e (.n (.n (.n .e (.n (.n (.l Apr) .e) .e)) (.n (.n (.n (.l fe85) .e) .e) .e)) .e)) (.n .e (.n .e (.n (.n .e (.n (.n (.l Ap1) .e) .e)) .e))))) (.n (.n (.n (.n .e (.n .e (.n .e (.n (.n (.l Ap4) .e) .e)))) (.n (.n (.n .e (.n (.n (.l App) .e) .e)) (.n (.n (.n (.l fe83) .e) .e) .e)) .e)) (.n .e (.n .e (.n (.n .e (.n (.n (.l Apz) .e) .e)) .e)))) (.n (.n .e (.n (.n (.n .e (.n (.n (.l Apt) .e) .e)) (.n (.n (.n (.l fe87) .e) .e) .e)) (.n (.n .e (.n (.n (.l Apv) .e) .e)) .e))) (.n (.n (.n (.n .e (.n (.n (.l Apl) .e) .e)) .e) .e) (.n .e (.n (.n .e (.n (.n (.l Ap3) .e) .e)) .e)))))))
theorem ftOk:ftT.All 10 (Fv Tryz.prog):=⟨⟨⟨⟨⟨trivial,⟨⟨⟨trivial,⟨⟨Anf,trivial⟩,trivial⟩⟩,trivial⟩,trivial⟩⟩,⟨trivial,⟨trivial,⟨⟨trivial,⟨⟨Anp,trivial⟩,trivial⟩⟩,trivial⟩⟩⟩⟩,⟨⟨trivial,⟨⟨⟨trivial,⟨⟨Anj,trivial⟩,trivial⟩⟩,⟨⟨⟨Ara,trivial⟩,trivial⟩,trivial⟩⟩,trivial⟩⟩,⟨trivial,⟨trivial,⟨⟨trivial,⟨⟨Ant,trivial⟩,trivial⟩⟩,trivial⟩⟩⟩⟩⟩,⟨⟨⟨trivial,⟨⟨⟨trivial,⟨⟨Anh,trivial⟩,trivial⟩⟩,trivial⟩,trivial⟩⟩,⟨⟨trivial,⟨⟨⟨⟨Aq8,trivial⟩,trivial⟩,trivial⟩,trivial⟩⟩,⟨trivial,⟨⟨trivial,⟨⟨Anr,trivial⟩,trivial⟩⟩,trivial⟩⟩⟩⟩,⟨⟨trivial,⟨⟨⟨trivial,⟨⟨Anl,trivial⟩,trivial⟩⟩,⟨⟨⟨Arc,trivial⟩,trivial⟩,trivial⟩⟩,⟨⟨trivial,⟨⟨Ann,trivial⟩,trivial⟩⟩,trivial⟩⟩⟩,⟨⟨⟨⟨trivial,⟨⟨Anc,trivial⟩,trivial⟩⟩,trivial⟩,trivial⟩,⟨trivial,⟨⟨trivial,⟨⟨Anv,trivial⟩,trivial⟩⟩,trivial⟩⟩⟩⟩⟩⟩,⟨⟨⟨⟨trivial,⟨⟨⟨trivial,⟨⟨Ang,trivial⟩,trivial⟩⟩,trivial⟩,trivial⟩⟩,⟨trivial,⟨trivial,⟨⟨trivial,⟨⟨Anq,trivial⟩,trivial⟩⟩,trivial⟩⟩⟩⟩,⟨⟨trivial,⟨⟨⟨trivial,⟨⟨Ank,trivial⟩,trivial⟩⟩,⟨⟨⟨Arb,trivial⟩,trivial⟩,trivial⟩⟩,trivial⟩⟩,⟨trivial,⟨trivial,⟨⟨trivial,⟨⟨Anu,trivial⟩,trivial⟩⟩,trivial⟩⟩⟩⟩⟩,⟨⟨⟨⟨trivial,⟨trivial,⟨trivial,⟨⟨Anx,trivial⟩,trivial⟩⟩⟩⟩,⟨⟨⟨trivial,⟨⟨Ani,trivial⟩,trivial⟩⟩,⟨⟨⟨Aq9,trivial⟩,trivial⟩,trivial⟩⟩,trivial⟩⟩,⟨trivial,⟨trivial,⟨⟨trivial,⟨⟨Ans,trivial⟩,trivial⟩⟩,trivial⟩⟩⟩⟩,⟨⟨trivial,⟨⟨⟨trivial,⟨⟨Anm,trivial⟩,trivial⟩⟩,⟨⟨⟨Ard,trivial⟩,trivial⟩,trivial⟩⟩,⟨⟨trivial,⟨⟨Ano,trivial⟩,trivial⟩⟩,trivial⟩⟩⟩,⟨⟨⟨⟨trivial,⟨⟨Ane,trivial⟩,trivial⟩⟩,trivial⟩,trivial⟩,⟨trivial,⟨⟨trivial,⟨⟨Anw,trivial⟩,trivial⟩⟩,trivial⟩⟩⟩⟩⟩⟩⟩
theorem Arj(vs:Array Value):Ym Tryz.prog 84 vs:=fun w=>by
 refine callsDIn_of_wpSIn Tryz.func84 rfl trivial fun c₀ cs hu=>?_;have hsz:14≤(vs++Array.replicate (14-vs.size) undef).size:=by simp;omega
 rw[show Tryz.f84.ntmps=14 from rfl];revert hsz;generalize vs++Array.replicate (14-vs.size) undef=tm;intro hsz;apply wpSIn_seq;apply wpSIn_region;simp[wpOpsSIn,go_sem,recoverD,hu,Exit.thenS];apply wpSIn_seq;apply wpSIn_region;have h3:3<tm.size:=by omega
 have h5:5<tm.size:=by omega
 have h6:6<tm.size:=by omega
 have h7:7<tm.size:=by omega
 simp[wpOpsSIn,go_sem,Exit.thenS,h3,h5,h6,h7,Act.eval,Act.put];refine wpSIn_cond (t:=false) (by simp[Act.eval,h3,h5,h6,h7]) ?_;simp only[Bool.false_eq_true,if_false];refine wpSIn_of_wpIn rfl (wpIn_skip ?_);cases c₀
 simp_all [bodyPostS,results,show Tryz.f84.results= #[]from rfl]
theorem prOk:PrOk Tryz.prog tyT ftT (fun f=>Nat.beq f 84) where
 mx:=by kernel_rfl
 ty:=fun t e ht he=>Tr.all_get tyOk (by simpa using ht) he
 ft:=fun t e ht he=>Tr.all_get ftOk (by simpa using ht) he
 idle:=fun f hf=>by
  rw[A1]at hf;subst hf;exact⟨⟨_,Tryz.func84,rfl,by decide⟩,Arj⟩
def txtL:RS:=.v (.string ⟨#[65,58,32,112,40,88,41,32,58,45,32,113,40,88,41,46]⟩)
def resT:AV:=.tup [.sl 11 [[.v (.string ⟨#[65]⟩),.v (.bool false),.v (.int .i64 0),.v (.string ⟨#[]⟩),.v (.string ⟨#[112]⟩),.sl 4 [[.v (.string ⟨#[88]⟩),.v (.bool false),.v (.int .i64 0),.v (.string ⟨#[]⟩)]],.v (.string ⟨#[]⟩),.v (.bool false),.v (.int .i64 0),.v (.string ⟨#[]⟩),
 .sl 10 [[.v (.string ⟨#[]⟩),.v (.bool false),.v (.int .i64 0),.v (.string ⟨#[]⟩),.v (.string ⟨#[113]⟩),.sl 4 [[.v (.string ⟨#[88]⟩),.v (.bool false),.v (.int .i64 0),.v (.string ⟨#[]⟩)]],.v (.string ⟨#[]⟩),.v (.bool false),.v (.int .i64 0),.v (.string ⟨#[]⟩)]]]],.v (.int .i64 0),.v (.int .i64 0)]
theorem runP:runV Tryz.prog tyT ftT (fun f=>Nat.beq f 84) 100000 40 12 42 [txtL]=some resT:=by kernel_rfl
theorem parse1_at{σ:St}:AT Tryz.prog 42 [.v (.string ⟨#[65,58,32,112,40,88,41,32,58,45,32,113,40,88,41,46]⟩)] σ fun r σ'=>r=resT∧σ'=σ:=by
 have h:=Aow (σ:=σ) prOk runP (by kernel_rfl) (fun _=>.v (.bool false)) (fun _=>⟨rfl,rfl⟩) (by simp only[RS.wfs,RS.wf,txtL];trivial);have e:RS.ivs ⟨fun i=>i,fun i=>i,fun _=>.v (.bool false)⟩ [txtL]=[.v (.string ⟨#[65,58,32,112,40,88,41,32,58,45,32,113,40,88,41,46]⟩)]:=by
  simp only[RS.ivs,RS.iv,RS.vv,txtL]
 rw[e]at h;exact h
end Go.Proofs.YtmifmncabejffaaGreat
