/-
  Contracts of the functions that the statement reaches, and the plain laws of what they reckon.
  Conditions: none.
-/
import Derived.Test.YtmifmncabejffaaGreatRows
import Derived.RecoverIn
import Derived.BigFrame
import Derived.Test.YtmifmncabejffaaGreatV1EvalDoes
import Derived.Test.YtmifmncabejffaaGreatV2EvalDoes
import Derived.Test.YtmifmncabejffaaGreatV3EvalDoes
import Derived.Test.YtmifmncabejffaaGreatX1EvalDoes
import Derived.Test.YtmifmncabejffaaGreatX2EvalDoes
import Derived.Test.YtmifmncabejffaaGreatX3EvalDoes
set_option linter.unusedVariables false
set_option linter.unusedSimpArgs false
set_option linter.unusedSectionVars false
set_option maxRecDepth 100000
namespace Go.Proofs.YtmifmncabejffaaGreat
open Go Go.Av
def Qe(l:List Rl):Prop:=∃r∈l,∃y∈r.bo,y.at'≠.zero
def iniS(me:ByteArray)(names:List ByteArray)(lim:Int)(rules:List Rl):ES:=⟨me,names,rules,[],lim,[],[],[],[],false⟩
def faZ:Fa:=⟨emp,emp,emp,[]⟩
def zerS(me:ByteArray)(rules:List Rl)(k:Nat)(s:ES):ES:=(List.range k).foldl (fun s i=>if(rules.getD i rlZ).bo.length=0 then bdS i (Gv (rules.getD i rlZ) me (-1) faZ []) s else s) s
def newS(me:ByteArray)(names:List ByteArray)(lim:Int)(rules:List Rl):ES:=zerS me rules rules.length (iniS me names lim rules)
theorem Lw{me:ByteArray}{rules:List Rl}{k:Nat}{s:ES}:zerS me rules (k+1) s=if(rules.getD k rlZ).bo.length=0 then bdS k (Gv (rules.getD k rlZ) me (-1) faZ []) (zerS me rules k s)else zerS me rules k s:=by
 unfold zerS;rw[List.range_succ,List.foldl_append];rfl
theorem Jk(me:ByteArray)(rules:List Rl)(s:ES):∀k,SK s (zerS me rules k s)
 |0=>.refl s
 |k+1=>by
  rw[Lw];split
  ·exact(Jk me rules s k).trans (Fj _ _ _)
  ·exact Jk me rules s k
theorem X3{r:Rl}{me:ByteArray}{j:Int}{f:Fa}{T:List Fa}(h:r.bo.length=0):(I8 r me j f T).length≤1:=by
 unfold I8;split
 ·have e:Hh r j=[]:=by
   have h1:=Mu r j;have h2:Perm r.bo.length (Hh r j):=(N7 r j).1;rw[h]at h2;cases ho:Hh r j with
   |nil=>rfl
   |cons k l=>
    have:=h2.2 k (by rw[ho];simp);omega
  rw[e];show(Cf r.ho r.bo (Cr j f T) [] _ _).length≤1;rw[Cf];simp
 ·simp
theorem R1{n:Nat}{me:ByteArray}{names:List ByteArray}{lim:Int}{rules:List Rl}(h1:1≤lim)(h2:lim≤4096)(hr:∀r∈rules,r.S4)(hl:rules.length≤1000000)(hn:names.length≤1000000):SOk n (iniS me names lim rules) where
 tok:=⟨.nil,Nat.zero_le _,(fun f hf=>by cases hf),(by show lim≠0;omega)⟩
 tl:=by show((0:Nat):Int)≤lim;omega
 lm:=h2
 br:=.nil
 bo:=Nat.zero_le _
 bs:=fun d hd=>by cases hd
 ql:=Nat.zero_le _
 qs:=fun d hd=>by cases hd
 os:=fun d hd=>by cases hd
 gr:=.nil
 gl:=Nat.zero_le _
 gs:=fun d hd=>by cases hd
 rs:=hr
 rl:=hl
 nl:=hn
theorem Abf{n:Nat}{me:ByteArray}{rules:List Rl}{s:ES}(h:SOk n s):∀k,SOk (n+2*k) (zerS me rules k s)
 |0=>h
 |k+1=>by
  have ih:=Abf (me:=me) (rules:=rules) h k;rw[Lw];split
  ·rename_i h0
   have h1:=X3 (me:=me) (j:= -1) (f:=faZ) (T:=[]) h0;have h2:(Gv (rules.getD k rlZ) me (-1) faZ []).length≤1:=Nat.le_trans Br (by simp only[List.length_nil];omega)
   exact(O4 k (m:=0) (by omega) _ _ ih fun b hb=>by
    have:=U4 (by show([]:List Cn).length≤_;simp) (fun y hy=>by cases hy) hb;rw[h0]at this;exact this).le (by omega)
  ·exact ih.le (by omega)
section
variable{σ:St}
theorem Vg(me:ByteArray)(names:List ByteArray)(lim:Int)(rules:List Rl)(hn:names.length≤1000000)(hl:rules.length≤1000000)(hr:∀r∈rules,r.S4):
  AT Tryz.prog 15 [str me,.sl 1 (stC names),int lim,.sl 11 (rlC rules)] σ fun v σ'=>
   (v= .tup [.v (.pointer none),int 2]∧(me∉names∨Qe rules∨¬(1≤lim∧lim≤4096))∧∀y o,σ y=some o→σ' y=some o)∨
   (me∈names∧¬Qe rules∧1≤lim∧lim≤4096∧∃x a,v= .tup [ptr x,int 0]∧EV false σ' x a (newS me names lim rules) false∧∀y o,σ y=some o→σ' y=some o∧¬Bn x a y):=by
 refine AT.ob Tryz.func15 rfl ?_;have no:(me∉names∨Qe rules∨¬(1≤lim∧lim≤4096))→∀{fr:Fr} {σ':St},(∀y o,σ y=some o→σ' y=some o)→Bb Tryz.prog fr σ' (Tryz.f15).results.toList=some (.tup [.v (.pointer none),int 2])→D3 Tryz.prog (fun v σ'=>(v= .tup [.v (.pointer none),int 2]∧(me∉names∨Qe rules∨¬(1≤lim∧lim≤4096))∧∀y o,σ y=some o→σ' y=some o)∨(me∈names∧¬Qe rules∧1≤lim∧lim≤4096∧∃x a,v= .tup [ptr x,int 0]∧EV false σ' x a (newS me names lim rules) false∧∀y o,σ y=some o→σ' y=some o∧¬Bn x a y)) (Tryz.f15).results.toList fr σ':=fun h _ _ hs hr=>
  Ad hr (.inl ⟨rfl,h,hs⟩)
 simp only[go_sem];refine(Z1 (l:=names) (s:=me) (by omega) .sl).mono ?_;rintro _ σ ⟨rfl,rfl⟩;by_cases hnm:me∈names
 case neg=>
  simp only[go_sem,decide_eq_false hnm,Bool.not_false];exact no (.inl hnm) (fun _ _ h=>h) rfl
 simp only[go_sem,decide_eq_true hnm,Bool.not_true,Cm];refine⟨fun m fr σ'=>∃i:Nat,m=rules.length-i∧i≤rules.length∧(∀k (hk:k<rules.length),k<i→∀y∈rules[k].bo,y.at'= .zero)∧(∀y o,σ y=some o→σ' y=some o)∧fr 0=str me∧fr 1= .sl 1 (stC names)∧fr 2=int lim∧fr 3= .sl 11 (rlC rules)∧fr 25= .sl 11 (rlC rules)∧fr 26=int rules.length∧fr 27=int i,⟨_,0,rfl,by omega,fun k hk h=>by omega,fun _ _ h=>h,rfl,rfl,rfl,rfl,rfl,rfl,rfl⟩,?_⟩;rintro m fr σ1 ⟨i,rfl,hi,hz,hsb,f0,f1,f2,f3,f25,f26,f27⟩;simp only[go_sem,f26,f27];refine aIf_by (fun hlt=>?_) (fun hlt=>?_)
 case' refine_1=>
  have hil:i<rules.length:=by omega
  obtain⟨r,hrr⟩:∃r,r=rules[i]:=⟨_,rfl⟩;have hr4:=hr _ (List.getElem_mem hil);rw[←hrr]at hr4;have rg:(rlC rules).getD i []=r.cs:=by rw[hrr];exact C7 hil
  have h1:=hr4.1.1;simp only[go_sem,Aa,f25,f27,rg,Cm];refine⟨by omega,Ctx.nil.alloc fun p σ2 c2=>?_⟩;obtain⟨σ3,e3,c3⟩:=c2.abs 0 rfl (.cells r.cs);have hp:σ3 p=some (.cells r.cs):=c3.g0;have hs3:∀y o,σ y=some o→σ3 y=some o:=fun y o hy=>c3.sub _ _ (hsb y o hy);have lcl:=Gn r.bo;simp only[go_sem,Aa,c2.g0,e3,hp,lcl];clear e3 c3 c2 hsb;refine⟨fun m fr σ'=>∃j:Nat,m=r.bo.length-j∧j≤r.bo.length∧(∀k (hk:k<r.bo.length),k<j→r.bo[k].at'= .zero)∧(∀y o,σ y=some o→σ' y=some o)∧fr 0=str me∧fr 1= .sl 1 (stC names)∧fr 2=int lim∧fr 3= .sl 11 (rlC rules)∧fr 25= .sl 11 (rlC rules)∧fr 26=int rules.length∧fr 27=int i∧fr 32= .sl 10 (liC r.bo)∧fr 33=int r.bo.length∧fr 34=int j,⟨_,0,rfl,by omega,fun k hk h=>by omega,hs3,f0,f1,f2,f3,f25,f26,f27,rfl,rfl,rfl⟩,?_⟩;clear f0 f1 f2 f3 f25 f26 f27 hs3 hp;rintro m fr σ1 ⟨j,rfl,hj,hz2,hsb,f0,f1,f2,f3,f25,f26,f27,f32,f33,f34⟩;simp only[go_sem,f33,f34];refine aIf_by (fun hlt=>?_) (fun hlt=>?_)
  ·have hjl:j<r.bo.length:=by omega
   simp only[go_sem,Aa,f32,f34,Et hjl,lcl];refine⟨by omega,Ctx.nil.alloc fun q σ2 c2=>?_⟩;obtain⟨σ3,e3,c3⟩:=c2.abs 0 rfl (.cells r.bo[j].cs);have hq:σ3 q=some (.cells r.bo[j].cs):=c3.g0;have hs3:∀y o,σ y=some o→σ3 y=some o:=fun y o hy=>c3.sub _ _ (hsb y o hy);simp only[go_sem,Aa,c2.g0,e3,hq];clear e3 c3 c2 hsb hq;refine Air ?_;by_cases hat:r.bo[j].at'= .zero
   ·simp only[go_sem,Aa,decide_eq_true hat,f34,Ai (show j<9223372036854775807 by omega)]
    refine⟨r.bo.length-(j+1),by omega,j+1,rfl,by omega,fun k hk hkj=>?_,hs3,f0,f1,f2,f3,f25,f26,f27,f32,f33,rfl⟩;by_cases e:k=j
    ·subst e;exact hat
    ·exact hz2 k hk (by omega)
   ·simp only[go_sem,Aa,decide_eq_false hat]
    refine no (.inr (.inl ⟨r,by rw[hrr];exact List.getElem_mem hil,_,List.getElem_mem hjl,hat⟩)) hs3 rfl
  ·simp only[go_sem,Aa,f27,Ai (show i<9223372036854775807 by omega)]
   refine⟨rules.length-(i+1),by omega,i+1,rfl,by omega,fun k hk hki=>?_,hsb,f0,f1,f2,f3,f25,f26,rfl⟩;by_cases e:k=i
   ·subst e
    intro y hy;rw[←hrr]at hy;obtain⟨q,hq,e⟩:=List.mem_iff_getElem.1 hy;rw[←e];exact hz2 q hq (by omega)
   ·exact hz k hk (by omega)
 have hgood:¬Qe rules:=fun⟨r,hm,y,hy,hne⟩=>by
  obtain⟨k,hk,e⟩:=List.mem_iff_getElem.1 hm;exact hne (hz k hk (by omega) y (by rw[e];exact hy))
 clear hz;simp only[go_sem,Aa,f2];refine(Al7 lim).mono ?_;intro v σ2 htn;by_cases hlim:1≤lim∧lim≤4096
 case neg=>
  rw[if_neg hlim]at htn;obtain⟨rfl,rfl⟩:=htn;simp only[go_sem,Aa];exact no (.inr (.inr hlim)) hsb rfl
 rw[if_pos hlim]at htn;obtain⟨t,ft,rfl,rfl⟩:=htn;obtain⟨σ2,e2⟩:∃s,s=σ1.set t (tbC [] lim):=⟨_,rfl⟩;have ht2:σ2 t=some (tbC [] lim):=by rw[e2];exact Ab
 have hs2:∀y o,σ1 y=some o→σ2 y=some o:=by rw[e2];exact Bt ft fun _ _ h=>h
 rw[←e2];clear e2;simp only[go_sem,Aa,f0,f1,f3];refine(Zi names (by omega)).mono ?_;rintro _ σ2 ⟨rfl,rfl⟩;simp only[go_sem,Aa,f0,f1,f3];refine(Ake rules hl hr).mono ?_;rintro _ σ2 ⟨rfl,rfl⟩;simp only[go_sem,Aa,f0,f1,f3];refine Ai6.mono ?_;rintro _ _ ⟨b,fb,rfl,rfl⟩;obtain⟨σ3,e3⟩:∃s,s=σ2.set b (bkC []):=⟨_,rfl⟩;have hb3:σ3 b=some (bkC []):=by rw[e3];exact Ab
 have hs3:∀y o,σ2 y=some o→σ3 y=some o:=by rw[e3];exact Bt fb fun _ _ h=>h
 rw[←e3];clear e3;simp only[go_sem,Aa,f0];refine Ax fun x hx hxm=>?_;clear hxm;obtain⟨a0,ha0⟩:∃a0:EA,a0=⟨t,b,A0,A0,A0⟩:=⟨_,rfl⟩;obtain⟨s0,hs0⟩:∃s0,s0=iniS me names lim rules:=⟨_,rfl⟩;have O0:SOk 0 s0:=by rw[hs0];exact R1 hlim.1 hlim.2 hr hl hn
 have hcells:([.v (.string me),.sl 1 (stC names),.sl 11 (rlC rules),.v (.pointer (some ⟨t,0,none⟩)),.v (.pointer (some ⟨b,0,none⟩)),.v (.slice none 0 0),.v (.slice none 0 0),.v (.slice none 0 0),.v (.bool false)]:List AV)=evC false s0 a0 false:=by rw[hs0,ha0];rfl
 rw[hcells];have ht3:=hs3 _ _ ht2;have nxt:x≠t:=fun e=>by rw[e,ht3]at hx;cases hx
 have nxb:x≠b:=fun e=>by rw[e,hb3]at hx;cases hx
 have ntb:t≠b:=fun e=>by rw[←e,ht2]at fb;cases fb
 have nq0:∀y,¬Own a0.gv y∧¬Io a0.qv y∧¬Own a0.ov y:=fun y=>by rw[ha0];exact⟨Bh,Sc,Bh⟩
 have at0:a0.t=t:=by rw[ha0]
 have ab0:a0.b=b:=by rw[ha0]
 have E4:EV false (σ3.set x (.cells (evC false s0 a0 false))) x a0 s0 false:=⟨Ab,by rw[at0,Ag nxt.symm,ht3,hs0];rfl,by rw[ab0,Ag nxb.symm,hb3,hs0];rfl,by rw[if_neg (by decide),ha0,hs0];exact .none,by rw[ha0,hs0];exact .nil,by rw[ha0,hs0];exact .none,by rw[at0];exact nxt,by rw[ab0];exact nxb,by rw[at0,ab0];exact ntb,fun y ho=>absurd ho (nq0 y).1⟩;have F4:∀y o,σ y=some o→(σ3.set x (.cells (evC false s0 a0 false))) y=some o∧¬Bn x a0 y:=fun y o hy=>by
  have y1:=hsb y o hy;have y3:=hs3 _ _ (hs2 _ _ y1);have nyx:y≠x:=fun e=>by rw[e,hx]at y3;cases y3
  refine⟨by rw[Ag nyx];exact y3,fun hf=>?_⟩;rcases hf with e|e|e|e|e|e
  ·exact nyx e
  ·rw[e,at0,ft]at y1;cases y1
  ·have y2:=hs2 _ _ y1
   rw[e,ab0,fb]at y2;cases y2
  ·exact(nq0 y).1 e
  ·exact(nq0 y).2.1 e
  ·exact(nq0 y).2.2 e
 have m0:s0.me=me:=by rw[hs0];rfl
 have r0:s0.rules=rules:=by rw[hs0];rfl
 generalize σ3.set x (.cells (evC false s0 a0 false))=σ4 at E4 F4⊢;clear hx nxt nxb ntb nq0 at0 ab0 ht3 hb3 hs3 fb ht2 hs2 ft hsb hcells;have hx4:=E4.cx;simp only[go_sem,Aa,hx4,r0,Cm];refine⟨fun m fr σ'=>∃(i:Nat) (a':EA) (s':ES),m=rules.length-i∧i≤rules.length∧s'=zerS me rules i s0∧SOk (2*i) s'∧EV false σ' x a' s' false∧(∀y o,σ y=some o→σ' y=some o∧¬Bn x a' y)∧fr 0=str me∧fr 16=ptr x∧fr 64= .sl 11 (rlC rules)∧fr 65=int rules.length∧fr 66=int i,⟨_,0,a0,s0,rfl,by omega,rfl,O0,E4,F4,f0,rfl,rfl,rfl,rfl⟩,?_⟩;clear E4 F4 f0 f1 f2 f3 f25 f26 f27 hx4 O0;rintro m fr σ1 ⟨i,a',s',rfl,hi,hs',hO,hE,hF,f0,f16,f64,f65,f66⟩;simp only[go_sem,f65,f66];refine aIf_by (fun hlt=>?_) (fun hlt=>?_)
 case' refine_2=>
  have ei:i=rules.length:=by omega
  rw[ei]at hs';simp only[go_sem,Aa,f16];exact Ad (r:=.tup [ptr x,int 0]) rfl (.inr ⟨hnm,hgood,hlim.1,hlim.2,x,a',rfl,by rw[show newS me names lim rules=s' by rw[hs',hs0];rfl];exact hE,hF⟩)
 have hil:i<rules.length:=by omega
 obtain⟨r,hrr⟩:∃r,r=rules[i]:=⟨_,rfl⟩;have hr4:=hr _ (List.getElem_mem hil);rw[←hrr]at hr4;have rg:(rlC rules).getD i []=r.cs:=by rw[hrr];exact C7 hil
 have hgr:rules.getD i rlZ=r:=by rw[Fm hil,hrr]
 have K':SK s0 s':=by rw[hs'];exact Jk _ _ _ _
 have lcl:=Gn r.bo;have nx:=Ai (show i<9223372036854775807 by omega);simp only[go_sem,Aa,f64,f66,rg,Cm];refine⟨by omega,Ctx.nil.alloc fun p σ2 c2=>?_⟩;obtain⟨σ3,e3,c3⟩:=c2.abs 0 rfl (.cells r.cs);have hp:σ3 p=some (.cells r.cs):=c3.g0;have np:¬Bn x a' p:=fun hf=>by
  obtain⟨o,ho⟩:=Gb hE hf;have:=c2.f0;rw[ho]at this;cases this
 have hE:=hE.more c3.sub;have hF:∀y o,σ y=some o→σ3 y=some o∧¬Bn x a' y:=fun y o hy=>⟨c3.sub _ _ (hF y o hy).1,(hF y o hy).2⟩;simp only[go_sem,Aa,c2.g0,e3,hp,lcl];clear e3 c3 c2;have es:=Lw (me:=me) (rules:=rules) (k:=i) (s:=s0);rw[hgr,←hs']at es;by_cases hbo:r.bo.length=0
 case neg=>
  rw[if_neg hbo]at es;have d1:=decide_eq_false (show¬(r.bo.length:Int)=0 by omega);simp only[go_sem,Aa,d1,f66,nx];exact⟨rules.length-(i+1),by omega,i+1,a',s',rfl,by omega,es.symm,hO.le (by omega),hE,hF,f0,f16,f64,f65,rfl⟩
 rw[if_pos hbo]at es;have d1:=decide_eq_true (show(r.bo.length:Int)=0 by omega);simp only[go_sem,Aa,d1,f0,hp];have hz1:=X3 (me:=me) (j:= -1) (f:=faZ) (T:=[]) hbo;have zsm:faZ.Sm:=by show([]:List Cn).length≤_;simp
 refine(AT.weak (args:=[.agg r.cs,str me,int (-1),.agg [str emp,str emp,str emp,A0],A0]) (Rv r me (-1) faZ [] hr4.1 zsm (by simp) (fun y hy=>by cases hy) (by omega)) (vws_same (vws_same (vws_same (vws_cons (.agg [str emp,str emp,str emp,A0] faZ.cs rfl (show VWs σ3 σ3 [str emp,str emp,str emp,A0] faZ.cs from vws_same (vws_same (vws_same (vws_cons (.nil 3) By)))).2) (vws_cons (.nil 4) By)))))).mono ?_;rintro _ σ3 ⟨rfl,rfl⟩;have hbm:∀b∈Gv r me (-1) faZ [],b.length=r.bo.length∧∀y∈b,y.Sm:=fun b hb=>U4 zsm (fun y hy=>by cases hy) hb;have hbl:(Gv r me (-1) faZ []).length≤1:=Nat.le_trans Br (by simp only[List.length_nil];omega);obtain⟨L,hL⟩:∃L,L=Gv r me (-1) faZ []:=⟨_,rfl⟩;rw[←hL]at hbm hbl es⊢;have bcl:(boC L).length=L.length:=by simp[boC]
 have OK0:SOk (2*i+2*0) s':=hO.le (by omega);simp only[go_sem,Aa,bcl];refine⟨fun m fr σ'=>∃(k:Nat) (a':EA) (s2:ES),m=L.length-k∧k≤L.length∧s2=bdS i (L.take k) s'∧SOk (2*i+2*k) s2∧EV false σ' x a' s2 false∧(∀y o,σ y=some o→σ' y=some o∧¬Bn x a' y)∧fr 0=str me∧fr 16=ptr x∧fr 17=int i∧fr 64= .sl 11 (rlC rules)∧fr 65=int rules.length∧fr 66=int i∧fr 78= .sl 1 (boC L)∧fr 79=int L.length∧fr 80=int k,⟨_,0,a',s',rfl,by omega,rfl,OK0,hE,hF,f0,f16,rfl,f64,f65,f66,rfl,rfl,rfl⟩,?_⟩;clear OK0 hE hF f0 f16 f64 f65 f66 hp np;rintro m fr σ2 ⟨k,a2,s2,rfl,hk,hs2,hO2,hE,hF,f0,f16,f17,f64,f65,f66,f78,f79,f80⟩;simp only[go_sem,f79,f80];refine aIf_by (fun hlt=>?_) (fun hlt=>?_)
 case' refine_2=>
  have ek:k=L.length:=by omega
  rw[ek,List.take_length,←es]at hs2;simp only[go_sem,Aa,f66,nx];exact⟨rules.length-(i+1),by omega,i+1,a2,s2,rfl,by omega,hs2,hO2.le (by omega),hE,hF,f0,f16,f64,f65,rfl⟩
 have hkl:k<L.length:=by omega
 have hb:=hbm _ (List.getElem_mem hkl);have K2:SK s0 s2:=by rw[hs2];exact K'.trans (Fj _ _ _)
 have rl2:s2.rules=rules:=K2.rules.trans r0;have hil2:i<s2.rules.length:=by rw[rl2];exact hil
 have hri:s2.rules[i]=r:=by rw[hrr];exact List.getElem_of_eq rl2 hil2
 simp only[go_sem,Aa,f16,f17,f78,f80,C0 hkl,bcl];refine⟨by omega,(X4 hE hO2 (by omega) i hil2 L[k] (by rw[hri];exact hb.1) hb.2).mono ?_⟩;rintro _ σ3 ⟨a3,E3,G3⟩;have O3:SOk (2*i+2*(k+1)) (Fx s2 i L[k]):=Rz hO2 i (by omega) hb.2;simp only[go_sem,Aa,f80,Ai (show k<9223372036854775807 by omega)];exact⟨L.length-(k+1),by omega,k+1,a3,_,rfl,by omega,by rw[M7 _ hkl,hs2],O3,E3,fun y o hy=>G3 y o (hF y o hy).1 (hF y o hy).2,f0,f16,f17,f64,f65,f66,f78,f79,rfl⟩
end
def zerD(me:ByteArray)(rules:List Rl)(k:Nat)(P:ES×Bool):ES×Bool:=(List.range k).foldl (fun P i=>if(rules.getD i rlZ).bo.length=0 then lkD me faZ [] i (rules.getD i rlZ) (-1) P else P) P
def newD(me:ByteArray)(names:List ByteArray)(lim:Int)(rules:List Rl):ES×Bool:=zerD me rules rules.length (iniS me names lim rules,false)
theorem Lv{me:ByteArray}{rules:List Rl}{k:Nat}{P:ES×Bool}:zerD me rules (k+1) P=if(rules.getD k rlZ).bo.length=0 then lkD me faZ [] k (rules.getD k rlZ) (-1) (zerD me rules k P)else zerD me rules k P:=by
 unfold zerD;rw[List.range_succ,List.foldl_append];rfl
theorem Pz(me:ByteArray)(rules:List Rl)(P:ES×Bool):∀k,SK P.1 (zerD me rules k P).1
 |0=>.refl _
 |k+1=>by
  rw[Lv];split
  ·exact(Pz me rules P k).trans (Fj _ _ _)
  ·exact Pz me rules P k
theorem Wp{me:ByteArray}{rules:List Rl}{P:ES×Bool}:∀k,(zerD me rules k P).2=false→P.2=false∧(zerD me rules k P).1=zerS me rules k P.1
 |0,h=>⟨h,rfl⟩
 |k+1,h=>by
  rw[Lv]at h⊢;rw[Lw];split at h
  ·rename_i h0
   rw[if_pos h0,if_pos h0];obtain⟨h1,h2,_⟩:=Ahm h;obtain⟨k1,k2⟩:=Wp k h1;exact⟨k1,by rw[h2,k2]⟩
  ·rename_i h0
   rw[if_neg h0,if_neg h0];exact Wp k h
theorem Agt:faZ.Sm:=by show([]:List Cn).length≤_;simp
theorem Adp{n:Nat}{me:ByteArray}{rules:List Rl}{P:ES×Bool}(h:SOk n P.1)(hr:∀r∈rules,r.S4):∀k,k≤rules.length→SOk (n+k*60004) (zerD me rules k P).1
 |0,_=>h.le (Nat.le_add_right _ _)
 |k+1,hk=>by
  have ih:=Adp (me:=me) (rules:=rules) h hr k (by omega);rw[Lv];split
  ·rename_i h0
   have e:rules.getD k rlZ=rules[k]:=Fm (by omega) _;rw[e]at h0⊢;have hr4:=hr _ (List.getElem_mem (show k<rules.length by omega));have h3:=docl (r:=rules[k]) (me:=me) (first:= -1) (f:=faZ) (l:=[]);exact(O4 k (m:=rules[k].bo.length) (by have:=hr4.1.1;omega) _ _ ih (U9 Agt (fun y hy=>by cases hy))).le (by omega)
  ·exact ih.le (by omega)
section
variable{σ:St}
set_option maxHeartbeats 1600000 in
theorem Alr(me:ByteArray)(names:List ByteArray)(lim:Int)(rules:List Rl)(hn:names.length≤1000000)(hl:rules.length≤1000000)(hr:∀r∈rules,r.S4):
  AT Tryz.prog 29 [str me,.sl 1 (stC names),int lim,.sl 11 (rlC rules)] σ fun v σ'=>
   (v= .tup [.v (.pointer none),int 2]∧(me∉names∨Qe rules∨¬(1≤lim∧lim≤4096))∧∀y o,σ y=some o→σ' y=some o)∨
   (me∈names∧¬Qe rules∧1≤lim∧lim≤4096∧∃x a,v= .tup [ptr x,int 0]∧EV true σ' x a (newD me names lim rules).1 (newD me names lim rules).2∧∀y o,σ y=some o→σ' y=some o∧¬Bn x a y):=by
 refine AT.ob Tryz.func29 rfl ?_;have no:(me∉names∨Qe rules∨¬(1≤lim∧lim≤4096))→∀{fr:Fr} {σ':St},(∀y o,σ y=some o→σ' y=some o)→Bb Tryz.prog fr σ' (Tryz.f29).results.toList=some (.tup [.v (.pointer none),int 2])→D3 Tryz.prog (fun v σ'=>(v= .tup [.v (.pointer none),int 2]∧(me∉names∨Qe rules∨¬(1≤lim∧lim≤4096))∧∀y o,σ y=some o→σ' y=some o)∨(me∈names∧¬Qe rules∧1≤lim∧lim≤4096∧∃x a,v= .tup [ptr x,int 0]∧EV true σ' x a (newD me names lim rules).1 (newD me names lim rules).2∧∀y o,σ y=some o→σ' y=some o∧¬Bn x a y)) (Tryz.f29).results.toList fr σ':=fun h _ _ hs hr=>
  Ad hr (.inl ⟨rfl,h,hs⟩)
 simp only[go_sem];refine(Aif names me (by omega)).mono ?_;rintro _ σ ⟨rfl,rfl⟩;by_cases hnm:me∈names
 case neg=>
  simp only[go_sem,decide_eq_false hnm,Bool.not_false];exact no (.inl hnm) (fun _ _ h=>h) rfl
 simp only[go_sem,decide_eq_true hnm,Bool.not_true,Cm];refine⟨fun m fr σ'=>∃i:Nat,m=rules.length-i∧i≤rules.length∧(∀k (hk:k<rules.length),k<i→∀y∈rules[k].bo,y.at'= .zero)∧σ'=σ∧fr 0=str me∧fr 1= .sl 1 (stC names)∧fr 2=int lim∧fr 3= .sl 11 (rlC rules)∧fr 10=int i,⟨_,0,rfl,by omega,fun k hk h=>by omega,rfl,rfl,rfl,rfl,rfl,rfl⟩,?_⟩;rintro m fr σ ⟨i,rfl,hi,hz,rfl,f0,f1,f2,f3,f10⟩;simp only[go_sem,f3,f10,Cm];refine aIf_by (fun hlt=>?_) (fun hlt=>?_)
 case' refine_1=>
  have hil:i<rules.length:=by omega
  obtain⟨r,hrr⟩:∃r,r=rules[i]:=⟨_,rfl⟩;have hr4:=hr _ (List.getElem_mem hil);rw[←hrr]at hr4;have rg:(rlC rules).getD i []=r.cs:=by rw[hrr];exact C7 hil
  have h1:=hr4.1.1;have lcl:=Gn r.bo;simp only[go_sem,Aa];refine⟨fun m fr σ'=>∃j:Nat,m=r.bo.length-j∧j≤r.bo.length∧(∀k (hk:k<r.bo.length),k<j→r.bo[k].at'= .zero)∧σ'=σ∧fr 0=str me∧fr 1= .sl 1 (stC names)∧fr 2=int lim∧fr 3= .sl 11 (rlC rules)∧fr 10=int i∧fr 11=int j,⟨_,0,rfl,by omega,fun k hk h=>by omega,rfl,f0,f1,f2,f3,f10,rfl⟩,?_⟩;clear f0 f1 f2 f3 f10;rintro m fr σ ⟨j,rfl,hj,hz2,rfl,f0,f1,f2,f3,f10,f11⟩;simp only[go_sem,f3,f10,f11,rg,Cm];refine⟨by omega,?_⟩;refine aIf_by (fun hlt=>?_) (fun hlt=>?_)
  ·have hjl:j<r.bo.length:=by omega
   simp only[go_sem,Aa,f3,f10,f11,rg,Cm,Et hjl,lcl];refine⟨by omega,by omega,Air ?_⟩;by_cases hat:r.bo[j].at'= .zero
   ·simp only[go_sem,Aa,decide_eq_true hat,f11,Ai (show j<9223372036854775807 by omega)]
    refine⟨r.bo.length-(j+1),by omega,j+1,rfl,by omega,fun k hk hkj=>?_,f0,f1,f2,f3,f10,rfl⟩;by_cases e:k=j
    ·subst e;exact hat
    ·exact hz2 k hk (by omega)
   ·simp only[go_sem,Aa,decide_eq_false hat]
    refine no (.inr (.inl ⟨r,by rw[hrr];exact List.getElem_mem hil,_,List.getElem_mem hjl,hat⟩)) (fun _ _ h=>h) rfl
  ·simp only[go_sem,Aa,f10,Ai (show i<9223372036854775807 by omega)]
   refine⟨rules.length-(i+1),by omega,i+1,rfl,by omega,fun k hk hki=>?_,f0,f1,f2,f3,rfl⟩;by_cases e:k=i
   ·subst e
    intro y hy;rw[←hrr]at hy;obtain⟨q,hq,e⟩:=List.mem_iff_getElem.1 hy;rw[←e];exact hz2 q hq (by omega)
   ·exact hz k hk (by omega)
 have hgood:¬Qe rules:=fun⟨r,hm,y,hy,hne⟩=>by
  obtain⟨k,hk,e⟩:=List.mem_iff_getElem.1 hm;exact hne (hz k hk (by omega) y (by rw[e];exact hy))
 clear hz;simp only[go_sem,Aa,f2];refine(Ain lim).mono ?_;intro v σ2 htn;by_cases hlim:1≤lim∧lim≤4096
 case neg=>
  rw[if_neg hlim]at htn;obtain⟨rfl,rfl⟩:=htn;simp only[go_sem,Aa];exact no (.inr (.inr hlim)) (fun _ _ h=>h) rfl
 rw[if_pos hlim]at htn;obtain⟨t,ft,rfl,rfl⟩:=htn;obtain⟨σ2,e2⟩:∃s,s=σ.set t (tbC [] lim):=⟨_,rfl⟩;have ht2:σ2 t=some (tbC [] lim):=by rw[e2];exact Ab
 have hs2:∀y o,σ y=some o→σ2 y=some o:=by rw[e2];exact Bt ft fun _ _ h=>h
 rw[←e2];clear e2;simp only[go_sem,Aa,f0,f1,f3];refine Ax fun b fb _=>?_;simp only[go_sem,Aa];obtain⟨σ3,e3⟩:∃s,s=σ2.set b (.cells [.v (.slice none 0 0)]):=⟨_,rfl⟩;have hb3:σ3 b=some (.cells [A0]):=by rw[e3];exact Ab
 have hs3:∀y o,σ2 y=some o→σ3 y=some o:=by rw[e3];exact Bt fb fun _ _ h=>h
 rw[←e3];clear e3;refine Ax fun x hx _=>?_;obtain⟨raw,hraw⟩:∃r:List AV,r=[.v (.string me),.sl 1 (stC names),.sl 11 (rlC rules),.v (.pointer (some ⟨t,0,none⟩)),.v (.pointer (some ⟨b,0,none⟩)),.v (.slice none 0 0),.v (.slice none 0 0),.v (.slice none 0 0),.v (.bool false),.v (.bool false)]:=⟨_,rfl⟩;rw[←hraw];obtain⟨s0,hs0⟩:∃s0,s0=iniS me names lim rules:=⟨_,rfl⟩;obtain⟨a0,ha0⟩:∃a0:EA,a0=⟨t,b,.sl 4 (faC []),A0,A0⟩:=⟨_,rfl⟩;have O0:SOk 0 s0:=by rw[hs0];exact R1 hlim.1 hlim.2 hr hl hn
 have ht3:=hs3 _ _ ht2;have nxt:x≠t:=fun e=>by rw[e,ht3]at hx;cases hx
 have nxb:x≠b:=fun e=>by rw[e,hb3]at hx;cases hx
 have ntb:t≠b:=fun e=>by rw[←e,ht2]at fb;cases fb
 have at0:a0.t=t:=by rw[ha0]
 have ab0:a0.b=b:=by rw[ha0]
 have nq0:∀y,¬Own a0.gv y∧¬Io a0.qv y∧¬Own a0.ov y:=fun y=>by rw[ha0];exact⟨Gj,Sc,Bh⟩
 have E4:EV true ((σ3.set b (rkC [])).set x (.cells (evC true s0 a0 false))) x a0 s0 false:=⟨Ab,by rw[at0,Ag nxt.symm,Ag ntb,ht3,hs0];rfl,by rw[ab0,Ag nxb.symm,Ab,hs0];rfl,by rw[if_pos rfl,ha0,hs0];rfl,by rw[ha0,hs0];exact .nil,by rw[ha0,hs0];exact .none,by rw[at0];exact nxt,by rw[ab0];exact nxb,by rw[at0,ab0];exact ntb,fun y ho=>absurd ho (nq0 y).1⟩;have F4:∀y o,σ y=some o→((σ3.set b (rkC [])).set x (.cells (evC true s0 a0 false))) y=some o∧¬Bn x a0 y:=fun y o hy=>by
  have y2:=hs2 _ _ hy;have y3:=hs3 _ _ y2;have nyx:y≠x:=fun e=>by rw[e,hx]at y3;cases y3
  have nyb:y≠b:=fun e=>by rw[e,fb]at y2;cases y2
  refine⟨by rw[Ag nyx,Ag nyb];exact y3,fun hf=>?_⟩;rcases hf with e|e|e|e|e|e
  ·exact nyx e
  ·rw[e,at0,ft]at hy;cases hy
  ·exact nyb (by rw[e,ab0])
  ·exact(nq0 y).1 e
  ·exact(nq0 y).2.1 e
  ·exact(nq0 y).2.2 e
 have V4:SV (σ3.set x (.cells raw)) ((σ3.set b (rkC [])).set x (.cells (evC true s0 a0 false))):=F9 fun y o hy=>by
  by_cases e1:y=x
  ·rw[e1,Ab]at hy
   injection hy with hy;subst hy;refine .inr ⟨.cells raw,by rw[e1,Ab],?_⟩;rw[hraw,ha0,hs0];exact vws_same (vws_same (vws_same (vws_same (vws_same (vws_cons (.nil 4) (Ca _))))))
  ·by_cases e2:y=b
   ·rw[Ag e1,e2,Ab]at hy
    injection hy with hy;subst hy;exact .inr ⟨.cells [A0],by rw[Ag e1,e2];exact hb3,vws_cons (.nil 6) By⟩
   ·rw[Ag e1,Ag e2]at hy
    exact .inl (by rw[Ag e1];exact hy)
 generalize (σ3.set b (rkC [])).set x (.cells (evC true s0 a0 false))=σE at E4 F4 V4;generalize σ3.set x (.cells raw)=σ4 at V4⊢;clear hx nxt nxb ntb nq0 at0 ab0 ht3 hb3 hs3 fb ht2 hs2 ft hraw;have m0:s0.me=me:=by rw[hs0];rfl
 have r0:s0.rules=rules:=by rw[hs0];rfl
 have T0:s0.T=[]:=by rw[hs0];rfl
 simp only[go_sem,Aa];refine⟨fun m fr σ'=>∃(i:Nat) (a':EA) (P:ES×Bool) (σE:St),m=rules.length-i∧i≤rules.length∧P=zerD me rules i (s0,false)∧SOk (0+i*60004) P.1∧SV σ' σE∧EV true σE x a' P.1 P.2∧(∀y o,σ y=some o→σE y=some o∧¬Bn x a' y)∧fr 3= .sl 11 (rlC rules)∧fr 14=ptr x∧fr 15=int i,⟨_,0,a0,(s0,false),σE,rfl,by omega,rfl,O0,V4,E4,F4,f3,rfl,rfl⟩,?_⟩;clear E4 F4 V4 f0 f1 f2 f3 f10 O0;rintro m fr σ1 ⟨i,a',P,σE,rfl,hi,hP,hO,hV,hE,hF,f3,f14,f15⟩;simp only[go_sem,f3,f15,Cm];refine aIf_by (fun hlt=>?_) (fun hlt=>?_)
 case' refine_2=>
  have ei:i=rules.length:=by omega
  rw[ei]at hP;simp only[go_sem,Aa,f14];exact Af (r:=.tup [ptr x,int 0]) rfl _ σE (view_of hV (.refl _)) (.inr ⟨hnm,hgood,hlim.1,hlim.2,x,a',rfl,by rw[show newD me names lim rules=P by rw[hP,hs0];rfl];exact hE,hF⟩)
 have hil:i<rules.length:=by omega
 obtain⟨r,hrr⟩:∃r,r=rules[i]:=⟨_,rfl⟩;have hr4:=hr _ (List.getElem_mem hil);rw[←hrr]at hr4;have rg:(rlC rules).getD i []=r.cs:=by rw[hrr];exact C7 hil
 have hgr:rules.getD i rlZ=r:=by rw[Fm hil,hrr]
 have K':SK s0 P.1:=by rw[hP];exact Pz me rules (s0,false) i
 have lcl:=Gn r.bo;have nx:=Ai (show i<9223372036854775807 by omega);have es:=Lv (me:=me) (rules:=rules) (k:=i) (P:=(s0,false));rw[hgr,←hP]at es;by_cases hbo:r.bo.length=0
 case neg=>
  rw[if_neg hbo]at es;have d1:=decide_eq_false (show¬(r.bo.length:Int)=0 by omega);simp only[go_sem,Aa,f3,f15,rg,Cm,lcl,d1,nx];exact⟨by omega,rules.length-(i+1),by omega,i+1,a',P,σE,rfl,by omega,es.symm,hO.le (by omega),hV,hE,hF,f14,rfl⟩
 rw[if_pos hbo]at es;have d1:=decide_eq_true (show(r.bo.length:Int)=0 by omega);have hil':i<P.1.rules.length:=by rw[K'.rules,r0];exact hil
 have hri:P.1.rules[i]=r:=by rw[hrr];exact List.getElem_of_eq (K'.rules.trans r0) hil'
 have mP:P.1.me=me:=K'.me.trans m0;have TP:P.1.T=[]:=K'.T.trans T0;simp only[go_sem,Aa,f3,f14,f15,rg,Cm,lcl,d1];have hc:=Yo hE hO (by omega) i hil' (-1) faZ Agt;rw[hri,mP,TP]at hc;refine⟨by omega,(AT.pre hc (by kernel_rfl) hV (vws_same (vws_same (vws_same (vws_cons (.agg [str emp,str emp,str emp,A0] faZ.cs rfl (show VWs _ _ [str emp,str emp,str emp,A0] faZ.cs from vws_same (vws_same (vws_same (vws_cons (.nil 3) By)))).2) By))))).mono ?_⟩;rintro _ σ5 ⟨a2,E2,G2⟩;have O2:=Adp (n:=0) (me:=me) (rules:=rules) (P:=(s0,false)) (by rw[hs0];exact R1 hlim.1 hlim.2 hr hl hn) hr (i+1) (by omega);rw[es,Nat.zero_add]at O2;simp only[go_sem,Aa,f15,nx];exact⟨rules.length-(i+1),by omega,i+1,a2,lkD me faZ [] i r (-1) P,σ5,rfl,by omega,es.symm,O2,F9 fun _ _ h=>.inl h,E2,fun y o hy=>G2 y o (hF y o hy).1 (hF y o hy).2,f3,f14,rfl⟩
end
section
variable{σ:St}{t b1 b2:Nat}{T:List Fa}{lim:Int}
theorem Pi(h:TB σ t T lim)(hT:TOk T lim)(h1:σ b1=some (.cells [ptr t]))(h2:σ b2=some (.cells [fnv 117])):AT Tryz.prog 18 [Q2 b1 b2] σ fun r σ'=>r= .sl 4 (faC T)∧σ'=σ:=by
 have hm:AT Tryz.prog 18 [Q2 b1 b2] σ fun r σ'=>LAt 4 σ' r (faC T)∧Cd σ σ' r:=by
  refine AT.ob Tryz.func18 rfl ?_;have tlen:=hT.len;simp only[go_sem];refine Ax fun d hd hdm=>?_;have hI0:=OnI.start hd;obtain⟨σ2,e2⟩:∃s,s=σ.set d (.cells [A0]):=⟨_,rfl⟩;rw[←e2]at hI0⊢;clear e2 hdm;simp only[go_sem,Aa];refine⟨by kernel_rfl,?_⟩;refine Pj (fun fr=>fr 3=ptr d) rfl fun assign body fr hA hB f3=>?_;intro n l hl hlm;have htl:=hI0.none hl;have hsl:∀y o,σ2 y=some o→(σ2.set l (.loop fr n [9] assign body .ready none)) y=some o:=Bt hl fun _ _ h=>h;refine(Pw (t:=t) (b1:=b1) (b2:=b2) hT (fun i σ'=>OnI σ d (T.take i) σ'∧σ' l=some (.loop fr n [9] assign body .ready none)) ?_ ?_ ?_ ⟨by simpa using hI0.more hsl,Ab⟩).mono ?_
  ·rintro i σ5 ⟨g1,g2⟩
   exact⟨g1.sub h,g1.sub h1,g1.sub h2⟩
  ·rintro i σ5 σ6 ⟨g1,g2⟩ hs
   exact⟨g1.more hs,hs _ _ g2⟩
  ·rintro i σ5 hil ⟨g1,g2⟩
   refine Te hA g2 rfl (by rw[hA,hB];rfl) ?_;have hbg:=fun k fr1 σ1=>U2 (P:=Tryz.prog) (l:=l) (fr:=fr) (fr1:=fr1) (σ1:=σ1) (ps:=[9]) (n:=n) (assign:=assign) (k:=k) hB;simp only[go_sem];refine Ax fun q hq hqm=>?_;obtain⟨σ6,e6⟩:∃s,s=σ5.set q (.cells T[i].cs):=⟨_,rfl⟩;have hs6:∀y o,σ5 y=some o→σ6 y=some o:=by rw[e6];exact Bt hq fun _ _ h=>h
   have hq6:σ6 q=some (.cells T[i].cs):=by rw[e6];exact Ab
   have g1':=g1.more hs6;have g2':=hs6 _ _ g2;simp only[go_sem,Ab,Cw,←e6,hbg];clear e6 hqm hq g1 g2;refine⟨g2',?_⟩;have g3:=g1'.loop (σ':=σ6.set l (.loop fr n [9] assign body .busy none)) g2' htl fun y hy=>Ag hy;have g4:(σ6.set l (.loop fr n [9] assign body .busy none)) l=some (.loop fr n [9] assign body .busy none):=Ab;have g5:(σ6.set l (.loop fr n [9] assign body .busy none)) q=some (.cells T[i].cs):=by rw[Ag (fun e=>by rw[e,g2']at hq6;cases hq6)];exact hq6
   revert g3 g4 g5;generalize σ6.set l (.loop fr n [9] assign body .busy none)=σ7;intro g3 g4 g5;obtain⟨hd0,lv,k1,k2,k3⟩:=g3;have hld:l≠d:=fun e=>by rw[e,k1]at g4;cases g4
   have nl:¬Own lv l:=fun ho=>by obtain⟨cap,h⟩:=k2.own_rows ho;rw[g4]at h;cases h
   simp only[go_sem,Aa,f3,k1,g5];refine As (ys:=[T[i].cs]) rfl (by decide) (by decide) (by decide) (k2.app (by rw[Am,List.length_take];simp only[List.length_cons,List.length_nil];omega) fun lv' σ8 hL4 hs4=>?_);obtain⟨g6,g7⟩:=OnI.app hd0 k1 k2 k3 hL4 hs4;have m6:=hs4 _ _ g4 nl;simp only[go_sem,Aa,g7,f3,hL4.one,hL4.cells,V3];have g6':(σ8.set d (.cells [lv'])) l=some (.loop fr n [9] assign body .busy none):=by rw[Ag hld];exact m6.1
   have ht:T.take i++[T[i]]=T.take (i+1):=by rw[List.take_add_one,List.getElem?_eq_getElem hil];rfl
   rw[ht]at g6;exact⟨⟨_,g6'⟩,g6.loop (σ':=(σ8.set d (.cells [lv'])).set l (.loop fr n [9] assign body .ready none)) g6' htl (fun y hy=>Ag hy)⟩
  ·rintro _ σ5 ⟨g1,g2⟩
   rw[List.take_of_length_le (by omega)]at g1;have hdel:∀y,y≠l→(σ5.del l) y=σ5 y:=fun y hy=>by simp only[St.del];rw[if_neg hy]
   have g3:=g1.loop g2 htl hdel;unfold Mc;rw[g2];refine⟨(by intro h;cases h),?_⟩;unfold Qz
   dsimp only
   obtain⟨_,lv,k1,k2,k3⟩:=g3;simp only[go_sem,Aa,f3,k1];exact Ad (r:=lv) rfl ⟨k2,k3⟩
 exact hm.post (by kernel_rfl) fun r σ' ⟨h1,h2⟩=>⟨_,_,Fs h1 h2,rfl,rfl⟩
end
theorem Ah1(a:Oper)(l m:List Oper):List.append (a::l) m=a::List.append l m:=_root_.id rfl
theorem Ah2(m:List Oper):List.append [] m=m:=_root_.id rfl
section
variable{σ:St}
set_option maxHeartbeats 1600000 in
theorem evalDoes_at(hlive:∀σ,AT Tryz.prog 12 [] σ fun r σ'=>r=boo true∧σ'=σ)(me:ByteArray)(names:List ByteArray)(lim:Int)(rs:List Rl)(l:List Ac)(hw:C7Wf rs l):
  AT Tryz.prog 8 [.agg (c7C me names lim rs),.sl 5 (acC l)] σ fun v σ'=>v=boo true:=by
 refine AT.ob Tryz.func8 rfl ?_;have ho:(c7C me names lim rs).all AV.one=true:=rfl;simp only[go_sem,ho];refine Ctx.nil.alloc fun p σ1 c1=>?_;have hp:=c1.g0;clear c1;simp only[go_sem,hp];refine(Aee me names lim rs l hw).mono ?_;rintro _ σ1 ⟨⟨b,rfl,hb⟩,rfl⟩;cases b with
 |false=>
  simp only[go_sem,Bool.not_false];refine(hlive _).mono ?_;rintro _ σ1 ⟨rfl,rfl⟩;simp only[go_sem];exact Ad (r:=boo true) rfl rfl
 |true=>
 have hS:=hb rfl;simp only[go_sem,Bool.not_true,hp];refine(Alr me names lim rs (by have:=hS.nm;omega) (by have:=hS.rl;omega) hS.rs).mono ?_;rintro _ σ2 (⟨rfl,hbad,hs2⟩|⟨n1,n2,n3,n4,y,b,rfl,E2,F2⟩)
 ·have hp2:=hs2 _ _ hp
  simp only[go_sem,hp2];refine(Vg me names lim rs (by have:=hS.nm;omega) (by have:=hS.rl;omega) hS.rs).mono ?_;rintro _ σ3 (⟨rfl,_,hs3⟩|⟨n1,n2,n3,n4,_⟩)
  case inr=>rcases hbad with h|h|h
            ·exact absurd n1 h
            ·exact absurd h n2
            ·exact absurd ⟨n3,n4⟩ h
  simp only[go_sem];refine⟨fun m fr σ'=>m=0∧fr 1= .sl 5 (acC l)∧fr 5= .v (.pointer none)∧fr 9=int 0,⟨_,rfl,rfl,rfl,rfl⟩,?_⟩;rintro m fr σ4 ⟨rfl,f1,f5,f9⟩;by_cases hlen:(0:Int)<l.length
  ·simp only[go_sem,Aa,f1,f5,f9,D4,decide_eq_true hlen]
   refine(hlive _).mono ?_;rintro _ σ5 ⟨rfl,rfl⟩;simp only[go_sem,Aa];exact Ad (r:=boo true) rfl rfl
  ·simp only[go_sem,Aa,f1,f5,f9,D4,decide_eq_false hlen]
   refine(hlive _).mono ?_;rintro _ σ5 ⟨rfl,rfl⟩;simp only[go_sem,Aa];exact Ad (r:=boo true) rfl rfl
 have hp2:=(F2 _ _ hp).1;have hy2:=E2.cx;cases hh:(newD me names lim rs).2 with
 |true=>
  rw[hh]at hy2;simp only[go_sem,hp2,hy2];refine(hlive _).mono ?_;rintro _ σ1 ⟨rfl,rfl⟩;simp only[go_sem];exact Ad (r:=boo true) rfl rfl
 |false=>
 rw[hh]at hy2 E2;have hnew:(newD me names lim rs).1=newS me names lim rs:=(Wp _ hh).2;rw[hnew]at hy2 E2;simp only[go_sem,hp2,hy2];refine(Vg me names lim rs (by have:=hS.nm;omega) (by have:=hS.rl;omega) hS.rs).mono ?_;rintro _ σ3 (⟨rfl,hbad,hs3⟩|⟨_,_,_,_,x,a,rfl,E3,F3⟩)
 ·rcases hbad with h|h|h
  ·exact absurd n1 h
  ·exact absurd h n2
  ·exact absurd ⟨n3,n4⟩ h
 obtain⟨s0,hs0⟩:∃s0,s0=newS me names lim rs:=⟨_,rfl⟩;rw[←hs0]at E2 E3;have rl80:=hS.rl;have hr0:s0.rules=rs:=by rw[hs0];exact(Jk me rs (iniS me names lim rs) rs.length).rules
 have O0:SOk (4800320+0*1929728640) s0:=by
  rw[hs0];exact(Abf (n:=0) (me:=me) (rules:=rs) (R1 n3 n4 hS.rs (by omega) (by have:=hS.nm;omega)) rs.length).le (by omega)
 have G0:s0.given.length≤0:=by
  rw[hs0,show(newS me names lim rs).given=[]from(Jk me rs (iniS me names lim rs) rs.length).given];exact Nat.le_refl _
 have B0:J6 σ3 x a y b s0:=⟨E3,E2.keep fun z o hz _=>(F3 z o hz).1,fun z hx hy=>by
  obtain⟨o,ho⟩:=Dl E2 hy;exact(F3 z o ho).2 hx⟩
 simp only[go_sem];refine⟨fun m fr σ'=>∃(i:Nat) (a:EA) (b:EA) (s:ES),m=l.length-i∧i≤l.length∧J6 σ' x a y b s∧SOk (4800320+i*1929728640) s∧s.given.length≤i∧J4 s0 s∧fr 1= .sl 5 (acC l)∧fr 5=ptr y∧fr 7=ptr x∧fr 9=int i,⟨_,0,a,b,s0,rfl,by omega,B0,O0,G0,.refl s0,rfl,rfl,rfl,rfl⟩,?_⟩;clear B0 O0 G0 E2 E3 F2 F3 hp hp2 hy2 hnew hh hs0;rintro m fr σ4 ⟨i,a,b,s,rfl,hi,hB,hO,hG,hSm,f1,f5,f7,f9⟩;have hal:=hS.al;by_cases hil:i<l.length
 case neg=>
  simp only[go_sem,Aa,f1,f9,D4,decide_eq_false (show¬(i:Int)<l.length by omega)];refine(hlive _).mono ?_;rintro _ σ5 ⟨rfl,rfl⟩;simp only[go_sem,Aa];exact Ad (r:=boo true) rfl rfl
 have hfs:=hS.fs _ (List.getElem_mem hil);simp only[go_sem,Aa,f1,f5,f7,f9,D4,decide_eq_true (show(i:Int)<l.length by omega),Uy hil];refine⟨by omega,(Ann hB hO hG (by omega) (by rw[hSm.rules,hr0];exact hS.lt) (by omega) l[i] hfs).mono ?_⟩;rintro _ σ5 ⟨more,rfl,hm⟩;cases more with
 |false=>
  simp only[go_sem,Aa,Bool.not_true,Bool.not_false];refine(hlive _).mono ?_;rintro _ σ5 ⟨rfl,rfl⟩;simp only[go_sem,Aa];exact Ad (r:=boo true) rfl rfl
 |true=>
 obtain⟨a2,b2,s2,B2,O2,G2,S2,_⟩:=hm rfl;clear hm;simp only[go_sem,Aa,Bool.not_true];refine Wv [⟨0,128,38685626227668133590597632,0⟩,⟨1,38685626227668133590597632,77371252455336267181195264,2⟩,⟨2,77371252455336267181195264,154742504910672534362390528,2⟩,⟨0,32,309485009821345068724781056,0⟩,⟨8,309485009821345068724781056,618970019642690137449562112,0⟩,⟨16,618970019642690137449562112,1237940039285380274899124224,0⟩,⟨32,1237940039285380274899124224,2475880078570760549798248448,1⟩,⟨64,2475880078570760549798248448,4951760157141521099596496896,0⟩,⟨128,4951760157141521099596496896,9903520314283042199192993792,0⟩,⟨256,9903520314283042199192993792,19807040628566084398385987584,1⟩,⟨516,19961783133476756932748378112,39614081257132168796771975168,2⟩,⟨1024,39614081257132168796771975168,79228162514264337593543950336,0⟩,⟨3072,79228162514264337593543950336,158456325028528675187087900672,0⟩,⟨4096,158456325028528675187087900800,316912650057057350374175801344,0⟩,⟨12288,475368975085586025561263702016,633825300114114700748351602688,2⟩,⟨4096,158456325028528675187087900704,1267650600228229401496703205376,0⟩,⟨36864,1426106925256758076683791106048,2535301200456458802993406410752,0⟩,⟨69632,2693757525484987478180494311424,5070602400912917605986812821504,0⟩,⟨135168,5229058725941446281173900722176,10141204801825835211973625643008,1⟩,⟨282624,10933486426968478587909065146368,20282409603651670423947251286016,2⟩,⟨528384,20440865928680199099134339186688,40564819207303340847894502572032,0⟩,⟨1052672,40723275532331869523081590472704,81129638414606681695789005144064,0⟩,⟨2621440,81129638414606681695789005144064,162259276829213363391578010288128,0⟩,⟨4194304,162259276829213363391578010288256,324518553658426726783156020576256,0⟩,⟨12582912,486777830487640090174734030864384,649037107316853453566312041152512,2⟩,⟨4194304,162259276829213363391578010288160,1298074214633706907132624082305024,0⟩,⟨54525952,1460333491462920270524202092593152,2596148429267413814265248164610048,2⟩,⟨88080384,3407444813413480631223138216050688,5192296858534827628530496329220096,2⟩,⟨138412032,5354556135364040991922074339508224,10384593717069655257060992658440192,0⟩,⟨272629760,10546852993898868620452570668728320,20769187434139310514121985316880384,0⟩,⟨671088640,20769187434139310514121985316880384,41538374868278621028243970633760768,0⟩,⟨1073741824,41538374868278621028243970633760896,83076749736557242056487941267521536,0⟩,⟨3221225472,124615124604835863084731911901282304,166153499473114484112975882535043072,2⟩,⟨1073741824,41538374868278621028243970633760800,332306998946228968225951765070086144,0⟩,⟨9663676416,373845373814507589254195735703846912,664613997892457936451903530140172288,0⟩,⟨18253611008,706152372760736557480147500773933056,1329227995784915872903807060280344576,0⟩,⟨35433480192,1370766370653194493932051030914105344,2658455991569831745807614120560689152,1⟩,⟨69793218560,2699994366438110366835858091194449920,5316911983139663491615228241121378304,0⟩,⟨142807662592,5524603857481056596756448094290182144,10633823966279326983230456482242756608,0⟩,⟨275951648768,10675362341147605604258700452876517376,21267647932558653966460912964485513216,0⟩,⟨554050781184,21267647932558653966460912964485513216,42535295865117307932921825928971026432,0⟩,⟨1099511627776,42535295865117307932921825928971026560,85070591730234615865843651857942052864,0⟩,⟨3298534883328,127605887595351923798765477786913079296,170141183460469231731687303715884105728,2⟩,⟨1099511627776,42535295865117307932921825928971026464,340282366920938463463374607431768211456,0⟩,⟨9895604649984,382817662786055771396296433360739237888,680564733841876926926749214863536422912,0⟩,⟨18691697672192,723100029706994234859671040792507449344,1361129467683753853853498429727072845824,0⟩,⟨36283883716608,1403664763548871161786420255656043872256,2722258935367507707706996859454145691648,1⟩,⟨75866302316544,2934935414693094247371605989099000823808,5444517870735015415413993718908291383296,0⟩,⟨141836999983104,5487053166600132723346915544837262409728,10889035741470030830827987437816582766592,0⟩,⟨285873023221760,10889035741470030830827987437816582766592,21778071482940061661655974875633165533184,0⟩,⟨562949953421312,21778071482940061661655974875633165533312,43556142965880123323311949751266331066368,0⟩,⟨562949953421312,21778071482940061661655974875633165533186,87112285931760246646623899502532662132736,0⟩,⟨562949953421312,21778071482940061661655974875633165533696,174224571863520493293247799005065324265472,0⟩,⟨7318349394477056,283114929278220801601527673383231151931392,348449143727040986586495598010130648530944,0⟩,⟨9570149208162304,370227215209981048248151572885763814064128,696898287454081973172991196020261297061888,0⟩,⟨18577348462903296,718676358937022034834647170895894462595072,1393796574908163946345982392040522594123776,1⟩,⟨37717646879227904,1459130789356984131330950316667422090723328,2787593149816327892691964784081045188247552,2⟩,⟨562949953421312,21778071482940061661655974875633165533216,5575186299632655785383929568162090376495104,0⟩,⟨144678138029277184,5596964371115595847045585543037723542028288,11150372599265311570767859136324180752990208,0⟩,⟨288793326105133056,11172150670748251632429515111199813918523392,22300745198530623141535718272648361505980416,0⟩,⟨577023702256844800,22322523270013563203197374247523994671513600,44601490397061246283071436545296723011960832,1⟩,⟨562949953421312,21778071482940061661655974875633165533186,89202980794122492566142873090593446023921664,0⟩,⟨562949953421312,21778071482940061661655974875633165533696,178405961588244985132285746181186892047843328,0⟩,⟨6918091977594503168,267630720453850417760090275246655971237298176,356811923176489970264571492362373784095686656,0⟩,⟨9223934986808197120,356833701247972910326233148337249417261219840,713623846352979940529142984724747568191373312,0⟩,⟨18447307023662972928,713645624424462880590804640699623201356906496,1427247692705959881058285969449495136382746624,1⟩,⟨38119030196017299456,1471870961174504067403019061969667492560240640,2854495385411919762116571938898990272765493248,2⟩,⟨73859596838829555712,2857304756633219030070925559657946951119273984,5708990770823839524233143877797980545530986496,2⟩,⟨147574515539629834240,5709012548895322464294805533772856178696519680,11417981541647679048466287755595961091061972992,0⟩,⟨295148468129306247168,11418003319719161988527949411570836724227506176,22835963083295358096932575511191922182123945984,0⟩,⟨737869762948382064640,22835963083295358096932575511191922182123945984,45671926166590716193865151022383844364247891968,0⟩,⟨1180591620717411303424,45671926166590716193865151022383844364247892096,91343852333181432387730302044767688728495783936,0⟩,⟨1180591620717411303424,45671926166590716193865151022383844364247891970,182687704666362864775460604089535377456991567872,0⟩,⟨1180591620717411303424,45671926166590716193865151022383844364247892480,365375409332725729550921208179070754913983135744,0⟩,⟨15347691069326346944512,593735040165679310520246963290989976735222595584,730750818665451459101842416358141509827966271488,0⟩,⟨20070057552195992158208,776422744832042175295707567380525354192214163456,1461501637330902918203684832716283019655932542976,0⟩,⟨38959523483674573012992,1507173563497493634397549983738666864020180434944,2923003274661805836407369665432566039311865085952,1⟩,⟨79099638588066557329408,3060019053161577984988965118499717572404608761856,5846006549323611672814739330865132078623730171904,2⟩,⟨1180591620717411303424,45671926166590716193865151022383844364247892000,11692013098647223345629478661730264157247460343808,0⟩,⟨303412046524374704979968,11737685024813814061823343812752648001611708235776,23384026197294446691258957323460528314494920687616,0⟩,⟨605643501428031998656512,23429698123461037407452822474482912158859168579584,46768052394588893382517914646921056628989841375232,0⟩,⟨1210106411235346586009600,46813724320755484098711779797943440473354089267200,93536104789177786765035829293842113257979682750464,1⟩,⟨2419032230849975760715776,93581776715344377481229694444864497102343930642432,187072209578355573530071658587684226515959365500928,0⟩,⟨4836883870079234110128128,187117881504522164246265523738706610360323613392896,374144419156711147060143317175368453031918731001856,0⟩,⟨9672587148537750808952832,374190091082877737776337182326390836876282978893824,748288838313422294120286634350736906063837462003712,1⟩,⟨1180591620717411303424,45671926166590716193865151022383844364247891970,1496577676626844588240573268701473812127674924007424,0⟩,⟨1180591620717411303424,45671926166590716193865151022383844364247892480,2993155353253689176481146537402947624255349848014848,0⟩,⟨116058059274625118183096320,4489778701806700355437913671255443820227389019914240,5986310706507378352962293074805895248510699696029696,0⟩,⟨154743685502293251773693952,5986356378433544943678486939956917632355063943921664,11972621413014756705924586149611790497021399392059392,0⟩,⟨309486190412965786136084480,11972667084940923296640780014762812880865763639951360,23945242826029513411849172299223580994042798784118784,1⟩,⟨638465129075596750303002624,24693577336269102296685652798725340283951000494014464,47890485652059026823698344598447161988085597568237568,2⟩,⟨1238092335604452820957265920,47896377330534517026087353202929049504008585546301440,95780971304118053647396689196894323976171195136475136,0⟩,⟨2475881259162381267209551872,95781016976044220238112883062045346360015559384367104,191561942608236107294793378393788647952342390272950272,0⟩] [0,1,3,0,8,24,56,120,248,504,1023,2047,4095,8191,16383,8191,40959,106495,237567,524287,1048575,2097151,4194303,8388607,16777215,8388607,67108863,134217727,268435455,536870911,1073741823,2147483647,4294967295,2147483647,10737418239,27917287423,62277025791,130996502527,274877906943,549755813887,1099511627775,2199023255551,4398046511103,2199023255551,10995116277759,28587302322175,63771674411007,140737488355327,281474976710655,562949953421311,1125899906842623,1125899906842623,1125899906842623,7881299347898367,16888498602639359,34902897112121343,72057594037927935,1125899906842623,145241087982698495,433471464134410239,1009932216437833727,1125899906842623,1125899906842623,6918654927547924479,16142026964402700287,34588771038112251903,73786976294838206463,147573952589676412927,295147905179352825855,590295810358705651711,1180591620717411303423,2361183241434822606847,2361183241434822606847,2361183241434822606847,16528282690043758247935,35417748621522339102719,73196680484479500812287,151115727451828646838271,2361183241434822606847,304592638145092116283391,909055547952406703636479,2117981367567035878342655,4535833006796294227755007,9371536285254810926579711,19042942842171844324229119,2361183241434822606847,2361183241434822606847,116059239866245835594399743,270801744776918369956790271,580286754598263438681571327,1237940039285380274899124223,2475880078570760549798248447,4951760157141521099596496895] [.rd 0 false,.rd 3 false,.rd 4 false,.rd 5 false,.rd 6 true,.rd 7 false,.rd 8 false,.rd 9 true,.ef 1 [6,9],.ef 2 [6,9],.ef 10 [],.rd 11 false,.rd 12 false,.rd 13 false,.rd 15 false,.rd 16 false,.rd 17 false,.rd 18 true,.ef 14 [18],.ef 19 [],.rd 20 false,.rd 21 false,.rd 22 false,.rd 23 false,.rd 25 false,.ef 24 [],.ef 26 [],.ef 27 [],.rd 28 false,.rd 29 false,.rd 30 false,.rd 31 false,.rd 33 false,.rd 34 false,.rd 35 false,.rd 36 true,.rd 37 false,.ef 32 [36],.rd 38 false,.rd 39 false,.rd 40 false,.rd 41 false,.rd 43 false,.rd 44 false,.rd 45 false,.rd 46 true,.ef 42 [46],.rd 47 false,.rd 48 false,.rd 49 false,.rd 50 false,.rd 51 false,.rd 52 false,.rd 53 false,.rd 54 false,.rd 55 true,.rd 57 false,.rd 58 false,.rd 59 false,.rd 60 true,.rd 61 false,.rd 62 false,.rd 63 false,.rd 64 false,.rd 65 true,.ef 56 [60,65],.ef 66 [],.ef 67 [],.rd 68 false,.rd 69 false,.rd 70 false,.rd 71 false,.rd 72 false,.rd 73 false,.rd 74 false,.rd 75 false,.rd 76 true,.rd 78 false,.rd 79 false,.rd 80 false,.rd 81 true,.rd 82 false,.rd 83 false,.rd 84 true,.rd 85 false,.rd 86 false,.rd 87 false,.rd 88 false,.rd 89 true,.ef 77 [81,84,89],.ef 90 [],.rd 91 false,.rd 92 false] (by kernel_rfl) (by kernel_rfl) (by kernel_rfl) (by kernel_rfl) (by kernel_rfl) ?_
 have hx:=B2.ex.cx;have hy:=B2.ey.cx;have ht:σ5 b2.t=some (.cells [.sl 4 (faC s2.T),int s2.lim]):=B2.ey.ct;have htx:TB σ5 a2.t s2.T s2.lim:=B2.ex.ct;have hbb:RK σ5 b2.b s2.B:=B2.ey.cb;have tok:=O2.tok;have tl:=tok.len;have gl:=O2.gl;have bok:=O2.bok (by omega);have gs:Ba Ar [] s2.given=s2.given:=Ex O2.gr;have hgv:=B2.ey.gsl;have rg:=Uy hil;have lq:=B2.ey.cq;have fs:=hfs;have oq:=O2.ql;simp only[go_sem,Aa,f5,f7,hy,ht,Ah1,Ah2];refine(Pa B2.ex).mono ?_;rintro _ σ6 ⟨b1,b3,rfl,c6⟩;have hS6:=c6.sub;have B6:=B2.more hS6;have hx6:=hS6 _ _ hx;have hy6:=hS6 _ _ hy;have ht6:=hS6 _ _ ht;have htx6:TB σ6 a2.t s2.T s2.lim:=hS6 _ _ htx;have hb6:RK σ6 b2.b s2.B:=hS6 _ _ hbb;obtain⟨⟨k1,k2⟩,_⟩:=c6.g1;simp only[go_sem,Aa,hy6,ht6];refine(Pi htx6 tok k2 k1).mono ?_;rintro _ σ6 ⟨rfl,rfl⟩;simp only[go_sem,Aa,hy6,ht6];refine(R7 (a:=s2.T) (b:=s2.T) .sl .sl (by omega) tok.sm (by omega) tok.sm).mono ?_;rintro _ σ6 ⟨rfl,rfl⟩;simp only[go_sem,Aa,f5,f7,hy6,hgv,decide_true,Bool.not_true];refine(Aed B6.ex O2).mono ?_;rintro _ σ6 ⟨rfl,rfl⟩;rw[gs];simp only[go_sem,Aa,hy6,hgv];refine(R7 (a:=s2.given) (b:=s2.given) .sl .sl (by omega) O2.gs (by omega) O2.gs).mono ?_;rintro _ σ6 ⟨rfl,rfl⟩;simp only[go_sem,Aa,f5,f7,decide_true,Bool.not_true];refine(Xy B6.ex O2 (by omega)).mono ?_;rintro _ σ6 ⟨rfl,rfl⟩;simp only[go_sem,Aa];refine(Kx B6.ey O2 (by omega)).mono ?_;rintro _ σ6 ⟨rfl,rfl⟩;obtain⟨x1,x2⟩:=Zv O2;simp only[go_sem,Aa];refine(R7 (a:=L1 s2) (b:=L1 s2) .sl .sl (by omega) x2 (by omega) x2).mono ?_;rintro _ σ6 ⟨rfl,rfl⟩;simp only[go_sem,Aa,f5,f7,hy6,lq.len,Am,decide_true,Bool.not_true];refine(P5 B6.ex).mono ?_;rintro _ σ6 ⟨rfl,rfl⟩;simp only[go_sem,Aa,f5,f7,hy6,decide_true,Bool.not_true,lq.len,Am];refine(Agm B6.ex).mono ?_;rintro _ σ6 ⟨rfl,rfl⟩;simp only[go_sem,Aa,f1,f5,f7,f9,hy6,D4,rg,decide_true,Bool.not_true];refine⟨by omega,by omega,(Zt B6.ex O2 (by omega) l[i].f hfs).mono ?_⟩;rintro _ σ6 ⟨rfl,rfl⟩;simp only[go_sem,Aa,hy6,D4,rg];refine(Aaw hb6 bok l[i].f hfs).mono ?_;rintro _ σ6 ⟨rfl,rfl⟩;obtain⟨o1,o2⟩:(ofF s2.B l[i].f).length≤1000000000000∧∀d∈ofF s2.B l[i].f,d.Sm:=by
  have:=List.length_filter_le (fun d=>decide (d.hd=l[i].f)) s2.B;exact⟨by have:=O2.bl;unfold ofF;omega,fun d hd=>O2.bs d (List.mem_filter.1 hd).1⟩
 simp only[go_sem,Aa];refine(Ae2 (ofF s2.B l[i].f) (ofF s2.B l[i].f) o1 o2 o1 o2).mono ?_;rintro _ σ6 ⟨rfl,rfl⟩;simp only[go_sem,Aa,f1,f5,f7,f9,hy6,ht6,D4,rg,decide_true,Bool.not_true];refine⟨by omega,by omega,(Akd B6.ex O2 l[i].f hfs).mono ?_⟩;rintro _ σ6 ⟨rfl,rfl⟩;simp only[go_sem,Aa,hy6,ht6,D4,rg];refine(Ds s2.T l[i].f (by omega) tok.sm hfs).mono ?_;rintro _ σ6 ⟨rfl,rfl⟩;simp only[go_sem,Aa,decide_true,Bool.not_true,ne_eq,not_true_eq_false,decide_false,f9,Ai (show i<9223372036854775807 by omega)]
 trace_state
 exact⟨l.length-(i+1),by omega,i+1,a2,b2,s2,rfl,by omega,B6,O2.le (by omega),G2,hSm.trans S2,f1,f5,f7,rfl⟩
end
def txA:ByteArray:=⟨#[97]⟩
def tmX:Tm:=⟨⟨#[88]⟩,false,0,emp⟩
def rlA:Rl:=⟨⟨⟨#[65]⟩,false,0,emp⟩,⟨#[112]⟩,[tmX],.zero,[⟨.zero,⟨#[113]⟩,[tmX],.zero⟩]⟩
def faA:Fa:=⟨txA,txA,⟨#[113]⟩,[⟨true,1,emp⟩]⟩
def fpA:Fa:=⟨txA,txA,⟨#[112]⟩,[⟨true,1,emp⟩]⟩
def liv(T:List Fa)(B:List De)(g q:List Fa):ES:=⟨txA,[txA],[rlA],T,9,B,g,q,[],false⟩
def deA:De:=⟨0,fpA,[faA]⟩
theorem Am6:newS txA [txA] 9 [rlA]=liv [] [] [] []:=by kernel_rfl
theorem Ahg:G6 (liv [] [] [] []) faA=(0,liv [] [] [faA] [faA]):=by kernel_rfl
theorem Ahh:Cg (liv [] [] [faA] [faA])=(true,liv [faA] [deA] [faA] [fpA]):=by kernel_rfl
theorem Ahi:Cg (liv [faA] [deA] [faA] [fpA])=(true,liv [fpA,faA] [deA] [faA] []):=by kernel_rfl
theorem Am7:J5 (liv [fpA,faA] [deA] [faA] []) faA=(0,liv [] [] [] []):=by kernel_rfl
theorem Acm:L6 (liv [] [] [faA] [faA]):=fun _ f q hq _ _ i hi j hj=>by
 injection hq with e1 e2;subst e1;obtain rfl:i=0:=by have:i<1:=hi;omega
 obtain rfl:j=0:=by have:j<1:=hj;omega
 exact Nat.le_of_ble_eq_true (by kernel_rfl)
theorem Acn:L6 (liv [faA] [deA] [faA] [fpA]):=fun _ f q hq _ _ i hi j hj=>by
 injection hq with e1 e2;subst e1;obtain rfl:i=0:=by have:i<1:=hi;omega
 obtain rfl:j=0:=by have:j<1:=hj;omega
 exact Nat.le_of_ble_eq_true (by kernel_rfl)
theorem Aig:∀r∈[rlA],r.S4:=fun r hr=>by
 rw[List.mem_singleton.1 hr];exact⟨⟨by decide,fun l hl=>by rw[List.mem_singleton.1 hl];decide⟩,by decide⟩
theorem Z5:SOk 2 (liv [] [] [] []):=by
 rw[←Am6];exact Abf (n:=0) (R1 (by omega) (by omega) Aig (by decide) (by decide)) 1
theorem Ahj:SOk 3 (liv [] [] [faA] [faA]):=by
 have:=(Aci (f:=faA) (g:=0) Z5 (Nat.le_refl _) (by decide)).1;rw[Ahg]at this;exact this
theorem Ahk:SOk 60005 (liv [faA] [deA] [faA] [fpA]):=by
 have:=Ss Ahj Acm;rw[Ahh]at this;exact this
theorem Ahl:SOk 120007 (liv [fpA,faA] [deA] [faA] []):=by
 have:=Ss Ahk Acn;rw[Ahi]at this;exact this
theorem An7:SOk 120007 (liv [] [] [] []):=Z5.le (by decide)
section
variable{σ:St}
theorem elive_at(hp:∀σ,AT Tryz.prog 42 [str ⟨#[65,58,32,112,40,88,41,32,58,45,32,113,40,88,41,46]⟩] σ fun r σ'=>r= .tup [.sl 11 (rlC [rlA]),int 0,int 0]∧σ'=σ):AT Tryz.prog 12 [] σ fun r σ'=>r=boo true∧σ'=σ:=by
 refine AT.ob Tryz.func12 rfl ?_;simp only[go_sem];refine(hp σ).mono ?_;rintro _ σ ⟨rfl,rfl⟩;simp only[go_sem];have hnew:=Vg (σ:=σ) txA [txA] 9 [rlA] (by decide) (by decide) Aig;refine(AT.weak hnew (show VWs σ σ [str txA,.fsl 1 [[str txA]],int 9,.sl 11 (rlC [rlA])] [str txA,.sl 1 (stC [txA]),int 9,.sl 11 (rlC [rlA])]from vws_same Np)).mono ?_;rintro _ σ1 (⟨rfl,hbad,hs3⟩|⟨_,_,_,_,x,a,rfl,E1,F1⟩)
 ·rcases hbad with h|h|h
  ·exact absurd (List.mem_singleton.2 rfl) h
  ·obtain⟨r,hr,y,hy,hne⟩:=h
   rw[List.mem_singleton.1 hr]at hy;rw[List.mem_singleton.1 hy]at hne;exact absurd rfl hne
  ·exact absurd ⟨by omega,by omega⟩ h
 rw[Am6]at E1;simp only[go_sem];clear hnew;refine Ax fun q hq _=>?_;have nq:¬Bn x a q:=fun hf=>by obtain⟨o,ho⟩:=Dl E1 hf;rw[hq]at ho;cases ho
 have sq:σ q=none:=Ct (fun y o hy=>(F1 y o hy).1) hq;simp only[go_sem,Ab,Cw];have hvw:∀{τ τ':St},VWs τ τ' [str txA,str txA,str ⟨#[113]⟩,.fsl 3 [[boo true,int 1,str emp]]] faA.cs:=fun{τ τ'}=>
  vws_same (vws_same (vws_same (vws_cons (LAt.full.vw_same fun z hz=>absurd hz A1) By)))
 have sv:SV (σ1.set q (.cells [str txA,str txA,str ⟨#[113]⟩,.fsl 3 [[boo true,int 1,str emp]]])) (σ1.set q (.cells faA.cs)):=K3 (o:=.cells [str txA,str txA,str ⟨#[113]⟩,.fsl 3 [[boo true,int 1,str emp]]]) Ab hvw fun y o hy ho=>by rw[Ag hy];exact ho
 have E2:EV false (σ1.set q (.cells faA.cs)) x a (liv [] [] [] []) false:=E1.more (Bt hq fun _ _ h=>h);have hq2:(σ1.set q (.cells faA.cs)) q=some (.cells faA.cs):=Ab;have F2:∀y o,σ y=some o→(σ1.set q (.cells faA.cs)) y=some o:=fun y o hy=>by rw[Ag fun e=>by rw[e,sq]at hy;cases hy];exact(F1 y o hy).1
 have hsm:faA.Sm:=by show([⟨true,1,emp⟩]:List Cn).length≤_;simp
 refine(AT.pre (Rs E2 Z5 (by decide) faA) (by kernel_rfl) sv (vws_same (vws_cons (.agg [str txA,str txA,str ⟨#[113]⟩,.fsl 3 [[boo true,int 1,str emp]]] faA.cs rfl hvw.2) By))).mono ?_;generalize σ1.set q (.cells faA.cs)=σ2 at hq2 F2;rintro _ σ3 ⟨rfl,a3,E3,G3⟩;have q3:=G3 _ _ hq2 nq;have F3:∀y o,σ y=some o→σ3 y=some o∧¬Bn x a3 y:=fun y o hy=>G3 _ _ (F2 y o hy) (F1 y o hy).2;rw[Ahg]at E3;simp only[go_sem,Ahg];refine(Kk E3 Ahj (by decide) Acm).mono ?_;rintro _ σ4 ⟨rfl,a4,E4,G4⟩;have q4:=G4 _ _ q3.1 q3.2;have F4:∀y o,σ y=some o→σ4 y=some o∧¬Bn x a4 y:=fun y o hy=>G4 _ _ (F3 y o hy).1 (F3 y o hy).2;rw[Ahh]at E4;simp only[go_sem,Ahh,Bool.not_true];refine(P5 E4).mono ?_;rintro _ σ4 ⟨rfl,rfl⟩;have e1:(((liv [faA] [deA] [faA] [fpA]).queue.length:Nat):Int)=1:=rfl;simp only[go_sem,e1];refine(Kk E4 Ahk (by decide) Acn).mono ?_;rintro _ σ5 ⟨rfl,a5,E5,G5⟩;have q5:=G5 _ _ q4.1 q4.2;have F5:∀y o,σ y=some o→σ5 y=some o∧¬Bn x a5 y:=fun y o hy=>G5 _ _ (F4 y o hy).1 (F4 y o hy).2;rw[Ahi]at E5;simp only[go_sem,Ahi,Bool.not_true];refine(Pa E5).mono ?_;rintro _ σ6 ⟨b1,b2,rfl,c6⟩;obtain⟨⟨k2,k1⟩,_⟩:=c6.g1;have E6:=E5.more c6.sub;have q6:=c6.sub _ _ q5.1;have F6:∀y o,σ y=some o→σ6 y=some o∧¬Bn x a5 y:=fun y o hy=>⟨c6.sub _ _ (F5 y o hy).1,(F5 y o hy).2⟩;clear c6;simp only[go_sem];refine(Pi (E6.ct) Ahl.tok k1 k2).mono ?_;rintro _ σ6 ⟨rfl,rfl⟩;have e2:decide ((((liv [fpA,faA] [deA] [faA] []).T.length:Nat):Int)=2)=true:=rfl;simp only[go_sem,e2,q6];refine(Rr E6 Ahl (by decide) faA hsm).mono ?_;rintro _ σ7 ⟨rfl,a7,E7,G7⟩;have F7:∀y o,σ y=some o→σ7 y=some o:=fun y o hy=>(G7 _ _ (F6 y o hy).1 (F6 y o hy).2).1;rw[Am7]at E7;simp only[go_sem,Am7];refine(Pa E7).mono ?_;rintro _ σ8 ⟨b3,b4,rfl,c8⟩;obtain⟨⟨k4,k3⟩,_⟩:=c8.g1;have E8:=E7.more c8.sub;have F8:∀y o,σ y=some o→σ8 y=some o:=fun y o hy=>c8.sub _ _ (F7 y o hy);simp only[go_sem];refine(Pi (E8.ct) An7.tok k3 k4).mono ?_;rintro _ σ8 ⟨rfl,rfl⟩;have e3:decide ((((liv [] [] [] []).T.length:Nat):Int)=0)=true:=rfl;simp only[go_sem,e3];exact Af (r:=boo true) rfl _ σ (Aq F8) ⟨rfl,rfl⟩
end
theorem Apj{n:Nat}{cs:List AV}(h:Ty Tryz.prog (n+3) 86 cs):∃c:Cn,cs=c.cs∧c.Wf:=by
 have hx:=Qa Tryz.underlying86 h;obtain⟨x1,y1,rfl,h1,x2,y2,rfl,h2,x3,y3,rfl,h3,rfl⟩:=hx;obtain⟨b,rfl⟩:=Adm Tryz.underlying4 h1;obtain⟨k,rfl,_⟩:=Wn Tryz.underlying3 h2;obtain⟨s,rfl,hs⟩:=Ir Tryz.underlying9 h3;exact⟨⟨b,k,s⟩,rfl,hs⟩
theorem Afw{n:Nat}:∀(es:List (List AV)),(∀x∈es,Ty Tryz.prog (n+3) 86 x)→∃l:List Cn,es=cnC l∧∀c∈l,c.Wf
 | [],_=>⟨[],rfl,fun x hx=>by cases hx⟩
 |x::es,h=>by
  obtain⟨l,rfl,hl⟩:=Afw es fun y hy=>h y (by simp[hy]);obtain⟨t,rfl,ht⟩:=Apj (h x (by simp));exact⟨t::l,rfl,fun y hy=>by rcases List.mem_cons.1 hy with rfl|hy;exact ht;exact hl y hy⟩
theorem Apo{n:Nat}{cs:List AV}(h:Ty Tryz.prog (n+5) 30 cs):∃f:Fa,cs=f.cs∧f.Wf:=by
 have hx:=Qa Tryz.underlying30 h;obtain⟨x1,y1,rfl,h1,x2,y2,rfl,h2,x3,y3,rfl,h3,x4,y4,rfl,h4,rfl⟩:=hx;obtain⟨a,rfl,ha⟩:=Ir Tryz.underlying9 h1;obtain⟨b,rfl,hb⟩:=Ir Tryz.underlying9 h2;obtain⟨p,rfl,hp⟩:=Ir Tryz.underlying9 h3;obtain⟨es,rfl,hl,he⟩:=Sz Tryz.underlying28 h4;obtain⟨ts,rfl,hts⟩:=Afw es he;have e1:Tryz.prog.cellsOf 86=3:=by kernel_rfl
 have e2:Tryz.prog.bytesOf 86=32:=by kernel_rfl
 rw[e1];rw[e2,He]at hl;exact⟨⟨a,b,p,ts⟩,rfl,by show ts.length≤_;omega,ha,hb,hp,hts⟩
theorem Ac9{n:Nat}:∀(es:List (List AV)),(∀x∈es,Ty Tryz.prog (n+7) 92 x)→∃l:List Rl,es=rlC l∧∀x∈l,x.Wf
 | [],_=>⟨[],rfl,fun x hx=>by cases hx⟩
 |x::es,h=>by
  obtain⟨l,rfl,hl⟩:=Ac9 es fun y hy=>h y (by simp[hy]);obtain⟨t,rfl,ht⟩:=Ap4 (h x (by simp));exact⟨t::l,rfl,fun y hy=>by rcases List.mem_cons.1 hy with rfl|hy;exact ht;exact hl y hy⟩
theorem Alp{n:Nat}{cs:List AV}(h:Ty Tryz.prog (n+8) 23 cs):∃l:List Rl,cs=[.sl 11 (rlC l)]∧l.length≤140737488351232∧∀x∈l,x.Wf:=by
 obtain⟨es,rfl,hl,he⟩:=Sz Tryz.underlying23 h;obtain⟨ts,rfl,hts⟩:=Ac9 es he;have e1:Tryz.prog.cellsOf 92=11:=by kernel_rfl
 have e2:1≤Tryz.prog.bytesOf 92:=Nat.le_of_ble_eq_true (by kernel_rfl);rw[e1];rw[Cm]at hl;exact⟨ts,rfl,Nat.le_trans (Nat.le_mul_of_pos_right _ e2) hl,hts⟩
theorem Adh{n:Nat}:∀(es:List (List AV)),(∀x∈es,Ty Tryz.prog (n+1) 9 x)→∃l:List ByteArray,es=stC l
 | [],_=>⟨[],rfl⟩
 |x::es,h=>by
  obtain⟨l,rfl⟩:=Adh es fun y hy=>h y (by simp[hy]);obtain⟨t,rfl,_⟩:=Ir Tryz.underlying9 (h x (by simp));exact⟨t::l,rfl⟩
theorem Alx{n:Nat}{cs:List AV}(h:Ty Tryz.prog (n+2) 22 cs):∃l:List ByteArray,cs=[.sl 1 (stC l)]:=by
 obtain⟨es,rfl,_,he⟩:=Sz Tryz.underlying22 h;obtain⟨ts,rfl⟩:=Adh es he;have e1:Tryz.prog.cellsOf 9=1:=by kernel_rfl
 rw[e1];exact⟨ts,rfl⟩
theorem Ape{n:Nat}{cs:List AV}(h:Ty Tryz.prog (n+9) 25 cs):∃(me:ByteArray) (names:List ByteArray) (lim:Int) (rs:List Rl),cs=c7C me names lim rs∧rs.length≤140737488351232∧∀r∈rs,r.Wf:=by
 have hx:=Qa Tryz.underlying25 h;obtain⟨x1,y1,rfl,h1,x2,y2,rfl,h2,x3,y3,rfl,h3,x4,y4,rfl,h4,rfl⟩:=hx;obtain⟨me,rfl,_⟩:=Ir Tryz.underlying9 h1;obtain⟨names,rfl⟩:=Alx h2;obtain⟨lim,rfl,_⟩:=Wn Tryz.underlying3 h3;obtain⟨rs,rfl,h5,h6⟩:=Alp h4;exact⟨me,names,lim,rs,rfl,h5,h6⟩
theorem Ao9{n:Nat}{cs:List AV}(h:Ty Tryz.prog (n+6) 32 cs):∃a:Ac,cs=a.cs∧a.f.Wf:=by
 have hx:=Qa Tryz.underlying32 h;obtain⟨x1,y1,rfl,h1,x2,y2,rfl,h2,rfl⟩:=hx;obtain⟨k,rfl,_⟩:=Wn Tryz.underlying3 h1;obtain⟨f,rfl,hf⟩:=Apo h2;exact⟨⟨k,f⟩,by simp[Ac.cs],hf⟩
theorem Afp{n:Nat}:∀(es:List (List AV)),(∀x∈es,Ty Tryz.prog (n+6) 32 x)→∃l:List Ac,es=acC l∧∀a∈l,a.f.Wf
 | [],_=>⟨[],rfl,fun x hx=>by cases hx⟩
 |x::es,h=>by
  obtain⟨l,rfl,hl⟩:=Afp es fun y hy=>h y (by simp[hy]);obtain⟨t,rfl,ht⟩:=Ao9 (h x (by simp));exact⟨t::l,rfl,fun y hy=>by rcases List.mem_cons.1 hy with rfl|hy;exact ht;exact hl y hy⟩
theorem Anm{n:Nat}{cs:List AV}(h:Ty Tryz.prog (n+7) 27 cs):∃l:List Ac,cs=[.sl 5 (acC l)]∧l.length≤140737488351232∧∀a∈l,a.f.Wf:=by
 obtain⟨es,rfl,hl,he⟩:=Sz Tryz.underlying27 h;obtain⟨ts,rfl,hts⟩:=Afp es he;have e1:Tryz.prog.cellsOf 32=5:=by kernel_rfl
 have e2:1≤Tryz.prog.bytesOf 32:=Nat.le_of_ble_eq_true (by kernel_rfl);rw[e1];rw[D4]at hl;exact⟨ts,rfl,Nat.le_trans (Nat.le_mul_of_pos_right _ e2) hl,hts⟩
theorem ca7_of{a b:AV}(ha:TyA Tryz.prog 9 25 a)(hb:TyA Tryz.prog 9 27 b):∃(me:ByteArray) (names:List ByteArray) (lim:Int) (rs:List Rl) (l:List Ac),a= .agg (c7C me names lim rs)∧b= .sl 5 (acC l)∧C7Wf rs l:=by
 obtain⟨cs,rfl,hx⟩:∃cs,a= .agg cs∧Ty Tryz.prog 9 25 cs:=by
  unfold TyA at ha;rw[Tryz.underlying25]at ha;exact ha
 have hb':Ty Tryz.prog 9 27 [b]:=by
  unfold TyA at hb;rw[Tryz.underlying27]at hb;exact hb
 obtain⟨me,names,lim,rs,rfl,h1,h2⟩:=Ape (n:=0) hx;obtain⟨l,e,h3,h4⟩:=Anm (n:=2) hb';obtain rfl:b= .sl 5 (acC l):=by simpa using e
 exact⟨me,names,lim,rs,l,rfl,rfl,h1,h2,h3,h4⟩
def te3:TE:=⟨⟨false,1,[.int .i64 0],.int .i64⟩,false,false,false,false,false,true,none⟩
theorem Ap8:Fv Tryz.prog 3 te3:=⟨by kernel_rfl,by kernel_rfl,by kernel_rfl,by kernel_rfl,by kernel_rfl,by kernel_rfl,by kernel_rfl,fun ls h=>by cases h⟩
def te5:TE:=⟨⟨false,1,[.int .u8 0],.int .u8⟩,false,false,false,false,false,true,none⟩
theorem Ap9:Fv Tryz.prog 5 te5:=⟨by kernel_rfl,by kernel_rfl,by kernel_rfl,by kernel_rfl,by kernel_rfl,by kernel_rfl,by kernel_rfl,fun ls h=>by cases h⟩
def te9:TE:=⟨⟨false,1,[.string ⟨#[]⟩],.str⟩,false,false,false,false,false,true,none⟩
theorem Aqa:Fv Tryz.prog 9 te9:=⟨by kernel_rfl,by kernel_rfl,by kernel_rfl,by kernel_rfl,by kernel_rfl,by kernel_rfl,by kernel_rfl,fun ls h=>by cases h⟩
def te20:TE:=⟨⟨false,1,[.nilIface],.iface⟩,false,false,false,false,false,false,none⟩
theorem Aok:Fv Tryz.prog 20 te20:=⟨by kernel_rfl,by kernel_rfl,by kernel_rfl,by kernel_rfl,by kernel_rfl,by kernel_rfl,by kernel_rfl,fun ls h=>by cases h⟩
def te23:TE:=⟨⟨false,1,[.slice none 0 0],.sl 11 160 [.string ⟨#[]⟩,.bool false,.int .i64 0,.string ⟨#[]⟩,.string ⟨#[]⟩,.slice none 0 0,.string ⟨#[]⟩,.bool false,.int .i64 0,.string ⟨#[]⟩,.slice none 0 0] false⟩,true,false,false,false,false,true,none⟩
theorem Aol:Fv Tryz.prog 23 te23:=⟨by kernel_rfl,by kernel_rfl,by kernel_rfl,by kernel_rfl,by kernel_rfl,by kernel_rfl,by kernel_rfl,fun ls h=>by cases h⟩
def te47:TE:=⟨⟨false,1,[.int .i64 0],.int .i64⟩,false,false,false,false,false,true,none⟩
theorem Aom:Fv Tryz.prog 47 te47:=⟨by kernel_rfl,by kernel_rfl,by kernel_rfl,by kernel_rfl,by kernel_rfl,by kernel_rfl,by kernel_rfl,fun ls h=>by cases h⟩
def te86:TE:=⟨⟨true,3,[.bool false,.int .i64 0,.string ⟨#[]⟩],.st [(0,1,false),(1,1,false),(2,1,false)]⟩,false,false,false,false,false,true,(some [.b,.i .i64,.s])⟩
theorem Aon:Fv Tryz.prog 86 te86:=⟨by kernel_rfl,by kernel_rfl,by kernel_rfl,by kernel_rfl,by kernel_rfl,by kernel_rfl,by kernel_rfl,fun ls h=>by cases h;exact⟨by kernel_rfl,by kernel_rfl,by kernel_rfl⟩⟩
def te88:TE:=⟨⟨true,4,[.string ⟨#[]⟩,.bool false,.int .i64 0,.string ⟨#[]⟩],.st [(0,1,false),(1,3,true)]⟩,false,false,false,false,false,true,(some [.s,.b,.i .i64,.s])⟩
theorem Aoo:Fv Tryz.prog 88 te88:=⟨by kernel_rfl,by kernel_rfl,by kernel_rfl,by kernel_rfl,by kernel_rfl,by kernel_rfl,by kernel_rfl,fun ls h=>by cases h;exact⟨by kernel_rfl,by kernel_rfl,by kernel_rfl⟩⟩
def te89:TE:=⟨⟨false,1,[.slice none 0 0],.sl 4 48 [.string ⟨#[]⟩,.bool false,.int .i64 0,.string ⟨#[]⟩] false⟩,true,false,false,false,false,true,none⟩
theorem Aop:Fv Tryz.prog 89 te89:=⟨by kernel_rfl,by kernel_rfl,by kernel_rfl,by kernel_rfl,by kernel_rfl,by kernel_rfl,by kernel_rfl,fun ls h=>by cases h⟩
def te90:TE:=⟨⟨false,1,[.slice none 0 0],.sl 10 136 [.string ⟨#[]⟩,.bool false,.int .i64 0,.string ⟨#[]⟩,.string ⟨#[]⟩,.slice none 0 0,.string ⟨#[]⟩,.bool false,.int .i64 0,.string ⟨#[]⟩] false⟩,true,false,false,false,false,true,none⟩
theorem Aoq:Fv Tryz.prog 90 te90:=⟨by kernel_rfl,by kernel_rfl,by kernel_rfl,by kernel_rfl,by kernel_rfl,by kernel_rfl,by kernel_rfl,fun ls h=>by cases h⟩
def te92:TE:=⟨⟨true,11,[.string ⟨#[]⟩,.bool false,.int .i64 0,.string ⟨#[]⟩,.string ⟨#[]⟩,.slice none 0 0,.string ⟨#[]⟩,.bool false,.int .i64 0,.string ⟨#[]⟩,.slice none 0 0],.st [(0,4,true),(4,1,false),(5,1,false),(6,4,true),(10,1,false)]⟩,false,false,false,false,false,true,none⟩
theorem Aor:Fv Tryz.prog 92 te92:=⟨by kernel_rfl,by kernel_rfl,by kernel_rfl,by kernel_rfl,by kernel_rfl,by kernel_rfl,by kernel_rfl,fun ls h=>by cases h⟩
def Anc:TE:=⟨⟨true,10,[.string ⟨#[]⟩,.bool false,.int .i64 0,.string ⟨#[]⟩,.string ⟨#[]⟩,.slice none 0 0,.string ⟨#[]⟩,.bool false,.int .i64 0,.string ⟨#[]⟩],.st [(0,4,true),(4,1,false),(5,1,false),(6,4,true)]⟩,false,false,false,false,false,true,none⟩
theorem Al0:Fv Tryz.prog 104 Anc:=⟨by kernel_rfl,by kernel_rfl,by kernel_rfl,by kernel_rfl,by kernel_rfl,by kernel_rfl,by kernel_rfl,fun ls h=>by cases h⟩
def Ane:TE:=⟨⟨false,1,[.slice none 0 0],.sl 4 40 [.int .i64 0,.string ⟨#[]⟩,.int .i64 0,.int .i64 0] false⟩,true,false,false,false,false,true,none⟩
theorem Al1:Fv Tryz.prog 130 Ane:=⟨by kernel_rfl,by kernel_rfl,by kernel_rfl,by kernel_rfl,by kernel_rfl,by kernel_rfl,by kernel_rfl,fun ls h=>by cases h⟩
def Anf:TE:=⟨⟨false,1,[.pointer none],.ptr 135⟩,false,true,false,false,false,true,none⟩
theorem Al2:Fv Tryz.prog 133 Anf:=⟨by kernel_rfl,by kernel_rfl,by kernel_rfl,by kernel_rfl,by kernel_rfl,by kernel_rfl,by kernel_rfl,fun ls h=>by cases h⟩
def Ang:TE:=⟨⟨true,2,[.slice none 0 0,.int .i64 0],.st [(0,1,false),(1,1,false)]⟩,false,false,false,false,false,true,none⟩
theorem Al3:Fv Tryz.prog 135 Ang:=⟨by kernel_rfl,by kernel_rfl,by kernel_rfl,by kernel_rfl,by kernel_rfl,by kernel_rfl,by kernel_rfl,fun ls h=>by cases h⟩
def Anh:TE:=⟨⟨true,2,[.int .i64 0,.int .i64 0],.st [(0,1,false),(1,1,false)]⟩,false,false,false,false,false,true,(some [.i .i64,.i .i64])⟩
theorem Al4:Fv Tryz.prog 137 Anh:=⟨by kernel_rfl,by kernel_rfl,by kernel_rfl,by kernel_rfl,by kernel_rfl,by kernel_rfl,by kernel_rfl,fun ls h=>by cases h;exact⟨by kernel_rfl,by kernel_rfl,by kernel_rfl⟩⟩
def Ani:TE:=⟨⟨true,4,[.int .i64 0,.string ⟨#[]⟩,.int .i64 0,.int .i64 0],.st [(0,1,false),(1,1,false),(2,1,false),(3,1,false)]⟩,false,false,false,false,false,true,(some [.i .i64,.s,.i .i64,.i .i64])⟩
theorem Al5:Fv Tryz.prog 186 Ani:=⟨by kernel_rfl,by kernel_rfl,by kernel_rfl,by kernel_rfl,by kernel_rfl,by kernel_rfl,by kernel_rfl,fun ls h=>by cases h;exact⟨by kernel_rfl,by kernel_rfl,by kernel_rfl⟩⟩
def Anj:TE:=⟨⟨false,1,[.nilFunc],.other⟩,false,false,true,false,false,true,none⟩
theorem Al6:Fv Tryz.prog 218 Anj:=⟨by kernel_rfl,by kernel_rfl,by kernel_rfl,by kernel_rfl,by kernel_rfl,by kernel_rfl,by kernel_rfl,fun ls h=>by cases h⟩
def tyT:Tr TE:=(.n (.n (.n (.n .e (.n (.n .e (.n .e (.n (.n (.n (.l Anc) .e) .e) .e))) (.n (.n .e (.n (.n (.n (.l te88) .e) .e) .e)) .e))) (.n (.n .e (.n (.n (.n (.n (.n (.l te20) .e) .e) .e) .e) .e)) (.n .e (.n (.n .e (.n (.n (.n (.l te92) .e) .e) .e)) .e)))) (.n (.n (.n (.n (.n (.n .e (.n (.n (.l Ane) .e) .e)) .e) .e) .e) (.n .e (.n (.n .e (.n (.n (.n (.l te90) .e) .e) (.n (.n (.l Anj) .e) .e))) (.n (.n .e (.n (.n (.l Ani) .e) .e)) .e)))) (.n (.n .e (.n (.n .e (.n (.n (.n (.l te86) .e) .e) .e)) .e)) .e))) (.n (.n (.n .e (.n (.n (.n (.n (.n (.n (.l te9) .e) .e) (.n (.n (.l Anh) .e) .e)) .e) .e) (.n (.n .e (.n (.n (.n (.l te89) .e) .e) .e)) .e))) (.n (.n (.n (.n (.n (.n (.n (.l te5) .e) .e) (.n (.n (.l Anf) .e) .e)) .e) .e) .e) .e)) (.n (.n (.n (.n (.n (.n (.n (.n (.l te3) .e) .e) .e) .e) .e) .e) .e) (.n (.n (.n (.n (.n .e (.n (.n (.l Ang) .e) .e)) .e) .e) (.n (.n (.n (.n (.n (.l te23) .e) .e) .e) .e) .e)) (.n (.n .e (.n (.n (.n (.n (.l te47) .e) .e) .e) .e)) .e)))))
theorem tyOk:tyT.All 10 (Fv Tryz.prog):=⟨⟨⟨⟨trivial,⟨⟨trivial,⟨trivial,⟨⟨⟨Al0,trivial⟩,trivial⟩,trivial⟩⟩⟩,⟨⟨trivial,⟨⟨⟨Aoo,trivial⟩,trivial⟩,trivial⟩⟩,trivial⟩⟩⟩,⟨⟨trivial,⟨⟨⟨⟨⟨Aok,trivial⟩,trivial⟩,trivial⟩,trivial⟩,trivial⟩⟩,⟨trivial,⟨⟨trivial,⟨⟨⟨Aor,trivial⟩,trivial⟩,trivial⟩⟩,trivial⟩⟩⟩⟩,⟨⟨⟨⟨⟨⟨trivial,⟨⟨Al1,trivial⟩,trivial⟩⟩,trivial⟩,trivial⟩,trivial⟩,⟨trivial,⟨⟨trivial,⟨⟨⟨Aoq,trivial⟩,trivial⟩,⟨⟨Al6,trivial⟩,trivial⟩⟩⟩,⟨⟨trivial,⟨⟨Al5,trivial⟩,trivial⟩⟩,trivial⟩⟩⟩⟩,⟨⟨trivial,⟨⟨trivial,⟨⟨⟨Aon,trivial⟩,trivial⟩,trivial⟩⟩,trivial⟩⟩,trivial⟩⟩⟩,⟨⟨⟨trivial,⟨⟨⟨⟨⟨⟨Aqa,trivial⟩,trivial⟩,⟨⟨Al4,trivial⟩,trivial⟩⟩,trivial⟩,trivial⟩,⟨⟨trivial,⟨⟨⟨Aop,trivial⟩,trivial⟩,trivial⟩⟩,trivial⟩⟩⟩,⟨⟨⟨⟨⟨⟨⟨Ap9,trivial⟩,trivial⟩,⟨⟨Al2,trivial⟩,trivial⟩⟩,trivial⟩,trivial⟩,trivial⟩,trivial⟩⟩,⟨⟨⟨⟨⟨⟨⟨⟨Ap8,trivial⟩,trivial⟩,trivial⟩,trivial⟩,trivial⟩,trivial⟩,trivial⟩,⟨⟨⟨⟨⟨trivial,⟨⟨Al3,trivial⟩,trivial⟩⟩,trivial⟩,trivial⟩,⟨⟨⟨⟨⟨Aol,trivial⟩,trivial⟩,trivial⟩,trivial⟩,trivial⟩⟩,⟨⟨trivial,⟨⟨⟨⟨Aom,trivial⟩,trivial⟩,trivial⟩,trivial⟩⟩,trivial⟩⟩⟩⟩⟩
noncomputable def fe42:FE:=⟨Tryz.f42,[(3,[.rd 0 true,.rd 1 true,.ef 2 [0,1],.ef 3 [1],.ef 4 []]),(9,[.rd 0 true,.rd 1 false,.ef 2 [0],.rd 3 false,.ef 4 [],.ef 5 []])]⟩
noncomputable def fe83:FE:=⟨Tryz.f83,[]⟩
noncomputable def fe84:FE:=⟨Tryz.f84,[(3,[.rd 0 false,.rd 1 true,.rd 2 false,.rd 3 true,.ef 4 [1,3],.ef 5 [3],.ef 6 []])]⟩
noncomputable def fe85:FE:=⟨Tryz.f85,[]⟩
noncomputable def fe86:FE:=⟨Tryz.f86,[]⟩
noncomputable def fe87:FE:=⟨Tryz.f87,[(10,[.rd 0 false,.rd 1 true,.rd 2 false,.ef 3 [1],.rd 4 false,.ef 5 [],.rd 6 false,.ef 7 []])]⟩
noncomputable def Ami:FE:=⟨Tryz.f142,[]⟩
noncomputable def Amj:FE:=⟨Tryz.f143,[(7,[.rd 0 false,.rd 1 false,.rd 2 false,.rd 3 true,.rd 4 false,.ef 5 [3],.rd 6 false,.ef 7 []]),(10,[.rd 0 false,.rd 1 false,.rd 2 false,.rd 3 true,.rd 4 false,.ef 5 [3],.rd 6 false,.ef 7 []]),(24,[.rd 0 false,.rd 1 false,.rd 2 false,.rd 3 true,.rd 4 false,.ef 5 [3],.rd 6 false,.ef 7 []]),(26,[.rd 0 false,.rd 1 false,.rd 2 false,.rd 3 true,.rd 4 false,.ef 5 [3],.rd 6 false,.ef 7 []])]⟩
noncomputable def Amk:FE:=⟨Tryz.f144,[]⟩
noncomputable def Aml:FE:=⟨Tryz.f145,[]⟩
noncomputable def Amm:FE:=⟨Tryz.f146,[]⟩
noncomputable def Amn:FE:=⟨Tryz.f147,[]⟩
noncomputable def Amo:FE:=⟨Tryz.f148,[]⟩
noncomputable def Amp:FE:=⟨Tryz.f149,[]⟩
noncomputable def Amq:FE:=⟨Tryz.f150,[]⟩
noncomputable def Amr:FE:=⟨Tryz.f151,[]⟩
noncomputable def Ams:FE:=⟨Tryz.f182,[]⟩
noncomputable def Amt:FE:=⟨Tryz.f183,[]⟩
noncomputable def Amu:FE:=⟨Tryz.f184,[]⟩
noncomputable def Amv:FE:=⟨Tryz.f185,[]⟩
noncomputable def Amw:FE:=⟨Tryz.f186,[]⟩
noncomputable def Amx:FE:=⟨Tryz.f187,[]⟩
noncomputable def Amy:FE:=⟨Tryz.f188,[]⟩
noncomputable def Amz:FE:=⟨Tryz.f189,[]⟩
noncomputable def Am0:FE:=⟨Tryz.f190,[]⟩
noncomputable def Am1:FE:=⟨Tryz.f191,[]⟩
noncomputable def Am2:FE:=⟨Tryz.f227,[]⟩
theorem Anw:Fe Tryz.prog 42 fe42:=⟨Tryz.func42,by decide,by kernel_rfl⟩
theorem Anx:Fe Tryz.prog 83 fe83:=⟨Tryz.func83,by decide,by kernel_rfl⟩
theorem Any:Fe Tryz.prog 84 fe84:=⟨Tryz.func84,by decide,by kernel_rfl⟩
theorem Anz:Fe Tryz.prog 85 fe85:=⟨Tryz.func85,by decide,by kernel_rfl⟩
theorem An0:Fe Tryz.prog 86 fe86:=⟨Tryz.func86,by decide,by kernel_rfl⟩
theorem An1:Fe Tryz.prog 87 fe87:=⟨Tryz.func87,by decide,by kernel_rfl⟩
theorem Aki:Fe Tryz.prog 142 Ami:=⟨Tryz.func142,by decide,by kernel_rfl⟩
theorem Akj:Fe Tryz.prog 143 Amj:=⟨Tryz.func143,by decide,by kernel_rfl⟩
theorem Akk:Fe Tryz.prog 144 Amk:=⟨Tryz.func144,by decide,by kernel_rfl⟩
theorem Akl:Fe Tryz.prog 145 Aml:=⟨Tryz.func145,by decide,by kernel_rfl⟩
theorem Akm:Fe Tryz.prog 146 Amm:=⟨Tryz.func146,by decide,by kernel_rfl⟩
theorem Akn:Fe Tryz.prog 147 Amn:=⟨Tryz.func147,by decide,by kernel_rfl⟩
theorem Ako:Fe Tryz.prog 148 Amo:=⟨Tryz.func148,by decide,by kernel_rfl⟩
theorem Akp:Fe Tryz.prog 149 Amp:=⟨Tryz.func149,by decide,by kernel_rfl⟩
theorem Akq:Fe Tryz.prog 150 Amq:=⟨Tryz.func150,by decide,by kernel_rfl⟩
theorem Akr:Fe Tryz.prog 151 Amr:=⟨Tryz.func151,by decide,by kernel_rfl⟩
theorem Aks:Fe Tryz.prog 182 Ams:=⟨Tryz.func182,by decide,by kernel_rfl⟩
theorem Akt:Fe Tryz.prog 183 Amt:=⟨Tryz.func183,by decide,by kernel_rfl⟩
theorem Aku:Fe Tryz.prog 184 Amu:=⟨Tryz.func184,by decide,by kernel_rfl⟩
theorem Akv:Fe Tryz.prog 185 Amv:=⟨Tryz.func185,by decide,by kernel_rfl⟩
theorem Akw:Fe Tryz.prog 186 Amw:=⟨Tryz.func186,by decide,by kernel_rfl⟩
theorem Akx:Fe Tryz.prog 187 Amx:=⟨Tryz.func187,by decide,by kernel_rfl⟩
theorem Aky:Fe Tryz.prog 188 Amy:=⟨Tryz.func188,by decide,by kernel_rfl⟩
theorem Akz:Fe Tryz.prog 189 Amz:=⟨Tryz.func189,by decide,by kernel_rfl⟩
theorem Ak0:Fe Tryz.prog 190 Am0:=⟨Tryz.func190,by decide,by kernel_rfl⟩
theorem Ak1:Fe Tryz.prog 191 Am1:=⟨Tryz.func191,by decide,by kernel_rfl⟩
theorem Ak2:Fe Tryz.prog 227 Am2:=⟨Tryz.func227,by decide,by kernel_rfl⟩
noncomputable def ftT:Tr FE:=(.n (.n (.n (.n (.n .e (.n (.n (.n .e (.n (.n (.l Amk) .e) .e)) .e) .e)) (.n .e (.n .e (.n (.n .e (.n (.n (.l Amu) .e) .e)) .e)))) (.n (.n .e (.n (.n (.n .e (.n (.n (.l Amo) .e) .e)) (.n (.n (.n (.l fe84) .e) .e) .e)) .e)) (.n .e (.n .e (.n (.n .e (.n (.n (.l Amy) .e) .e)) .e))))) (.n (.n (.n .e (.n (.n (.n .e (.n (.n (.l Amm) .e) .e)) .e) .e)) (.n (.n .e (.n (.n (.n (.n (.l fe42) .e) .e) .e) .e)) (.n .e (.n (.n .e (.n (.n (.l Amw) .e) .e)) .e)))) (.n (.n .e (.n (.n (.n .e (.n (.n (.l Amq) .e) .e)) (.n (.n (.n (.l fe86) .e) .e) .e)) (.n (.n .e (.n (.n (.l Ams) .e) .e)) .e))) (.n (.n (.n (.n .e (.n (.n (.l Ami) .e) .e)) .e) .e) (.n .e (.n (.n .e (.n (.n (.l Am0) .e) .e)) .e)))))) (.n (.n (.n (.n .e (.n (.n (.n .e (.n (.n (.l Aml) .e) .e)) .e) .e)) (.n .e (.n .e (.n (.n .e (.n (.n (.l Amv) .e) .e)) .e)))) (.n (.n .e (.n (.n (.n .e (.n (.n (.l Amp) .e) .e)) (.n (.n (.n (.l fe85) .e) .e) .e)) .e)) (.n .e (.n .e (.n (.n .e (.n (.n (.l Amz) .e) .e)) .e))))) (.n (.n (.n (.n .e (.n .e (.n .e (.n (.n (.l Am2) .e) .e)))) (.n (.n (.n .e (.n (.n (.l Amn) .e) .e)) (.n (.n (.n (.l fe83) .e) .e) .e)) .e)) (.n .e (.n .e (.n (.n .e (.n (.n (.l Amx) .e) .e)) .e)))) (.n (.n .e (.n (.n (.n .e (.n (.n (.l Amr) .e) .e)) (.n (.n (.n (.l fe87) .e) .e) .e)) (.n (.n .e (.n (.n (.l Amt) .e) .e)) .e))) (.n (.n (.n (.n .e (.n (.n (.l Amj) .e) .e)) .e) .e) (.n .e (.n (.n .e (.n (.n (.l Am1) .e) .e)) .e)))))))
theorem ftOk:ftT.All 10 (Fe Tryz.prog):=⟨⟨⟨⟨⟨trivial,⟨⟨⟨trivial,⟨⟨Akk,trivial⟩,trivial⟩⟩,trivial⟩,trivial⟩⟩,⟨trivial,⟨trivial,⟨⟨trivial,⟨⟨Aku,trivial⟩,trivial⟩⟩,trivial⟩⟩⟩⟩,⟨⟨trivial,⟨⟨⟨trivial,⟨⟨Ako,trivial⟩,trivial⟩⟩,⟨⟨⟨Any,trivial⟩,trivial⟩,trivial⟩⟩,trivial⟩⟩,⟨trivial,⟨trivial,⟨⟨trivial,⟨⟨Aky,trivial⟩,trivial⟩⟩,trivial⟩⟩⟩⟩⟩,⟨⟨⟨trivial,⟨⟨⟨trivial,⟨⟨Akm,trivial⟩,trivial⟩⟩,trivial⟩,trivial⟩⟩,⟨⟨trivial,⟨⟨⟨⟨Anw,trivial⟩,trivial⟩,trivial⟩,trivial⟩⟩,⟨trivial,⟨⟨trivial,⟨⟨Akw,trivial⟩,trivial⟩⟩,trivial⟩⟩⟩⟩,⟨⟨trivial,⟨⟨⟨trivial,⟨⟨Akq,trivial⟩,trivial⟩⟩,⟨⟨⟨An0,trivial⟩,trivial⟩,trivial⟩⟩,⟨⟨trivial,⟨⟨Aks,trivial⟩,trivial⟩⟩,trivial⟩⟩⟩,⟨⟨⟨⟨trivial,⟨⟨Aki,trivial⟩,trivial⟩⟩,trivial⟩,trivial⟩,⟨trivial,⟨⟨trivial,⟨⟨Ak0,trivial⟩,trivial⟩⟩,trivial⟩⟩⟩⟩⟩⟩,⟨⟨⟨⟨trivial,⟨⟨⟨trivial,⟨⟨Akl,trivial⟩,trivial⟩⟩,trivial⟩,trivial⟩⟩,⟨trivial,⟨trivial,⟨⟨trivial,⟨⟨Akv,trivial⟩,trivial⟩⟩,trivial⟩⟩⟩⟩,⟨⟨trivial,⟨⟨⟨trivial,⟨⟨Akp,trivial⟩,trivial⟩⟩,⟨⟨⟨Anz,trivial⟩,trivial⟩,trivial⟩⟩,trivial⟩⟩,⟨trivial,⟨trivial,⟨⟨trivial,⟨⟨Akz,trivial⟩,trivial⟩⟩,trivial⟩⟩⟩⟩⟩,⟨⟨⟨⟨trivial,⟨trivial,⟨trivial,⟨⟨Ak2,trivial⟩,trivial⟩⟩⟩⟩,⟨⟨⟨trivial,⟨⟨Akn,trivial⟩,trivial⟩⟩,⟨⟨⟨Anx,trivial⟩,trivial⟩,trivial⟩⟩,trivial⟩⟩,⟨trivial,⟨trivial,⟨⟨trivial,⟨⟨Akx,trivial⟩,trivial⟩⟩,trivial⟩⟩⟩⟩,⟨⟨trivial,⟨⟨⟨trivial,⟨⟨Akr,trivial⟩,trivial⟩⟩,⟨⟨⟨An1,trivial⟩,trivial⟩,trivial⟩⟩,⟨⟨trivial,⟨⟨Akt,trivial⟩,trivial⟩⟩,trivial⟩⟩⟩,⟨⟨⟨⟨trivial,⟨⟨Akj,trivial⟩,trivial⟩⟩,trivial⟩,trivial⟩,⟨trivial,⟨⟨trivial,⟨⟨Ak1,trivial⟩,trivial⟩⟩,trivial⟩⟩⟩⟩⟩⟩⟩
theorem An4(vs:Array Value):Wr Tryz.prog 84 vs:=fun w=>by
 refine callsDIn_of_wpSIn Tryz.func84 rfl trivial fun c₀ cs hu=>?_;have hsz:14≤(vs++Array.replicate (14-vs.size) undef).size:=by simp;omega
 rw[show Tryz.f84.ntmps=14 from rfl];revert hsz;generalize vs++Array.replicate (14-vs.size) undef=tm;intro hsz;apply wpSIn_seq;apply wpSIn_region;simp[wpOpsSIn,go_sem,recoverD,hu,Exit.thenS];apply wpSIn_seq;apply wpSIn_region;have h3:3<tm.size:=by omega
 have h5:5<tm.size:=by omega
 have h6:6<tm.size:=by omega
 have h7:7<tm.size:=by omega
 simp[wpOpsSIn,go_sem,Exit.thenS,h3,h5,h6,h7,Act.eval,Act.put];refine wpSIn_cond (t:=false) (by simp[Act.eval,h3,h5,h6,h7]) ?_;simp only[Bool.false_eq_true,if_false];refine wpSIn_of_wpIn rfl (wpIn_skip ?_);cases c₀
 simp_all [bodyPostS,results,show Tryz.f84.results= #[]from rfl]
theorem prOk:PrOk Tryz.prog tyT ftT (fun f=>Nat.beq f 84) where
 mx:=by kernel_rfl
 ty:=fun t e ht he=>Tr.all_get tyOk (by simpa using ht) he
 ft:=fun t e ht he=>Tr.all_get ftOk (by simpa using ht) he
 idle:=fun f hf=>by
  rw[Az]at hf;subst hf;exact⟨⟨_,Tryz.func84,rfl,by decide⟩,An4⟩
def txtL:RS:=.v (.string ⟨#[65,58,32,112,40,88,41,32,58,45,32,113,40,88,41,46]⟩)
def resT:AV:=.tup [.sl 11 [[.v (.string ⟨#[65]⟩),.v (.bool false),.v (.int .i64 0),.v (.string ⟨#[]⟩),.v (.string ⟨#[112]⟩),.sl 4 [[.v (.string ⟨#[88]⟩),.v (.bool false),.v (.int .i64 0),.v (.string ⟨#[]⟩)]],.v (.string ⟨#[]⟩),.v (.bool false),.v (.int .i64 0),.v (.string ⟨#[]⟩),
 .sl 10 [[.v (.string ⟨#[]⟩),.v (.bool false),.v (.int .i64 0),.v (.string ⟨#[]⟩),.v (.string ⟨#[113]⟩),.sl 4 [[.v (.string ⟨#[88]⟩),.v (.bool false),.v (.int .i64 0),.v (.string ⟨#[]⟩)]],.v (.string ⟨#[]⟩),.v (.bool false),.v (.int .i64 0),.v (.string ⟨#[]⟩)]]]],.v (.int .i64 0),.v (.int .i64 0)]
theorem runP:runV Tryz.prog tyT ftT (fun f=>Nat.beq f 84) 100000 40 12 42 [txtL]=some resT:=by kernel_rfl
theorem parse1_at{σ:St}:AT Tryz.prog 42 [.v (.string ⟨#[65,58,32,112,40,88,41,32,58,45,32,113,40,88,41,46]⟩)] σ fun r σ'=>r=resT∧σ'=σ:=by
 have h:=Alu (σ:=σ) prOk runP (by kernel_rfl) (fun _=>.v (.bool false)) (fun _=>⟨rfl,rfl⟩) (by simp only[RS.wfs,RS.wf,txtL];trivial);have e:RS.ivs ⟨fun i=>i,fun i=>i,fun _=>.v (.bool false)⟩ [txtL]=[.v (.string ⟨#[65,58,32,112,40,88,41,32,58,45,32,113,40,88,41,46]⟩)]:=by
  simp only[RS.ivs,RS.iv,RS.vv,txtL]
 rw[e]at h;exact h
end Go.Proofs.YtmifmncabejffaaGreat
