/-
  Contracts of the functions that the statement reaches, and the plain laws of what they reckon.
  Conditions: none.
-/
import Derived.Test.YtmifmncabejffaaGreatV1EvalFull
import Derived.Test.YtmifmncabejffaaGreatV2EvalFull
import Derived.Test.YtmifmncabejffaaGreatV3EvalFull
import Derived.Test.YtmifmncabejffaaGreatX1EvalFull
set_option linter.unusedVariables false
set_option linter.unusedSimpArgs false
set_option linter.unusedSectionVars false
set_option maxRecDepth 100000
namespace Go.Proofs.YtmifmncabejffaaGreat
open Go Go.Av
theorem We{p:Fa→Bool}{l:List Fa}{j:Nat}(h:j<l.length):((l.take (j+1)).filter fun x=>!p x)=((l.take j).filter fun x=>!p x)++(if !p l[j]then[l[j]]else[]):=by
 rw[List.take_add_one,List.getElem?_eq_getElem h,List.filter_append];cases hb:p l[j]<;>simp[hb]
section
variable{σ:St}{t g:Nat}
theorem Aec{β:St}{v:AV}(l:List Fa)(p:Fa→Bool)(h:Ow 4 σ v (faC l))(hl:l.length≤1000000000000)(hs:∀x o,β x=some o→σ x=some o)(hn:∀x,Own v x→β x=none)(hC:∀σ',(∀x o,β x=some o→σ' x=some o)→∀x∈l,AT Tryz.prog g [.agg x.cs,ptr t] σ' fun r σ''=>r=boo (p x)∧σ''=σ'):AT Tryz.prog 63 [v,clo g t] σ fun r σ'=>LAt 4 σ' r (faC (l.filter fun x=>!p x))∧Cg β σ' r:=by
 refine AT.ob Tryz.func63 rfl ?_;simp only[go_sem];refine(Qv l p (.of h.lat) hl (hC σ hs)).mono ?_;rintro _ σ ⟨⟨k,rfl,hk⟩,rfl⟩;rcases hk with⟨rfl,hk⟩|⟨k,rfl,hkl,hk1,hk2⟩
 ·simp only[go_sem]
  refine Ae (r:=v) rfl ⟨by rw[Qp hk];exact h.lat,fun y o hy=>⟨hs y o hy,fun ho=>by rw[hn y ho]at hy;cases hy⟩⟩
 ·rcases h with⟨h0,_⟩|⟨b,cap,rfl,hcap,hb⟩
  ·have:=congrArg List.length h0
   rw[Aj,List.length_nil]at this;omega
  ·rw[Aj]at hcap hn⊢
   have hbn:β b=none:=hn b (B6.2 rfl);have d0:=decide_eq_false (show¬(k:Int)= -1 by omega);simp only[go_sem,Aa,d0,As k (by omega)];refine⟨fun m fr σ'=>∃(j w:Nat) (es:List (List AV)),m=l.length-j∧j≤l.length∧w<j∧w=((l.take j).filter fun x=>!p x).length∧es.take w=faC ((l.take j).filter fun x=>!p x)∧es.length=l.length∧(∀i,i<l.length→(es.getD i []).length=4)∧(∀i (h:i<l.length),j≤i→es.getD i []=l[i].cs)∧(∀x o,β x=some o→σ' x=some o)∧σ' b=some (.rows 4 es false cap)∧fr 0=slv b l.length cap∧fr 1=clo g t∧fr 5=int w∧fr 6=int j,⟨_,k+1,k,faC l,rfl,by omega,by omega,?_,?_,Aj l,fun i hi=>by rw[Aq hi];rfl,fun i hi _=>Aq hi,hs,hb,rfl,rfl,rfl,rfl⟩,?_⟩
   ·rw[Abh hkl,Qp hk2,hk1,List.length_take];simp;omega
   ·rw[We hkl,Qp hk2,hk1];simp[faC,List.map_take]
   clear hs hb hk1 hk2;rintro m fr σ1 ⟨j,w,es,rfl,hj,hw,hwc,hwt,he1,he2,he3,hs1,hb1,f0,f1,f5,f6⟩;simp only[go_sem,f0,f6];refine aIf_by (fun hlt=>?_) (fun hlt=>?_)
   ·have hjl:j<l.length:=by omega
    have eg:=he3 j hjl (Nat.le_refl _);have hcnt:=Abh (p:=p) hjl;have hflt:=We (p:=p) hjl;rw[←hwc]at hcnt;simp only[go_sem,Aa,f0,f6,hb1,eg,he1];refine⟨by omega,by omega,Ctx.nil.alloc fun q σ2 c2=>?_⟩;obtain⟨σ3,e3,c3⟩:=c2.abs 0 rfl (.cells l[j].cs);have hb3:=c3.sub _ _ hb1;have hs3:∀x o,β x=some o→σ3 x=some o:=fun x o hx=>c3.sub _ _ (hs1 x o hx);simp only[go_sem,Aa,c2.g0,e3,f1,c3.g0];refine(hC σ3 hs3 _ (List.getElem_mem hjl)).p ?_;have hp0:=c3.g0;simp only at hp0;have hb4:∀{τ:St} {o:Cj},τ=σ3.set b o→∀x o,β x=some o→τ x=some o:=fun e x o hx=>by
     rw[e,Ag (fun e=>by rw[e,hbn]at hx;cases hx)];exact hs3 x o hx
    clear e3 c3 c2;cases hpj:p l[j]with
    |true=>
     rw[hpj]at hcnt;simp only[reduceIte,Nat.add_zero]at hcnt;have hcnt':=hcnt.symm;rw[hpj]at hflt;simp only[Bool.not_true,Bool.false_eq_true,reduceIte,List.append_nil]at hflt;rw[←hflt]at hwt;have he3':∀i (h:i<l.length),j+1≤i→es.getD i []=l[i].cs:=fun i h h2=>he3 i h (by omega);simp only[go_sem,Aa,Bool.not_true,f0,f1,f5,f6,As j (by omega)];refine⟨l.length-(j+1),by omega,j+1,w,es,rfl,by omega,by omega,hcnt',hwt,he1,he2,he3',hs3,hb3,?_⟩
     (and_intros<;>first|assumption|rfl|omega)
    |false=>
     rw[hpj]at hcnt;simp only[Bool.false_eq_true,reduceIte]at hcnt;have hcnt':=hcnt.symm;rw[hpj]at hflt;simp only[Bool.not_false,reduceIte]at hflt;have hwt':(es.set w l[j].cs).take (w+1)=faC ((l.take (j+1)).filter fun x=>!p x):=by
      rw[hflt,List.take_add_one,List.take_set_of_le (Nat.le_refl _),hwt,List.getElem?_set_self (by omega)];simp[faC]
     have dz:List.drop 4 (es.getD w [])=[]:=List.drop_eq_nil_of_le (by rw[he2 w (by omega)];omega);have hlen:(es.set w l[j].cs).length=l.length:=by simp;omega
     have he2':∀i,i<l.length→((es.set w l[j].cs).getD i []).length=4:=fun i hi=>by
      simp only[List.getD_eq_getElem?_getD,List.getElem?_set];split
      ·rw[if_pos (by omega)];rfl
      ·have:=he2 i hi
       rwa[List.getD_eq_getElem?_getD]at this
     have he3':∀i (h:i<l.length),j+1≤i→(es.set w l[j].cs).getD i []=l[i].cs:=fun i h h2=>by
      simp only[List.getD_eq_getElem?_getD];rw[List.getElem?_set_ne (by omega)];have:=he3 i h (by omega);rwa[List.getD_eq_getElem?_getD]at this
     simp only[go_sem,Aa,Bool.not_false,f0,f1,f5,f6,hp0,hb3,he1,dz,List.append_nil,As j (by omega),As w (by omega)];refine⟨by omega,by omega,l.length-(j+1),by omega,j+1,w+1,es.set w l[j].cs,rfl,by omega,by omega,hcnt',hwt',hlen,he2',he3',hb4 rfl,rfl,?_⟩
     (and_intros<;>first|assumption|rfl|omega)
   ·have hjl:j=l.length:=by omega
    subst hjl;rw[List.take_of_length_le (Nat.le_refl _)]at hwc hwt;simp only[go_sem,Aa,f0,f5];refine B2 (p:=w*4) (by omega) (by omega) hcap (by omega) ?_;simp only[go_sem,Aa];refine Mc (l:=w) (by omega) hb1 (by decide) (by omega) (by omega) (by decide) ?_;simp only[go_sem,Aa,f0,f5];refine Pv (by omega) hcap ?_;simp only[go_sem,Aa];refine Ad (r:=slv b w cap) rfl _ _ (Mu (m:=w) _ Ab) ?_;rw[Ct];have hfl:(faC (l.filter fun x=>!p x)).length=w:=by rw[Aj,hwc]
    refine⟨.inr (.inr ⟨b,cap,by rw[hfl],by rw[hfl];omega,?_⟩),fun y o hy=>⟨?_,fun ho=>?_⟩⟩
    ·rw[Ab,List.append_assoc,List.take_append_of_le_length (by rw[List.length_take,he1];omega),List.take_take,Nat.min_self,hwt]
    ·rw[Ag (fun e=>by rw[e,hbn]at hy;cases hy)];exact hs1 y o hy
    ·rw[B6.1 ho,hbn]at hy;cases hy
theorem Tj{lv:AV}(l:List Fa)(x:Fa)(h:Rd 4 σ lv (faC l))(hl:l.length≤1000000000000)(sl:∀y∈l,y.Sm)(sx:x.Sm):AT Tryz.prog 57 [lv,.agg x.cs] σ fun r σ'=>r=boo (decide (x∈l))∧σ'=σ:=by
 refine AT.ob Tryz.func57 rfl ?_;simp only[go_sem];refine Ctx.nil.alloc fun q σ1 c1=>?_;have h1:=h.keep c1.sub;simp only[go_sem];simp only[Fq,C9];simp only[go_sem];have hc:AT Tryz.prog 110 [lv,clo 111 q] σ1 fun r σ'=>r=boo (decide (x∈l))∧σ'=σ1:=by
  refine AT.ob Tryz.func110 rfl ?_;simp only[go_sem];refine(Qv l (fun y=>decide (x=y)) h1 hl fun y hy=>Ae2 x y sx (sl y hy) c1.g0).mono ?_;rintro _ σ1 ⟨⟨k,rfl,hk⟩,rfl⟩;simp only[go_sem];have hd:((0:Int)≤k)↔x∈l:=?_
  ·exact Ae (r:=boo (decide ((0:Int)≤k))) rfl ⟨by rw[decide_eq_decide.2 hd],rfl⟩
  rcases hk with⟨rfl,hk⟩|⟨i,rfl,h1,h2,h3⟩
  ·exact⟨fun h=>absurd h (by omega),fun h=>by have:=hk x h;simp at this⟩
  ·exact⟨fun _=>by rw[of_decide_eq_true h2];exact List.getElem_mem h1,fun _=>by omega⟩
 refine hc.p ?_;simp only[go_sem];exact Ad (r:=boo (decide (x∈l))) rfl _ σ (c1.view _) ⟨rfl,rfl⟩
theorem Vt{v0:AV}(a b:List Fa)(h0:Rd 4 σ v0 (faC a))(ha:a.length≤1000000000000)(sa:∀y∈a,y.Sm)(hb:b.length≤1000000000000)(sb:∀y∈b,y.Sm):AT Tryz.prog 74 [v0,.sl 4 (faC b)] σ fun r σ'=>LAt 4 σ' r (faC ((Aw Ai [] a).filter fun x=>!decide (x∈b)))∧Cg σ σ' r:=by
 refine AT.ob Tryz.func74 rfl ?_;have hsi:∀f∈Aw Ai [] a,f.Sm:=fun f hf=>by
  rcases(Ar Ah).1 hf with h|h
  ·exact sa f h
  ·cases h
 have hli:=Bn (c:=Ai) (s:=[]) (l:=a);simp only[List.length_nil]at hli;simp only[go_sem];refine Ctx.nil.alloc fun q σ1 c1=>?_;simp only[go_sem];refine(Kq a (h0.keep c1.sub) ha sa).mono ?_;rintro v σ2 ⟨h1,h2,h3⟩;simp only[go_sem];simp only[Fq,C9];simp only[go_sem];refine(Aec (β:=σ1) (Aw Ai [] a) (fun x=>decide (x∈b)) h1 (by omega) h2 h3 fun σ' hs x hx=>Ahf b x (by omega) sb (hsi x hx) (hs _ _ c1.g0)).mono ?_;rintro r σ3 ⟨k1,k3⟩;simp only[go_sem];exact Ae (r:=r) rfl ⟨k1,fun y o hy=>k3 y o (c1.sub y o hy)⟩
end
def Ew(s:ByteArray):Bool:=decide (1≤(s.size:Int))&&decide ((s.size:Int)≤32)
def Cf(c:Cn):Bool:=if c.b=true then decide (c.s=emp)else decide (c.n=0)&&Ew c.s
def okF(f:Fa):Bool:=Ew f.at'&&Ew f.by'&&Ew f.pr&&decide ((f.ar.length:Int)≤48)&&f.ar.all Cf
def okE(f:Fa):Int:=if okF f=true then 0 else 40
theorem Xs{f:Fa}(h:okF f=true):f.Sm:=by
 unfold okF at h;simp only[Bool.and_eq_true,decide_eq_true_eq]at h;unfold Fa.Sm;omega
section
variable{σ:St}
theorem Ms(s:ByteArray):AT Tryz.prog 108 [str s] σ fun r σ'=>r=boo (Ew s)∧σ'=σ:=by
 refine AT.ob Tryz.func108 rfl ?_;by_cases h1:1≤(s.size:Int)
 ·have d1:=decide_eq_true h1
  simp only[go_sem,d1];exact Ae (r:=boo _) rfl ⟨by unfold Ew;rw[d1,Bool.true_and],rfl⟩
 ·have d1:=decide_eq_false h1
  simp only[go_sem,d1];exact Ae (r:=boo false) rfl ⟨by unfold Ew;rw[d1,Bool.false_and],rfl⟩
theorem Aow(c:Cn):AT Tryz.prog 109 [.agg c.cs] σ fun r σ'=>r=boo (Cf c)∧σ'=σ:=by
 refine AT.ob Tryz.func109 rfl ?_;simp only[go_sem];refine Ctx.nil.alloc fun p σ1 c1=>?_;have hp:=c1.g0;have hs:=c1.sub;clear c1;simp only[go_sem,hp];refine aIf_bool (fun hb=>?_) (fun hb=>?_)
 ·simp only[go_sem,hp]
  exact Ad (r:=boo _) rfl _ σ (An hs) ⟨by unfold Cf;rw[if_pos hb],rfl⟩
 ·have hb':¬c.b=true:=by rw[hb];simp
  by_cases h1:c.n=0
  ·have d1:=decide_eq_true h1
   simp only[go_sem,hp,d1];refine(Ms c.s).p ?_;simp only[go_sem];exact Ad (r:=boo _) rfl _ σ (An hs) ⟨by unfold Cf;rw[if_neg hb',d1,Bool.true_and],rfl⟩
  ·have d1:=decide_eq_false h1
   simp only[go_sem,hp,d1];exact Ad (r:=boo false) rfl _ σ (An hs) ⟨by unfold Cf;rw[if_neg hb',d1,Bool.false_and],rfl⟩
theorem Sx(f:Fa):AT Tryz.prog 56 [.agg f.cs] σ fun r σ'=>r=int (okE f)∧σ'=σ:=by
 refine AT.ob Tryz.func56 rfl ?_;simp only[go_sem];refine Ctx.nil.alloc fun p σ1 c1=>?_;have hp:=c1.g0;have hs:=c1.sub;clear c1;have no:okF f=false→∀{fr:Fr} {σ':St},(∀y o,σ y=some o→σ' y=some o)→A9 Tryz.prog fr σ' (Tryz.f56).results.toList=some (int 40)→Dw Tryz.prog (fun r σ'=>r=int (okE f)∧σ'=σ) (Tryz.f56).results.toList fr σ':=fun h _ _ h2 hr=>
  Ad hr _ σ (An h2) ⟨by unfold okE;rw[h];rfl,rfl⟩
 simp only[go_sem,hp];refine(Ms f.at').p ?_;cases h1:Ew f.at' with
 |false=>
  simp only[go_sem,Bool.not_false];exact no (by unfold okF;rw[h1];rfl) hs rfl
 |true=>
 simp only[go_sem,Bool.not_true,hp];refine(Ms f.by').p ?_;cases h2:Ew f.by' with
 |false=>
  simp only[go_sem,Bool.not_false];exact no (by unfold okF;rw[h1,h2];rfl) hs rfl
 |true=>
 simp only[go_sem,Bool.not_true,hp];refine(Ms f.pr).p ?_;cases h3:Ew f.pr with
 |false=>
  simp only[go_sem,Bool.not_false];exact no (by unfold okF;rw[h1,h2,h3];rfl) hs rfl
 |true=>
 by_cases h4:(f.ar.length:Int)≤48
 case neg=>
  have d4:=decide_eq_true (show 48<(f.ar.length:Int) by omega);simp only[go_sem,Bool.not_true,hp,d4];exact no (by unfold okF;rw[h1,h2,h3,decide_eq_false h4];rfl) hs rfl
 case pos=>
 have d4:=decide_eq_false (show¬48<(f.ar.length:Int) by omega);have hok:okF f=f.ar.all Cf:=by unfold okF;rw[h1,h2,h3,decide_eq_true h4];rfl
 have al:=Hy f.ar;simp only[go_sem,Aa,Bool.not_true,hp,d4];refine⟨fun m fr σ'=>∃i:Nat,m=f.ar.length-i∧i≤f.ar.length∧(f.ar.take i).all Cf=true∧(∀y o,σ y=some o→σ' y=some o)∧fr 28= .sl 3 (cnC f.ar)∧fr 29=int f.ar.length∧fr 30=int i,⟨_,0,rfl,by omega,rfl,hs,rfl,rfl,rfl⟩,?_⟩;clear hp hs;rintro m fr σ1 ⟨i,rfl,hi,ha,hs,f28,f29,f30⟩;simp only[go_sem,f29,f30];refine aIf_by (fun hlt=>?_) (fun hlt=>?_)
 ·have hil:i<f.ar.length:=by omega
  simp only[go_sem,Aa,f28,f30,Gd hil,al];refine⟨by omega,Ctx.nil.alloc fun t σ4 c4=>?_⟩;obtain⟨σ5,e5,c5⟩:=c4.abs 0 rfl (.cells f.ar[i].cs);have ht:=c5.g0;have hs5:∀y o,σ y=some o→σ5 y=some o:=fun y o hy=>c5.sub _ _ (hs y o hy);simp only at ht;simp only[go_sem,Aa,c4.g0,e5,ht];clear e5 c5 c4;refine(Aow f.ar[i]).p ?_;cases hg:Cf f.ar[i]with
  |false=>
   simp only[go_sem,Aa,Bool.not_false];refine no ?_ hs5 rfl;rw[hok,List.all_eq_false];exact⟨_,List.getElem_mem hil,by rw[hg];simp⟩
  |true=>
   have ha':(f.ar.take (i+1)).all Cf=true:=by
    rw[List.take_add_one,List.getElem?_eq_getElem hil,List.all_append,ha];simp[hg]
   simp only[go_sem,Aa,Bool.not_true,f28,f29,f30,As i (by omega)];refine⟨f.ar.length-(i+1),by omega,i+1,?_⟩
   (and_intros<;>first|assumption|rfl|omega)
 ·rw[List.take_of_length_le (by omega)]at ha
  simp only[go_sem,Aa];exact Ad rfl _ σ (An hs) ⟨by unfold okE;rw[hok,ha];rfl,rfl⟩
theorem Ho(s:ByteArray):AT Tryz.prog 41 [str s] σ fun r σ'=>r=boo (Ew s)∧σ'=σ:=by
 refine AT.ob Tryz.func41 rfl ?_;by_cases h1:1≤(s.size:Int)
 ·have d1:=decide_eq_true h1
  simp only[go_sem,d1];exact Ae (r:=boo _) rfl ⟨by unfold Ew;rw[d1,Bool.true_and],rfl⟩
 ·have d1:=decide_eq_false h1
  simp only[go_sem,d1];exact Ae (r:=boo false) rfl ⟨by unfold Ew;rw[d1,Bool.false_and],rfl⟩
theorem Aaz(c:Cn):AT Tryz.prog 141 [.agg c.cs] σ fun r σ'=>r=boo (Cf c)∧σ'=σ:=by
 refine AT.ob Tryz.func141 rfl ?_;simp only[go_sem];refine Ctx.nil.alloc fun p σ1 c1=>?_;have hp:=c1.g0;have hs:=c1.sub;clear c1;simp only[go_sem,hp];refine aIf_bool (fun hb=>?_) (fun hb=>?_)
 ·simp only[go_sem,hp]
  exact Ad (r:=boo _) rfl _ σ (An hs) ⟨by unfold Cf;rw[if_pos hb],rfl⟩
 ·have hb':¬c.b=true:=by rw[hb];simp
  by_cases h1:c.n=0
  ·have d1:=decide_eq_true h1
   simp only[go_sem,hp,d1];refine(Ho c.s).p ?_;simp only[go_sem];exact Ad (r:=boo _) rfl _ σ (An hs) ⟨by unfold Cf;rw[if_neg hb',d1,Bool.true_and],rfl⟩
  ·have d1:=decide_eq_false h1
   simp only[go_sem,hp,d1];exact Ad (r:=boo false) rfl _ σ (An hs) ⟨by unfold Cf;rw[if_neg hb',d1,Bool.false_and],rfl⟩
theorem Q1(f:Fa):AT Tryz.prog 88 [.agg f.cs] σ fun r σ'=>r=int (okE f)∧σ'=σ:=by
 refine AT.ob Tryz.func88 rfl ?_;simp only[go_sem];refine Ctx.nil.alloc fun p σ1 c1=>?_;have hp:=c1.g0;have hs:=c1.sub;clear c1;have no:okF f=false→∀{fr:Fr} {σ':St},(∀y o,σ y=some o→σ' y=some o)→A9 Tryz.prog fr σ' (Tryz.f88).results.toList=some (int 40)→Dw Tryz.prog (fun r σ'=>r=int (okE f)∧σ'=σ) (Tryz.f88).results.toList fr σ':=fun h _ _ h2 hr=>
  Ad hr _ σ (An h2) ⟨by unfold okE;rw[h];rfl,rfl⟩
 simp only[go_sem,hp];refine(Ho f.at').p ?_;cases h1:Ew f.at' with
 |false=>
  simp only[go_sem,Bool.not_false];exact no (by unfold okF;rw[h1];rfl) hs rfl
 |true=>
 simp only[go_sem,Bool.not_true,hp];refine(Ho f.by').p ?_;cases h2:Ew f.by' with
 |false=>
  simp only[go_sem,Bool.not_false];exact no (by unfold okF;rw[h1,h2];rfl) hs rfl
 |true=>
 simp only[go_sem,Bool.not_true,hp];refine(Ho f.pr).p ?_;cases h3:Ew f.pr with
 |false=>
  simp only[go_sem,Bool.not_false];exact no (by unfold okF;rw[h1,h2,h3];rfl) hs rfl
 |true=>
 by_cases h4:(f.ar.length:Int)≤48
 case neg=>
  have d4:=decide_eq_true (show 48<(f.ar.length:Int) by omega);simp only[go_sem,Bool.not_true,hp,d4];exact no (by unfold okF;rw[h1,h2,h3,decide_eq_false h4];rfl) hs rfl
 case pos=>
 have d4:=decide_eq_false (show¬48<(f.ar.length:Int) by omega);have hok:okF f=f.ar.all Cf:=by unfold okF;rw[h1,h2,h3,decide_eq_true h4];rfl
 have al:=Hy f.ar;simp only[go_sem,Aa,Bool.not_true,hp,d4];refine⟨fun m fr σ'=>∃i:Nat,m=f.ar.length-i∧i≤f.ar.length∧(f.ar.take i).all Cf=true∧σ'=σ1∧fr 1=ptr p∧fr 3=int i,⟨_,0,rfl,by omega,rfl,rfl,rfl,rfl⟩,?_⟩;rintro m fr σ1 ⟨i,rfl,hi,ha,rfl,f1,f3⟩;simp only[go_sem,f1,f3,hp,al];refine aIf_by (fun hlt=>?_) (fun hlt=>?_)
 ·have hil:i<f.ar.length:=by omega
  simp only[go_sem,Aa,f1,f3,hp,Gd hil,al];refine⟨by omega,(Aaz f.ar[i]).p ?_⟩;cases hg:Cf f.ar[i]with
  |false=>
   simp only[go_sem,Aa,Bool.not_false];refine no ?_ hs rfl;rw[hok,List.all_eq_false];exact⟨_,List.getElem_mem hil,by rw[hg];simp⟩
  |true=>
   have ha':(f.ar.take (i+1)).all Cf=true:=by
    rw[List.take_add_one,List.getElem?_eq_getElem hil,List.all_append,ha];simp[hg]
   simp only[go_sem,Aa,Bool.not_true,f1,f3,As i (by omega)];refine⟨f.ar.length-(i+1),by omega,i+1,?_⟩
   (and_intros<;>first|assumption|rfl|omega)
 ·rw[List.take_of_length_le (by omega)]at ha
  simp only[go_sem,Aa];exact Ad rfl _ σ (An hs) ⟨by unfold okE;rw[hok,ha];rfl,rfl⟩
end
end Go.Proofs.YtmifmncabejffaaGreat
theorem Go.Proofs.YtmifmncabejffaaGreat.rqq20{p:Prop}(h:p:=by
 rw[Am (x:=(i:Int)+j) (by omega)];have e1:IntKind.u64.wrap ((i:Int)+j)=(i:Int)+j:=by
  simp[IntKind.wrap,IntKind.signed,IntKind.bits];omega
 have e2:(2:Int)^min 1 64=2:=rfl;rw[e1,e2,show((i:Int)+j).fdiv 2=(((i+j)/2:Nat):Int)from ?_]
 ·exact Am (by omega)
 ·rw[Int.fdiv_eq_ediv_of_nonneg _ (by omega)]
  omega):p:=h
namespace Go.Proofs.YtmifmncabejffaaGreat
open Go Go.Av
namespace BF
section
variable{σ:St}
def Found(l:List Fa)(f:Fa)(r:AV):Prop:=∃k:Nat,r= .tup [int k,boo (decide (f∈l))]∧k≤l.length∧(∀i (hi:i<k) (hl:i<l.length),Ai l[i] f<0)∧∀hk:k<l.length,¬Ai l[k] f<0
theorem Lg{l:List Fa}{f:Fa}{k:Nat}(hr:B5 Ai l)(hk:k≤l.length)(h1:∀h:0<k,Ai (l[k-1]'(by omega)) f<0)(h2:∀h:k<l.length,¬Ai l[k] f<0){b:Bool}(hb:b=true↔∃h:k<l.length,Ai l[k] f=0):Found l f (.tup [int k,boo b]):=by
 have hr':=List.pairwise_iff_getElem.1 hr;have a1:∀i (hi:i<k) (hl:i<l.length),Ai l[i] f<0:=fun i hi hl=>by
  by_cases e:i=k-1
  ·subst e;exact h1 (by omega)
  ·exact Ah.trans _ _ _ (hr' i (k-1) hl (by omega) (by omega)) (h1 (by omega))
 refine⟨k,?_,hk,a1,h2⟩;have:b=decide (f∈l):=by
  rw[Bool.eq_iff_iff,hb,decide_eq_true_iff];constructor
  ·rintro⟨h,e⟩
   rw[←(Ah.zero _ _).1 e];exact List.getElem_mem h
  ·intro hm
   obtain⟨i,hi,e⟩:=List.getElem_of_mem hm;have hik:¬i<k:=fun h=>by
    have:=a1 i h hi;rw[e,Ah.self]at this;omega
   have hkl:k<l.length:=by omega
   by_cases e2:i=k
   ·subst e2
    exact⟨hi,by rw[e];exact Ah.self f⟩
   ·have:=hr' k i hkl hi (by omega)
    rw[e]at this;exact absurd this (h2 hkl)
 rw[this]
theorem Acx{i j:Nat}(h:i+j<9223372036854775807):IntKind.i64.wrap ((IntKind.u64.wrap (IntKind.i64.wrap ((i:Int)+j))).fdiv (2^min 1 64))=(((i+j)/2:Nat):Int):=by
 exact rqq20
theorem bsearch_at{lv:AV}(l:List Fa)(f:Fa)(hl:l.length≤4000000000000)(hs:∀y∈l,y.Sm)(hf:f.Sm)(hr:B5 Ai l)(h:Rd 4 σ lv (faC l)):AT Tryz.prog 177 [lv,.agg f.cs,fnv 112] σ fun r σ'=>Found l f r∧σ'=σ:=by
 refine AT.ob Tryz.func177 rfl ?_;simp only[go_sem];refine Ctx.nil.alloc fun p σ1 c1=>?_;have hp:=c1.g0;have hsub:=c1.sub;have h1:=h.keep hsub;clear c1;simp only[go_sem,Aa,h1.len,Aj];refine⟨fun m fr σ'=>∃i j:Nat,m=j-i∧i≤j∧j≤l.length∧(∀h:0<i,∀h2:i-1<l.length,Ai l[i-1] f<0)∧(∀h:j<l.length,¬Ai l[j] f<0)∧σ'=σ1∧fr 0=lv∧fr 2=fnv 112∧fr 4=ptr p∧fr 8=int l.length∧fr 9=int i∧fr 10=int j,⟨_,0,l.length,rfl,by omega,by omega,fun h=>by omega,fun h=>by omega,rfl,rfl,rfl,rfl,rfl,rfl,rfl⟩,?_⟩;rintro m fr σ1 ⟨i,j,rfl,hij,hjl,hI,hJ,rfl,f0,f2,f4,f8,f9,f10⟩;simp only[go_sem,f9,f10];refine aIf_by (fun hlt=>?_) (fun hlt=>?_)
 ·have hij':i<j:=by omega
  have hm:=Acx (i:=i) (j:=j) (by omega);obtain⟨q,hq⟩:∃q,q=(i+j)/2:=⟨_,rfl⟩;rw[←hq]at hm;have hql:q<l.length:=by omega
  simp only[go_sem,Aa,f9,f10,hm];refine Af [.rd 0 false,.rd 1 false,.rd 2 false,.rd 3 false,.rd 4 true,.rd 5 true,.ef 6 [],.rd 7 false] ?_;simp only[go_sem,Aa,f0,f2,f4];refine h1.elem (by omega) (by rw[Aj];omega) fun e he=>?_;simp only[go_sem,Aa];refine he.load (by decide) (by rw[Int.toNat_natCast,Aq hql];exact Nat.le_refl _) ?_;simp only[go_sem,Aa,Aq hql,hp,f4];refine(I5 l[q] f (hs _ (List.getElem_mem hql)) hf).p ?_;simp only[go_sem,Aa];refine aIf_by (fun hc=>?_) (fun hc=>?_)
  ·simp only[go_sem,Aa,f0,f2,f4,f8,f9,f10,As q (by omega)]
   refine⟨j-(q+1),by omega,q+1,j,rfl,by omega,hjl,fun _ h2=>?_,hJ,?_⟩
   ·exact hc
   ·(and_intros<;>first|assumption|rfl|omega)
  ·simp only[go_sem,Aa,f0,f2,f4,f8,f9,f10]
   refine⟨q-i,by omega,i,q,rfl,by omega,by omega,hI,fun _=>hc,?_⟩
   (and_intros<;>first|assumption|rfl|omega)
 ·have e:i=j:=by omega
  subst e;simp only[go_sem,Aa,f8,f9];refine Af [.rd 0 false,.rd 1 false,.rd 2 false,.rd 3 false,.rd 4 false,.rd 5 false,.rd 6 false,.rd 7 false,.rd 8 false,.rd 9 true,.rd 10 true,.ef 11 [],.rd 12 false,.rd 13 false,.rd 14 false,.rd 15 false] ?_;by_cases hil:i<l.length
  ·have d1:=decide_eq_true (show(i:Int)<l.length by omega)
   simp only[go_sem,Aa,f0,f2,f4,f8,f9,d1];refine h1.elem (by omega) (by rw[Aj];omega) fun e he=>?_;simp only[go_sem,Aa];refine he.load (by decide) (by rw[Int.toNat_natCast,Aq hil];exact Nat.le_refl _) ?_;simp only[go_sem,Aa,Aq hil,hp,f4];refine(I5 l[i] f (hs _ (List.getElem_mem hil)) hf).p ?_;simp only[go_sem,Aa,f9];refine Ad (r:=.tup [int i,boo (decide (Ai l[i] f=0))]) rfl _ σ (An hsub) ⟨Lg hr hjl (fun h=>hI h (by omega)) hJ ?_,rfl⟩;rw[decide_eq_true_iff];exact⟨fun h=>⟨hil,h⟩,fun⟨_,h⟩=>h⟩
  ·have d1:=decide_eq_false (show¬(i:Int)<l.length by omega)
   simp only[go_sem,Aa,f8,f9,d1];refine Ad (r:=.tup [int i,boo false]) rfl _ σ (An hsub) ⟨Lg hr hjl (fun h=>hI h (by omega)) hJ ?_,rfl⟩;exact⟨fun h=>(by cases h),fun⟨h,_⟩=>absurd h hil⟩
theorem erase_at{T:List Fa}{k:Nat}(hr:B5 Ai T){f:Fa}(hk:k≤T.length)(h1:∀i (hi:i<k) (hl:i<T.length),Ai T[i] f<0)(h2:∀hk:k<T.length,¬Ai T[k] f<0)(hm:f∈T):∃h:k<T.length,T[k]=f∧T.take k++T.drop (k+1)=T.filter fun x=>!decide (x=f):=by
 obtain⟨i,hi,e⟩:=List.getElem_of_mem hm;have hik:¬i<k:=fun h=>by
  have:=h1 i h hi;rw[e,Ah.self]at this;omega
 have hkl:k<T.length:=by omega
 have hr':=List.pairwise_iff_getElem.1 hr;have hki:k=i:=by
  rcases Nat.lt_or_ge k i with h|h
  ·have:=hr' k i hkl hi h
   rw[e]at this;exact absurd this (h2 hkl)
  ·omega
 subst hki;refine⟨hkl,e,?_⟩;have hne:∀j (hj:j<T.length),j≠k→T[j]≠f:=fun j hj hjk hf=>by
  rcases Nat.lt_or_gt_of_ne hjk with h|h
  ·have:=hr' j k hj hkl h
   rw[e,hf,Ah.self]at this;omega
  ·have:=hr' k j hkl hj h
   rw[e,hf,Ah.self]at this;omega
 conv=>rhs;rw[←List.take_append_drop k T]
 rw[List.filter_append,List.drop_eq_getElem_cons hkl,List.filter_cons_of_neg (by simp[e])]
 congr 1
 ·refine(List.filter_eq_self.2 fun x hx=>?_).symm
  obtain⟨j,hj,rfl⟩:=List.getElem_of_mem hx;rw[List.length_take]at hj;rw[List.getElem_take];simpa using hne j (by omega) (by omega)
 ·refine(List.filter_eq_self.2 fun x hx=>?_).symm
  obtain⟨j,hj,rfl⟩:=List.getElem_of_mem hx;rw[List.length_drop]at hj;rw[List.getElem_drop];simpa using hne (k+1+j) (by omega) (by omega)
end
end BF
namespace BF
section
variable{σ:St}
theorem clone_at(l:List Fa)(hl:l.length≤1000000000000):AT Tryz.prog 133 [.sl 4 (faC l)] σ fun r σ'=>Ow 4 σ' r (faC l)∧Cg σ σ' r:=by
 refine AT.ob Tryz.func133 rfl ?_;simp only[go_sem];by_cases he:faC l=[]
 ·refine⟨fun h=>absurd he h,fun _ b=>?_⟩
  refine aIf_bool (fun _=>?_) (fun _=>?_)
  ·simp only[go_sem]
   exact Ae (r:=A4) rfl ⟨.inl ⟨he,.inl rfl⟩,.nil⟩
  ·simp only[go_sem]
   refine Ap (ys:=faC l) (by simp[src]) (by decide) (by decide) (by decide) ?_;rw[he];refine⟨rfl,fun _=>?_,fun h=>absurd rfl h⟩;simp only[go_sem];exact Ae (r:=.fsl 4 []) rfl ⟨.inl ⟨rfl,.inr rfl⟩,fun y p hy=>⟨hy,A3⟩⟩
 ·refine⟨fun _=>?_,fun h=>absurd h he⟩
  refine Ap (ys:=faC l) (by simp[src]) (by decide) (by decide) (by decide) (Ow.of_app .full he (by rw[Aj];simp only[List.length_nil];omega) fun lv σ1 h1 h2 _=>?_);simp only[go_sem];exact Ae (r:=lv) rfl ⟨h1,fun y p hy=>h2 y p hy A3⟩
def Ys(σ:St)(v:AV)(es:List (List AV))(r:AV)(σ':St):Prop:=Ow 4 σ' r es∧∀y o,σ y=some o→¬Own v y→σ' y=some o∧¬Own r y
theorem insert_at{v:AV}(l:List Fa)(f:Fa)(i:Nat)(hi:i≤l.length)(hl:l.length≤1000000000000)(h:Ow 4 σ v (faC l)):AT Tryz.prog 139 [v,int i,.fsl 4 [f.cs]] σ (Ys σ v (faC (l.take i++f::l.drop i))):=by
 refine AT.ob Tryz.func139 rfl ?_;simp only[go_sem];refine h.lat.from (by decide) (by omega) (by rw[Aj];omega) fun _ _=>?_;have d1:decide ((1:Int)=0)=false:=rfl;simp only[go_sem,h.lat.len,Aj];refine aIf_by (fun hin=>?_) (fun hin=>?_)
 ·have e:i=l.length:=by omega
  subst e;simp only[go_sem];refine Ap (ys:=[f.cs]) (by rfl) (by decide) (by decide) (by decide) (Ow.of_app h.lat (by simp) (by rw[Aj];simp only[List.length_cons,List.length_nil];omega) fun r σ1 h1 h2 _=>?_);simp only[go_sem];refine Ae (r:=r) rfl ⟨?_,h2⟩;rw[show l.take l.length++f::l.drop l.length=l++[f] by simp];rw[show faC l++[f.cs]=faC (l++[f]) by simp[faC]]at h1;exact h1
 ·have hil:i<l.length:=by omega
  rcases h with⟨h0,_⟩|⟨b,cap,rfl,hcap,hb⟩
  ·have:=congrArg List.length h0
   rw[Aj,List.length_nil]at this;omega
  have fl:=Aj l;rw[fl]at hcap;obtain⟨A,y,B,hA,hL⟩:∃(A:List (List AV)) (y:List AV) (B:List (List AV)),A.length=i∧faC l=A++y::B:=by
   refine⟨(faC l).take i,(faC l)[i]'(by omega),(faC l).drop (i+1),by rw[List.length_take];omega,?_⟩;rw[←List.drop_eq_getElem_cons,List.take_append_drop]
  have hB:B.length=l.length-(i+1):=by
   have:=congrArg List.length hL;rw[fl,List.length_append,List.length_cons]at this;omega
  have hdr:(faC l).drop i=y::B:=by rw[hL,List.drop_append,hA,List.drop_of_length_le (by omega)];simp
  have htk:(faC l).take i=A:=by rw[hL,List.take_append,List.take_of_length_le (by omega),hA];simp
  have fin:A++f.cs::y::B=faC (l.take i++f::l.drop i):=by
   rw[←hdr,←htk];simp[faC,List.map_take,List.map_drop]
  have finl:(faC (l.take i++f::l.drop i)).length=l.length+1:=by simp[faC];omega
  have w1:IntKind.i64.wrap ((l.length:Int)+1)=((l.length+1:Nat):Int):=Iq (by omega);have w2:IntKind.i64.wrap (((l.length+1:Nat):Int)-i)=((l.length+1-i:Nat):Int):=by rw[Am (by omega)];omega
  have w3:IntKind.i64.wrap ((i:Int)+1)=((i+1:Nat):Int):=Iq (by omega);simp only[go_sem,w1];refine aIf_by (fun hc=>?_) (fun hc=>?_)
  ·
   have hsz:4≤1000:=by decide
   simp only[go_sem,w1,w2];refine Fw (h:=i) rfl (by omega) ?_;simp only[go_sem,w1,w2];refine Yz rfl hb (by rw[fl];omega) (by decide) (by decide) (by decide) (by omega) (by omega) (by omega) fun b' c' hb' hc'=>?_;obtain⟨z,hz⟩:∃z:List AV,z=[Value.string ⟨#[]⟩,.string ⟨#[]⟩,.string ⟨#[]⟩,.slice none 0 0].map AV.v:=⟨_,rfl⟩;have hbb:b≠b':=fun e=>by rw[←e,hb]at hb';cases hb'
   have ez:i+(l.length+1-i)=l.length+1:=by omega
   rw[ez]at hc'⊢;have e0:(faC l).take i++List.replicate (l.length+1-i) z=A++z::List.replicate (l.length-i) z:=by
    rw[htk,show l.length+1-i=(l.length-i)+1 by omega,List.replicate_succ]
   rw[←hz,e0];have el:(A++z::List.replicate (l.length-i) z).length=l.length+1:=by simp;omega
   simp only[go_sem];refine B2 (p:=i*4) rfl (by omega) (by omega) (by omega) ?_;simp only[go_sem];refine Hk (m:=i) (ys:=[f.cs]) rfl Ab (by decide) (by simp[cut];omega) (by rw[el];omega) (by simp only[List.length_cons,List.length_nil];omega) ?_;rw[show List.take i (A++z::List.replicate (l.length-i) z)++[f.cs]++List.drop (i+ [f.cs].length) (A++z::List.replicate (l.length-i) z)=A++f.cs::List.replicate (l.length-i) z from spl1 hA,Ct];have el2:(A++f.cs::List.replicate (l.length-i) z).length=l.length+1:=by simp;omega
   obtain⟨σ2,e2⟩:∃σ2,σ2=σ.set b' (.rows 4 (A++f.cs::List.replicate (l.length-i) z) false c'):=⟨_,rfl⟩;have g1:σ2 b'=some (.rows 4 (A++f.cs::List.replicate (l.length-i) z) false c'):=by rw[e2];exact Ab
   have g2:σ2 b=some (.rows 4 (faC l) false cap):=by rw[e2,Ag hbb];exact hb
   have g3:∀y o,σ y=some o→σ2 y=some o∧y≠b':=fun y o hy=>by
    have:y≠b':=fun e=>by rw[e,hb']at hy;cases hy
    exact⟨by rw[e2,Ag this];exact hy,this⟩
   rw[←e2];clear e2 el;simp only[go_sem];refine Af [.rd 0 false,.rd 1 false,.rd 2 false,.rd 3 false,.rd 4 true,.rd 5 false,.rd 6 false,.rd 7 true,.ef 8 []] ?_;simp only[go_sem,w3];refine D3 (l:=i+1) (p:=(i+1)*4) rfl rfl (by omega) (by omega) (by omega) ?_;simp only[go_sem];refine B2 (p:=i*4) rfl (by omega) (by omega) (by omega) ?_;simp only[go_sem];refine Hk (m:=i+1) (ys:=y::B) rfl g1 (by decide) ?_ (by omega) (by simp only[List.length_cons];omega) ?_
   ·rw[R0 (m:=i) rfl (by decide) g2 (by rw[fl];omega)]
    rw[List.take_of_length_le (by rw[List.length_drop,fl];omega),hdr]
   simp only[go_sem];refine Ae (r:=slv b' (l.length+1) c') rfl ⟨.inr ⟨b',c',by rw[finl],by rw[finl];omega,?_⟩,fun y o hy hn=>?_⟩
   ·rw[Ab]
    have:=spl2 (x:=f.cs) (B:=y::B) (R:=List.replicate (l.length-i) z) hA (by simp;omega);rw[List.length_cons,fin]at this;rw[this]
   ·obtain⟨h1,h2⟩:=g3 y o hy
    exact⟨by rw[Ag h2];exact h1,fun ho=>h2 (B6.1 ho)⟩
  ·simp only[go_sem,w1]
   refine Fw (h:=l.length+1) rfl (by omega) ?_;simp only[go_sem,w3];refine D3 (l:=i+1) (p:=(i+1)*4) rfl rfl (by omega) (by omega) (by omega) ?_;simp only[go_sem];refine(Afp (P:=Tryz.prog) Tryz.func180 rfl rfl (by kernel_rfl) rfl rfl tk26 hb (by decide) (by decide) (by omega)).p ?_;simp only[go_sem,Bool.not_false];refine Af [.rd 0 false,.rd 1 false,.rd 2 false,.rd 3 false,.rd 4 true,.rd 5 false,.rd 6 false,.rd 7 true,.ef 8 []] ?_;simp only[go_sem,w3];refine D3 (l:=i+1) (p:=(i+1)*4) rfl rfl (by omega) (by omega) (by omega) ?_;simp only[go_sem];refine B2 (p:=i*4) rfl (by omega) (by omega) (by omega) ?_;simp only[go_sem];refine Hk (m:=i+1) (ys:=y::B) rfl hb (by decide) ?_ (by omega) (by simp only[List.length_cons];omega) ?_
   ·rw[R0 (m:=i) rfl (by decide) hb (by rw[fl];omega)]
    rw[List.take_of_length_le (by rw[List.length_drop,fl];omega),hdr]
   simp only[go_sem];refine B2 (p:=i*4) rfl (by omega) (by omega) (by omega) ?_;simp only[go_sem];refine Hk (m:=i) (ys:=[f.cs]) rfl Ab (by decide) (by simp[cut];omega) (by simp;omega) (by simp only[List.length_cons,List.length_nil];omega) ?_;simp only[go_sem];refine Ae (r:=slv b (l.length+1) cap) rfl ⟨.inr ⟨b,cap,by rw[finl],by rw[finl];omega,?_⟩,fun y o hy hn=>?_⟩
   ·rw[Ab,←fin,hL]
    have:=spl3 (x:=f.cs) (B:=B) (y:=y) hA;rw[List.length_cons]at this;rw[this]
   ·have hy2:y≠b:=fun e=>hn (B6.2 e)
    exact⟨by rw[Ag hy2];exact hy,fun ho=>hy2 (B6.1 ho)⟩
theorem delete_at{v:AV}(l:List Fa)(i:Nat)(hi:i<l.length)(hl:l.length≤1000000000000)(h:Ow 4 σ v (faC l)):AT Tryz.prog 132 [v,int i,int (i+1:Nat)] σ (Ys σ v (faC (l.take i++l.drop (i+1)))):=by
 refine AT.ob Tryz.func132 rfl ?_;have fl:=Aj l;rcases h with⟨h0,_⟩|⟨b,cap,rfl,hcap,hb⟩
 ·have:=congrArg List.length h0
  rw[Aj,List.length_nil]at this;omega
 have hL:LAt 4 σ (slv b (faC l).length cap) (faC l):=.inr (.inr ⟨b,cap,rfl,hcap,hb⟩);rw[fl]at hcap hL⊢;have d1:decide ((i:Int)=((i+1:Nat):Int))=false:=decide_eq_false (by omega);simp only[go_sem];refine V9 (l:=i) (h:=i+1) (m:=l.length) rfl rfl rfl (by omega) (by omega) (by omega) fun _=>?_;simp only[go_sem,d1];refine Af [.rd 0 false,.rd 1 false,.rd 2 true,.rd 3 false,.rd 4 false,.rd 5 true,.ef 6 [],.rd 7 false] ?_;simp only[go_sem];refine Fw (h:=i) rfl (by omega) ?_;simp only[go_sem];refine hL.from (by decide) (by omega) (by rw[fl];omega) fun x hx=>?_;simp only[go_sem];refine Ap (ys:=(faC l).drop (i+1)) (by rw[hx _ _ hL];simp) (by decide) (by decide) (by decide) (.inr (.inr (.inl ⟨rfl,?_⟩)));simp only[hb];refine⟨trivial,by rw[fl];omega,trivial,by rw[List.length_drop,fl];omega,by rw[List.length_drop,fl];omega,?_⟩;have e1:i+((faC l).drop (i+1)).length=l.length-1:=by rw[List.length_drop,fl];omega
 rw[e1];obtain⟨E,hE⟩:∃E,E=(faC l).take i++(faC l).drop (i+1)++(faC l).drop (l.length-1):=⟨_,rfl⟩;have eL:E.length=l.length:=by rw[hE];simp[fl];omega
 rw[←hE];simp only[go_sem];refine Pu (l:=l.length-1) (h:=l.length) (p:=(l.length-1)*4) (by omega) (by omega) rfl (by omega) (by omega) (by omega) ?_;simp only[go_sem];have e2:l.length-(l.length-1)=1:=by omega
 rw[e2];refine Mc (l:=l.length-1) rfl Ab (by decide) (by decide) (by rw[eL];omega) (by decide) ?_;simp only[go_sem];have e3:E.take (l.length-1)=faC (l.take i++l.drop (i+1)):=by
  rw[hE,List.take_append_of_le_length (by simp[fl];omega),List.take_of_length_le (by simp[fl];omega)];simp[faC,List.map_take,List.map_drop]
 refine Ad (r:=slv b (l.length-1) cap) rfl _ _ (Mu (m:=l.length-1) _ Ab) ?_;rw[Ct];have el:(faC (l.take i++l.drop (i+1))).length=l.length-1:=by simp[faC];omega
 refine⟨.inr ⟨b,cap,by rw[el],by rw[el];omega,?_⟩,fun y o hy hn=>?_⟩
 ·rw[Ab,List.append_assoc,List.take_append_of_le_length (by rw[List.length_take,eL];omega),List.take_take,Nat.min_self,e3]
 ·have hy2:y≠b:=fun e=>hn (B6.2 e)
  exact⟨by rw[Ag hy2];exact hy,fun ho=>hy2 (B6.1 ho)⟩
end
end BF
theorem J2{σ σ2:St}{t q:Nat}{lv r:AV}{es:List (List AV)}{cs cs0:List AV}(h2:σ2 t=some (.cells (lv::cs)))(ht:σ t=some (.cells cs0))(hL:LAt q σ2 lv es)(hG:∀y o,y≠t→σ y=some o→σ2 y=some o∧¬Own lv y):Hf σ2 r (σ.set t (.cells (.sl q es::cs))) r:=by
 have hn:¬Own lv t:=hL.not_own h2;have hv:VW σ2 (σ.set t (.cells (.sl q es::cs))) lv (.sl q es):=hL.vw_same fun x hx=>by
  have hxt:x≠t:=fun e=>hn (e▸hx);rw[Ag hxt];cases hs:σ x with
  |none=>rfl
  |some o=>exact absurd hx (hG x o hxt hs).2
 exact view_of (Ks h2 (show OW _ _ (.cells _) (.cells _)from vws_cons hv (Bu _)) fun x p hx hp=>(hG x p hx hp).1) (.refl _)
def TB(σ:St)(t:Nat)(T:List Fa)(lim:Int):Prop:=σ t=some (.cells [.sl 4 (faC T),int lim])
def tbC(T:List Fa)(lim:Int):Cj:=.cells [.sl 4 (faC T),int lim]
structure TOk(T:List Fa)(lim:Int):Prop where
 rises:B5 Ai T
 len:T.length≤1000000
 sm:∀f∈T,f.Sm
 lim:lim≠0
section
variable{σ:St}{t:Nat}{T:List Fa}{lim:Int}
theorem Ic(l:List Cn)(hl:l.length≤1000000000000):AT Tryz.prog 58 [.sl 3 (cnC l)] σ fun r σ'=>r= .sl 3 (cnC l)∧σ'=σ:=
 (Qe l hl .sl).post (by kernel_rfl) fun r σ' ⟨h,G⟩=>⟨_,_,Gz h.lat G,rfl,rfl⟩
theorem Px(h:TB σ t T lim):AT Tryz.prog 126 [ptr t] σ fun r σ'=>r=boo (decide (lim=0))∧σ'=σ:=by
 refine AT.ob Tryz.func126 rfl ?_;unfold TB at h;simp only[go_sem,h];exact Ae (r:=boo _) rfl ⟨rfl,rfl⟩
theorem Xe(h:TB σ t T lim)(hT:TOk T lim)(f:Fa)(hf:f.Sm):AT Tryz.prog 127 [ptr t,.agg f.cs] σ fun r σ'=>BF.Found T f r∧σ'=σ:=by
 refine AT.ob Tryz.func127 rfl ?_;unfold TB at h;simp only[go_sem];refine Ctx.nil.alloc fun p σ1 c1=>?_;have hp:=c1.g0;have hs:=c1.sub;have h1:=hs _ _ h;clear c1;refine Af [.rd 0 false,.rd 1 false,.rd 2 false,.rd 3 true,.rd 4 true,.ef 5 [],.rd 6 false,.rd 7 false,.rd 8 false,.rd 9 false] ?_;simp only[go_sem,hp,h1];have:=hT.len;refine(BF.bsearch_at T f (by omega) hT.sm hf hT.rises .sl).mono ?_;rintro _ σ1 ⟨⟨k,rfl,hk⟩,rfl⟩;simp only[go_sem];exact Ad (r:=.tup [int k,boo _]) rfl _ σ (An hs) ⟨⟨k,rfl,hk⟩,rfl⟩
theorem Sb(h:TB σ t T lim)(hT:TOk T lim)(f:Fa)(hf:f.Sm):AT Tryz.prog 73 [ptr t,.agg f.cs] σ fun r σ'=>r=boo (decide (f∈T))∧σ'=σ:=by
 refine AT.ob Tryz.func73 rfl ?_;simp only[go_sem];refine Ctx.nil.alloc fun p σ1 c1=>?_;have hp:=c1.g0;have hs:=c1.sub;have h1:TB σ1 t T lim:=hs _ _ h;clear c1;simp only[go_sem];refine(Px h1).p ?_;have d1:=decide_eq_false hT.lim;simp only[go_sem,d1,hp];refine(Xe h1 hT f hf).mono ?_;rintro _ σ1 ⟨⟨k,rfl,hk⟩,rfl⟩;simp only[go_sem];exact Ad (r:=boo _) rfl _ σ (An hs) ⟨rfl,rfl⟩
theorem Ap5(lim:Int):AT Tryz.prog 49 [int lim] σ fun r σ'=>if 1≤lim∧lim≤4096 then∃b,σ b=none∧r= .tup [ptr b,int 0]∧σ'=σ.set b (tbC [] lim)else r= .tup [.v (.pointer none),int 2]∧σ'=σ:=by
 refine AT.ob Tryz.func49 rfl ?_;by_cases h1:lim<1
 ·have d1:=decide_eq_true h1
  simp only[go_sem,d1];refine Ae (r:=.tup [.v (.pointer none),int 2]) rfl ?_;rw[if_neg (by omega)];exact⟨rfl,rfl⟩
 ·have d1:=decide_eq_false h1
  by_cases h2:4096<lim
  ·have d2:=decide_eq_true h2
   simp only[go_sem,d1,d2];refine Ae (r:=.tup [.v (.pointer none),int 2]) rfl ?_;rw[if_neg (by omega)];exact⟨rfl,rfl⟩
  ·have d2:=decide_eq_false h2
   simp only[go_sem,d1,d2];refine Ay fun b hb hbn=>?_;simp only[go_sem];refine Ad (r:=.tup [ptr b,int 0]) rfl (.tup [ptr b,int 0]) (σ.set b (tbC [] lim)) ?_ ?_
   ·have hS:SV (σ.set b (.cells [A4,int lim])) (σ.set b (tbC [] lim)):=Ks Ab (show OW _ _ (.cells _) (.cells _)from vws_cons (.nil 4) (Bu _)) fun x p hx hp=>by rw[Ag hx];exact hp
    exact view_of hS (.refl _)
   ·rw[if_pos (by omega)]
    exact⟨b,hb,rfl,rfl⟩
def Bs(T:List Fa)(lim:Int)(f:Fa):List Fa×Int:=if okF f=true then(if f∈T then(T,151)else if lim≤T.length then(T,150)else(A1 Ai f T,0))else(T,40)
theorem Ap6(h:TB σ t T lim)(hT:TOk T lim)(f:Fa)(hf:f.Sm):AT Tryz.prog 80 [ptr t,.agg f.cs] σ fun r σ'=>r=int (Bs T lim f).2∧σ'=σ.set t (tbC (Bs T lim f).1 lim):=by
 refine AT.ob Tryz.func80 rfl ?_;have same:σ.set t (tbC T lim)=σ:=B8 h;simp only[go_sem];refine Ctx.nil.alloc fun p σ1 c1=>?_;have hp:=c1.g0;have hs:=c1.sub;have hp0:=c1.f0;have h1:TB σ1 t T lim:=hs _ _ h;clear c1;have out:∀{e:Int},Bs T lim f=(T,e)→∀{fr:Fr} {σ':St},(∀y o,σ y=some o→σ' y=some o)→A9 Tryz.prog fr σ' (Tryz.f80).results.toList=some (int e)→Dw Tryz.prog (fun r σ'=>r=int (Bs T lim f).2∧σ'=σ.set t (tbC (Bs T lim f).1 lim)) (Tryz.f80).results.toList fr σ':=fun h2 _ _ h3 hr=>
  Ad hr _ σ (An h3) ⟨by rw[h2],by rw[h2];exact same.symm⟩
 simp only[go_sem];refine(Px h1).p ?_;have d1:=decide_eq_false hT.lim;simp only[go_sem,d1,hp];refine(Sx f).p ?_;cases hok:okF f with
 |false=>
  have e1:okE f=40:=by unfold okE;rw[hok];rfl
  have d2:(!decide (okE f=0))=true:=by rw[e1];rfl
  simp only[go_sem,d2];refine out (e:=okE f) (by unfold Bs;rw[hok,e1];rfl) hs rfl
 |true=>
 have e1:okE f=0:=by unfold okE;rw[hok];rfl
 have d2:(!decide (okE f=0))=false:=by rw[e1];rfl
 simp only[go_sem,d2,hp];refine(Xe h1 hT f hf).mono ?_;rintro _ σ1 ⟨⟨k,rfl,hk1,hk2,hk3⟩,rfl⟩;by_cases hm:f∈T
 ·have d3:=decide_eq_true hm
  simp only[go_sem,d3];exact out (by unfold Bs;rw[hok,if_pos rfl,if_pos hm]) hs rfl
 ·have d3:=decide_eq_false hm
  have hT':=h1;unfold TB at hT';have tl:=Aj T;simp only[go_sem,d3];refine Af [.rd 0 false,.rd 1 false,.rd 2 false,.rd 3 true,.rd 4 false,.rd 5 false,.rd 6 false,.rd 7 false,.rd 8 true,.rd 9 false] ?_;by_cases hl:lim≤T.length
  ·have d4:=decide_eq_true hl
   simp only[go_sem,hT',d4];exact out (by unfold Bs;rw[hok,if_pos rfl,if_neg hm,if_pos hl]) hs rfl
  ·have d4:=decide_eq_false hl
   simp only[go_sem,hT',d4,hp];refine(Ic f.ar (by unfold Fa.Sm at hf;exact hf)).p ?_;have esp:Az f.cs 3 [.sl 3 (cnC f.ar)]=f.cs:=rfl;have eid:σ1.set p (.cells f.cs)=σ1:=B8 hp;simp only[go_sem,hp,esp,eid];refine Af [.rd 0 false,.rd 1 false,.rd 2 false,.rd 3 false,.rd 4 true,.rd 6 false,.rd 7 true,.rd 8 false,.ef 5 [7],.ef 9 [],.rd 10 false,.rd 11 false,.ef 12 []] ?_;simp only[go_sem,hT',hp];have tlen:=hT.len;refine(BF.clone_at T (by omega)).mono ?_;rintro v σ2 ⟨hO,hG⟩;have hp2:=(hG _ _ hp).1;have ht2:=(hG _ _ hT').1;simp only[go_sem];refine⟨fun k hk=>?_,(BF.insert_at T f k hk1 (by omega) hO).mono ?_⟩
   ·simp only[go_sem,hp2]
    exact hk
   rintro r σ3 ⟨hO3,hK⟩;have hL:=hO3.lat;have hins:=Ih (c:=Ai) hk1 hk2 hk3;rw[if_neg (fun⟨h,e⟩=>hm (by rw[←(Ah.zero _ _).1 e];exact List.getElem_mem h))]at hins;rw[←hins]at hL;have ht3:=(hK _ _ ht2 (hG _ _ hT').2);simp only[go_sem,ht3.1,hL.one,hL.cells];have eput:Bs T lim f=(A1 Ai f T,0):=by unfold Bs;rw[hok,if_pos rfl,if_neg hm,if_neg hl]
   refine Ad (r:=int 0) rfl (int 0) (σ.set t (tbC (A1 Ai f T) lim)) ?_ ⟨by rw[eput],by rw[eput]⟩;refine J2 (lv:=r) Ab h (hL.keep fun y o hy ho=>?_) fun y o hyt hy=>?_
   ·rw[Ag (fun e=>by rw[e]at ho;exact ht3.2 ho)];exact hy
   ·have h2:=hG _ _ (hs _ _ hy)
    have h3:=hK _ _ h2.1 h2.2;exact⟨by rw[Ag hyt];exact h3.1,h3.2⟩
def Ha(T:List Fa)(f:Fa):List Fa×Int:=if f∈T then(T.filter fun x=>!decide (x=f),0)else(T,152)
theorem Al5(h:TB σ t T lim)(hT:TOk T lim)(f:Fa)(hf:f.Sm):AT Tryz.prog 77 [ptr t,.agg f.cs] σ fun r σ'=>r=int (Ha T f).2∧σ'=σ.set t (tbC (Ha T f).1 lim):=by
 refine AT.ob Tryz.func77 rfl ?_;have same:σ.set t (tbC T lim)=σ:=B8 h;simp only[go_sem];refine Ctx.nil.alloc fun p σ1 c1=>?_;have hp:=c1.g0;have hs:=c1.sub;have h1:TB σ1 t T lim:=hs _ _ h;clear c1;simp only[go_sem];refine(Px h1).p ?_;have d1:=decide_eq_false hT.lim;simp only[go_sem,d1,hp];refine(Xe h1 hT f hf).mono ?_;rintro _ σ1 ⟨⟨k,rfl,hk1,hk2,hk3⟩,rfl⟩;have hT':=h1;unfold TB at hT';by_cases hm:f∈T
 case neg=>
  have d3:=decide_eq_false hm;simp only[go_sem,d3,Bool.not_false];have e:Ha T f=(T,152):=by unfold Ha;rw[if_neg hm]
  exact Ad (r:=int 152) rfl _ σ (An hs) ⟨by rw[e],by rw[e];exact same.symm⟩
 have d3:=decide_eq_true hm;have tlen:=hT.len;obtain⟨hkl,_,her⟩:=BF.erase_at hT.rises hk1 hk2 hk3 hm;simp only[go_sem,d3,Bool.not_true,hT'];refine(BF.clone_at T (by omega)).mono ?_;rintro v σ2 ⟨hO,hG⟩;have ht2:=(hG _ _ hT').1;simp only[go_sem,As k (by omega)];refine(BF.delete_at T k hkl (by omega) hO).mono ?_;rintro r σ3 ⟨hO3,hK⟩;have hL:=hO3.lat;rw[her]at hL;have ht3:=(hK _ _ ht2 (hG _ _ hT').2);simp only[go_sem,ht3.1,hL.one,hL.cells];have eput:Ha T f=(T.filter fun x=>!decide (x=f),0):=by unfold Ha;rw[if_pos hm]
 refine Ad (r:=int 0) rfl (int 0) (σ.set t (tbC (T.filter fun x=>!decide (x=f)) lim)) ?_ ⟨by rw[eput],by rw[eput]⟩;refine J2 (lv:=r) Ab h (hL.keep fun y o hy ho=>?_) fun y o hyt hy=>?_
 ·rw[Ag (fun e=>by rw[e]at ho;exact ht3.2 ho)];exact hy
 ·have h2:=hG _ _ (hs _ _ hy)
  have h3:=hK _ _ h2.1 h2.2;exact⟨by rw[Ag hyt];exact h3.1,h3.2⟩
end
structure De where
 ru:Int
 hd:Fa
 bo:List Fa
def De.cs(d:De):List AV:=[int d.ru,str d.hd.at',str d.hd.by',str d.hd.pr,.sl 3 (cnC d.hd.ar),.sl 4 (faC d.bo)]
@[go_sem] theorem De.len(d:De):d.cs.length=6:=rfl
@[go_sem] theorem De.one(d:De):d.cs.all AV.one=true:=rfl
@[go_sem] theorem De.take(d:De):d.cs.take 6=d.cs:=rfl
@[go_sem] theorem De.at0(d:De):d.cs.getD 0 (.v undef)=int d.ru:=rfl
@[go_sem] theorem De.at1(d:De):d.cs.getD 1 (.v undef)=str d.hd.at':=rfl
@[go_sem] theorem De.at2(d:De):d.cs.getD 2 (.v undef)=str d.hd.by':=rfl
@[go_sem] theorem De.at3(d:De):d.cs.getD 3 (.v undef)=str d.hd.pr:=rfl
@[go_sem] theorem De.at4(d:De):d.cs.getD 4 (.v undef)= .sl 3 (cnC d.hd.ar):=rfl
@[go_sem] theorem De.at5(d:De):d.cs.getD 5 (.v undef)= .sl 4 (faC d.bo):=rfl
@[go_sem] theorem De.hd1(d:De):(d.cs.drop 1).take 4=d.hd.cs:=rfl
@[go_sem] theorem De.bo5(d:De):(d.cs.drop 5).getD 0 (.v undef)= .sl 4 (faC d.bo):=rfl
@[go_sem] theorem De.take1(d:De):(d.cs.drop 0).getD 0 (.v undef)=int d.ru:=rfl
def deC(l:List De):List (List AV):=l.map De.cs
@[go_sem] theorem Au(l:List De):(deC l).length=l.length:=by simp[deC]
theorem Co{l:List De}{i:Nat}(h:i<l.length):(deC l).getD i []=l[i].cs:=by simp[deC,List.getD_eq_getElem?_getD,h]
def De.Sm(d:De):Prop:=d.hd.Sm∧d.bo.length≤1000000000000∧∀x∈d.bo,x.Sm
def Bg(x y:De):Int:=orI [Hr x.ru y.ru,Ai x.hd y.hd,Et x.bo y.bo]
theorem Amx(x y:De):Bg x y=M5 (fun x y:De=>Hr x.ru y.ru) (M5 (fun x y:De=>Ai x.hd y.hd) fun x y:De=>Et x.bo y.bo) x y:=by
 unfold Bg M5;simp only[orI];split
 ·split
  ·split
   ·rename_i h;exact h.symm
   ·rfl
  ·rfl
 ·rfl
theorem A8:Gp Bg:=by
 have p:=(Jo.pre De.ru).lex ((Ah.pre De.hd).lex (Dm.pre De.bo));rw[show Bg=_ from funext fun x=>funext fun y=>Amx x y];refine p.ord fun x y h=>?_;obtain⟨h1,h⟩:=Gu h;obtain⟨h2,h3⟩:=Gu h;cases x;cases y
 have e1:=(Jo.zero _ _).1 h1;have e2:=(Ah.zero _ _).1 h2;have e3:=(Dm.zero _ _).1 h3;simp only at e1 e2 e3;rw[e1,e2,e3]
instance decDe:DecidableEq De:=fun x y=>decidable_of_iff (Bg x y=0) (A8.zero x y)
section
variable{σ:St}
theorem Ad9(x y:De)(hx:x.Sm)(hy:y.Sm):AT Tryz.prog 136 [.agg x.cs,.agg y.cs] σ fun r σ'=>r=int (Bg x y)∧σ'=σ:=by
 refine AT.ob Tryz.func136 rfl ?_;simp only[go_sem];refine Ctx.nil.alloc fun p σ1 c1=>?_;simp only[go_sem];refine c1.alloc fun q σ2 c2=>?_;have hq:=c2.g1.1.1;have hp:=c2.g1.1.2;have hs:=c2.sub;clear c1 c2;simp only[go_sem];refine Af [.rd 0 false,.rd 1 true,.rd 2 false,.rd 3 true,.rd 5 false,.rd 6 true,.rd 7 false,.rd 8 true,.rd 10 false,.rd 11 true,.rd 12 false,.rd 13 true,.ef 4 [6,8,11,13],.ef 9 [11,13],.ef 14 [],.rd 15 false,.ef 16 [],.rd 17 false] ?_;simp only[go_sem,hp,hq];refine(Aea x.ru y.ru).p ?_;simp only[go_sem];refine⟨⟨fun k hk=>?_,fun k hk=>?_,fun k hk=>?_,fun k hk=>?_⟩,(I5 x.hd y.hd hx.1 hy.1).mono ?_⟩
 iterate 4
  ·simp only[go_sem,hp,hq]
   exact hk
 rintro _ σ2 ⟨rfl,rfl⟩;simp only[go_sem];refine⟨⟨fun k hk=>?_,fun k hk=>?_⟩,(Y8 .sl .sl hx.2 hy.2).mono ?_⟩
 iterate 2
  ·simp only[go_sem,hp,hq]
   exact hk
 rintro _ σ2 ⟨rfl,rfl⟩;simp only[go_sem];refine(Ald [Hr x.ru y.ru,Ai x.hd y.hd,Et x.bo y.bo] (by simp)).p ?_;simp only[go_sem];exact Ad (r:=int _) rfl _ σ (An hs) ⟨rfl,rfl⟩
end
namespace BD
section
variable{σ:St}
def Found(l:List De)(f:De)(r:AV):Prop:=∃k:Nat,r= .tup [int k,boo (decide (f∈l))]∧k≤l.length∧(∀i (hi:i<k) (hl:i<l.length),Bg l[i] f<0)∧∀hk:k<l.length,¬Bg l[k] f<0
theorem Lg{l:List De}{f:De}{k:Nat}(hr:B5 Bg l)(hk:k≤l.length)(h1:∀h:0<k,Bg (l[k-1]'(by omega)) f<0)(h2:∀h:k<l.length,¬Bg l[k] f<0){b:Bool}(hb:b=true↔∃h:k<l.length,Bg l[k] f=0):Found l f (.tup [int k,boo b]):=by
 have hr':=List.pairwise_iff_getElem.1 hr;have a1:∀i (hi:i<k) (hl:i<l.length),Bg l[i] f<0:=fun i hi hl=>by
  by_cases e:i=k-1
  ·subst e;exact h1 (by omega)
  ·exact A8.trans _ _ _ (hr' i (k-1) hl (by omega) (by omega)) (h1 (by omega))
 refine⟨k,?_,hk,a1,h2⟩;have:b=decide (f∈l):=by
  rw[Bool.eq_iff_iff,hb,decide_eq_true_iff];constructor
  ·rintro⟨h,e⟩
   rw[←(A8.zero _ _).1 e];exact List.getElem_mem h
  ·intro hm
   obtain⟨i,hi,e⟩:=List.getElem_of_mem hm;have hik:¬i<k:=fun h=>by
    have:=a1 i h hi;rw[e,A8.self]at this;omega
   have hkl:k<l.length:=by omega
   by_cases e2:i=k
   ·subst e2
    exact⟨hi,by rw[e];exact A8.self f⟩
   ·have:=hr' k i hkl hi (by omega)
    rw[e]at this;exact absurd this (h2 hkl)
 rw[this]
theorem Acx{i j:Nat}(h:i+j<9223372036854775807):IntKind.i64.wrap ((IntKind.u64.wrap (IntKind.i64.wrap ((i:Int)+j))).fdiv (2^min 1 64))=(((i+j)/2:Nat):Int):=by
 exact rqq20
theorem bsearch_at{lv:AV}(l:List De)(f:De)(hl:l.length≤4000000000000)(hs:∀y∈l,y.Sm)(hf:f.Sm)(hr:B5 Bg l)(h:Rd 6 σ lv (deC l)):AT Tryz.prog 135 [lv,.agg f.cs,fnv 136] σ fun r σ'=>Found l f r∧σ'=σ:=by
 refine AT.ob Tryz.func135 rfl ?_;simp only[go_sem];refine Ctx.nil.alloc fun p σ1 c1=>?_;have hp:=c1.g0;have hsub:=c1.sub;have h1:=h.keep hsub;clear c1;simp only[go_sem,Aa,h1.len,Au];refine⟨fun m fr σ'=>∃i j:Nat,m=j-i∧i≤j∧j≤l.length∧(∀h:0<i,∀h2:i-1<l.length,Bg l[i-1] f<0)∧(∀h:j<l.length,¬Bg l[j] f<0)∧σ'=σ1∧fr 0=lv∧fr 2=fnv 136∧fr 4=ptr p∧fr 8=int l.length∧fr 9=int i∧fr 10=int j,⟨_,0,l.length,rfl,by omega,by omega,fun h=>by omega,fun h=>by omega,rfl,rfl,rfl,rfl,rfl,rfl,rfl⟩,?_⟩;rintro m fr σ1 ⟨i,j,rfl,hij,hjl,hI,hJ,rfl,f0,f2,f4,f8,f9,f10⟩;simp only[go_sem,f9,f10];refine aIf_by (fun hlt=>?_) (fun hlt=>?_)
 ·have hij':i<j:=by omega
  have hm:=Acx (i:=i) (j:=j) (by omega);obtain⟨q,hq⟩:∃q,q=(i+j)/2:=⟨_,rfl⟩;rw[←hq]at hm;have hql:q<l.length:=by omega
  simp only[go_sem,Aa,f9,f10,hm];refine Af [.rd 0 false,.rd 1 false,.rd 2 false,.rd 3 false,.rd 4 true,.rd 5 true,.ef 6 [],.rd 7 false] ?_;simp only[go_sem,Aa,f0,f2,f4];refine h1.elem (by omega) (by rw[Au];omega) fun e he=>?_;simp only[go_sem,Aa];refine he.load (by decide) (by rw[Int.toNat_natCast,Co hql];exact Nat.le_refl _) ?_;simp only[go_sem,Aa,Co hql,hp,f4];refine(Ad9 l[q] f (hs _ (List.getElem_mem hql)) hf).p ?_;simp only[go_sem,Aa];refine aIf_by (fun hc=>?_) (fun hc=>?_)
  ·simp only[go_sem,Aa,f0,f2,f4,f8,f9,f10,As q (by omega)]
   refine⟨j-(q+1),by omega,q+1,j,rfl,by omega,hjl,fun _ h2=>?_,hJ,?_⟩
   ·exact hc
   ·(and_intros<;>first|assumption|rfl|omega)
  ·simp only[go_sem,Aa,f0,f2,f4,f8,f9,f10]
   refine⟨q-i,by omega,i,q,rfl,by omega,by omega,hI,fun _=>hc,?_⟩
   (and_intros<;>first|assumption|rfl|omega)
 ·have e:i=j:=by omega
  subst e;simp only[go_sem,Aa,f8,f9];refine Af [.rd 0 false,.rd 1 false,.rd 2 false,.rd 3 false,.rd 4 false,.rd 5 false,.rd 6 false,.rd 7 false,.rd 8 false,.rd 9 true,.rd 10 true,.ef 11 [],.rd 12 false,.rd 13 false,.rd 14 false,.rd 15 false] ?_;by_cases hil:i<l.length
  ·have d1:=decide_eq_true (show(i:Int)<l.length by omega)
   simp only[go_sem,Aa,f0,f2,f4,f8,f9,d1];refine h1.elem (by omega) (by rw[Au];omega) fun e he=>?_;simp only[go_sem,Aa];refine he.load (by decide) (by rw[Int.toNat_natCast,Co hil];exact Nat.le_refl _) ?_;simp only[go_sem,Aa,Co hil,hp,f4];refine(Ad9 l[i] f (hs _ (List.getElem_mem hil)) hf).p ?_;simp only[go_sem,Aa,f9];refine Ad (r:=.tup [int i,boo (decide (Bg l[i] f=0))]) rfl _ σ (An hsub) ⟨Lg hr hjl (fun h=>hI h (by omega)) hJ ?_,rfl⟩;rw[decide_eq_true_iff];exact⟨fun h=>⟨hil,h⟩,fun⟨_,h⟩=>h⟩
  ·have d1:=decide_eq_false (show¬(i:Int)<l.length by omega)
   simp only[go_sem,Aa,f8,f9,d1];refine Ad (r:=.tup [int i,boo false]) rfl _ σ (An hsub) ⟨Lg hr hjl (fun h=>hI h (by omega)) hJ ?_,rfl⟩;exact⟨fun h=>(by cases h),fun⟨h,_⟩=>absurd h hil⟩
theorem erase_at{T:List De}{k:Nat}(hr:B5 Bg T){f:De}(hk:k≤T.length)(h1:∀i (hi:i<k) (hl:i<T.length),Bg T[i] f<0)(h2:∀hk:k<T.length,¬Bg T[k] f<0)(hm:f∈T):∃h:k<T.length,T[k]=f∧T.take k++T.drop (k+1)=T.filter fun x=>!decide (x=f):=by
 obtain⟨i,hi,e⟩:=List.getElem_of_mem hm;have hik:¬i<k:=fun h=>by
  have:=h1 i h hi;rw[e,A8.self]at this;omega
 have hkl:k<T.length:=by omega
 have hr':=List.pairwise_iff_getElem.1 hr;have hki:k=i:=by
  rcases Nat.lt_or_ge k i with h|h
  ·have:=hr' k i hkl hi h
   rw[e]at this;exact absurd this (h2 hkl)
  ·omega
 subst hki;refine⟨hkl,e,?_⟩;have hne:∀j (hj:j<T.length),j≠k→T[j]≠f:=fun j hj hjk hf=>by
  rcases Nat.lt_or_gt_of_ne hjk with h|h
  ·have:=hr' j k hj hkl h
   rw[e,hf,A8.self]at this;omega
  ·have:=hr' k j hkl hj h
   rw[e,hf,A8.self]at this;omega
 conv=>rhs;rw[←List.take_append_drop k T]
 rw[List.filter_append,List.drop_eq_getElem_cons hkl,List.filter_cons_of_neg (by simp[e])]
 congr 1
 ·refine(List.filter_eq_self.2 fun x hx=>?_).symm
  obtain⟨j,hj,rfl⟩:=List.getElem_of_mem hx;rw[List.length_take]at hj;rw[List.getElem_take];simpa using hne j (by omega) (by omega)
 ·refine(List.filter_eq_self.2 fun x hx=>?_).symm
  obtain⟨j,hj,rfl⟩:=List.getElem_of_mem hx;rw[List.length_drop]at hj;rw[List.getElem_drop];simpa using hne (k+1+j) (by omega) (by omega)
end
end BD
namespace BD
section
variable{σ:St}
theorem clone_at(l:List De)(hl:l.length≤1000000000000):AT Tryz.prog 138 [.sl 6 (deC l)] σ fun r σ'=>Ow 6 σ' r (deC l)∧Cg σ σ' r:=by
 refine AT.ob Tryz.func138 rfl ?_;simp only[go_sem];by_cases he:deC l=[]
 ·refine⟨fun h=>absurd he h,fun _ b=>?_⟩
  refine aIf_bool (fun _=>?_) (fun _=>?_)
  ·simp only[go_sem]
   exact Ae (r:=A4) rfl ⟨.inl ⟨he,.inl rfl⟩,.nil⟩
  ·simp only[go_sem]
   refine Ap (ys:=deC l) (by simp[src]) (by decide) (by decide) (by decide) ?_;rw[he];refine⟨rfl,fun _=>?_,fun h=>absurd rfl h⟩;simp only[go_sem];exact Ae (r:=.fsl 6 []) rfl ⟨.inl ⟨rfl,.inr rfl⟩,fun y p hy=>⟨hy,A3⟩⟩
 ·refine⟨fun _=>?_,fun h=>absurd h he⟩
  refine Ap (ys:=deC l) (by simp[src]) (by decide) (by decide) (by decide) (Ow.of_app .full he (by rw[Au];simp only[List.length_nil];omega) fun lv σ1 h1 h2 _=>?_);simp only[go_sem];exact Ae (r:=lv) rfl ⟨h1,fun y p hy=>h2 y p hy A3⟩
def Ys(σ:St)(v:AV)(es:List (List AV))(r:AV)(σ':St):Prop:=Ow 6 σ' r es∧∀y o,σ y=some o→¬Own v y→σ' y=some o∧¬Own r y
theorem insert_at{v:AV}(l:List De)(f:De)(i:Nat)(hi:i≤l.length)(hl:l.length≤1000000000000)(h:Ow 6 σ v (deC l)):AT Tryz.prog 165 [v,int i,.fsl 6 [f.cs]] σ (Ys σ v (deC (l.take i++f::l.drop i))):=by
 refine AT.ob Tryz.func165 rfl ?_;simp only[go_sem];refine h.lat.from (by decide) (by omega) (by rw[Au];omega) fun _ _=>?_;have d1:decide ((1:Int)=0)=false:=rfl;simp only[go_sem,h.lat.len,Au];refine aIf_by (fun hin=>?_) (fun hin=>?_)
 ·have e:i=l.length:=by omega
  subst e;simp only[go_sem];refine Ap (ys:=[f.cs]) (by rfl) (by decide) (by decide) (by decide) (Ow.of_app h.lat (by simp) (by rw[Au];simp only[List.length_cons,List.length_nil];omega) fun r σ1 h1 h2 _=>?_);simp only[go_sem];refine Ae (r:=r) rfl ⟨?_,h2⟩;rw[show l.take l.length++f::l.drop l.length=l++[f] by simp];rw[show deC l++[f.cs]=deC (l++[f]) by simp[deC]]at h1;exact h1
 ·have hil:i<l.length:=by omega
  rcases h with⟨h0,_⟩|⟨b,cap,rfl,hcap,hb⟩
  ·have:=congrArg List.length h0
   rw[Au,List.length_nil]at this;omega
  have fl:=Au l;rw[fl]at hcap;obtain⟨A,y,B,hA,hL⟩:∃(A:List (List AV)) (y:List AV) (B:List (List AV)),A.length=i∧deC l=A++y::B:=by
   refine⟨(deC l).take i,(deC l)[i]'(by omega),(deC l).drop (i+1),by rw[List.length_take];omega,?_⟩;rw[←List.drop_eq_getElem_cons,List.take_append_drop]
  have hB:B.length=l.length-(i+1):=by
   have:=congrArg List.length hL;rw[fl,List.length_append,List.length_cons]at this;omega
  have hdr:(deC l).drop i=y::B:=by rw[hL,List.drop_append,hA,List.drop_of_length_le (by omega)];simp
  have htk:(deC l).take i=A:=by rw[hL,List.take_append,List.take_of_length_le (by omega),hA];simp
  have fin:A++f.cs::y::B=deC (l.take i++f::l.drop i):=by
   rw[←hdr,←htk];simp[deC,List.map_take,List.map_drop]
  have finl:(deC (l.take i++f::l.drop i)).length=l.length+1:=by simp[deC];omega
  have w1:IntKind.i64.wrap ((l.length:Int)+1)=((l.length+1:Nat):Int):=Iq (by omega);have w2:IntKind.i64.wrap (((l.length+1:Nat):Int)-i)=((l.length+1-i:Nat):Int):=by rw[Am (by omega)];omega
  have w3:IntKind.i64.wrap ((i:Int)+1)=((i+1:Nat):Int):=Iq (by omega);simp only[go_sem,w1];refine aIf_by (fun hc=>?_) (fun hc=>?_)
  ·
   have hsz:4≤1000:=by decide
   simp only[go_sem,w1,w2];refine Fw (h:=i) rfl (by omega) ?_;simp only[go_sem,w1,w2];refine Yz rfl hb (by rw[fl];omega) (by decide) (by decide) (by decide) (by omega) (by omega) (by omega) fun b' c' hb' hc'=>?_;obtain⟨z,hz⟩:∃z:List AV,z=[Value.int .i64 0,.string ⟨#[]⟩,.string ⟨#[]⟩,.string ⟨#[]⟩,.slice none 0 0,.slice none 0 0].map AV.v:=⟨_,rfl⟩;have hbb:b≠b':=fun e=>by rw[←e,hb]at hb';cases hb'
   have ez:i+(l.length+1-i)=l.length+1:=by omega
   rw[ez]at hc'⊢;have e0:(deC l).take i++List.replicate (l.length+1-i) z=A++z::List.replicate (l.length-i) z:=by
    rw[htk,show l.length+1-i=(l.length-i)+1 by omega,List.replicate_succ]
   rw[←hz,e0];have el:(A++z::List.replicate (l.length-i) z).length=l.length+1:=by simp;omega
   simp only[go_sem];refine B2 (p:=i*6) rfl (by omega) (by omega) (by omega) ?_;simp only[go_sem];refine Hk (m:=i) (ys:=[f.cs]) rfl Ab (by decide) (by simp[cut];omega) (by rw[el];omega) (by simp only[List.length_cons,List.length_nil];omega) ?_;rw[show List.take i (A++z::List.replicate (l.length-i) z)++[f.cs]++List.drop (i+ [f.cs].length) (A++z::List.replicate (l.length-i) z)=A++f.cs::List.replicate (l.length-i) z from spl1 hA,Ct];have el2:(A++f.cs::List.replicate (l.length-i) z).length=l.length+1:=by simp;omega
   obtain⟨σ2,e2⟩:∃σ2,σ2=σ.set b' (.rows 6 (A++f.cs::List.replicate (l.length-i) z) false c'):=⟨_,rfl⟩;have g1:σ2 b'=some (.rows 6 (A++f.cs::List.replicate (l.length-i) z) false c'):=by rw[e2];exact Ab
   have g2:σ2 b=some (.rows 6 (deC l) false cap):=by rw[e2,Ag hbb];exact hb
   have g3:∀y o,σ y=some o→σ2 y=some o∧y≠b':=fun y o hy=>by
    have:y≠b':=fun e=>by rw[e,hb']at hy;cases hy
    exact⟨by rw[e2,Ag this];exact hy,this⟩
   rw[←e2];clear e2 el;simp only[go_sem];refine Af [.rd 0 false,.rd 1 false,.rd 2 false,.rd 3 false,.rd 4 true,.rd 5 false,.rd 6 false,.rd 7 true,.ef 8 []] ?_;simp only[go_sem,w3];refine D3 (l:=i+1) (p:=(i+1)*6) rfl rfl (by omega) (by omega) (by omega) ?_;simp only[go_sem];refine B2 (p:=i*6) rfl (by omega) (by omega) (by omega) ?_;simp only[go_sem];refine Hk (m:=i+1) (ys:=y::B) rfl g1 (by decide) ?_ (by omega) (by simp only[List.length_cons];omega) ?_
   ·rw[R0 (m:=i) rfl (by decide) g2 (by rw[fl];omega)]
    rw[List.take_of_length_le (by rw[List.length_drop,fl];omega),hdr]
   simp only[go_sem];refine Ae (r:=slv b' (l.length+1) c') rfl ⟨.inr ⟨b',c',by rw[finl],by rw[finl];omega,?_⟩,fun y o hy hn=>?_⟩
   ·rw[Ab]
    have:=spl2 (x:=f.cs) (B:=y::B) (R:=List.replicate (l.length-i) z) hA (by simp;omega);rw[List.length_cons,fin]at this;rw[this]
   ·obtain⟨h1,h2⟩:=g3 y o hy
    exact⟨by rw[Ag h2];exact h1,fun ho=>h2 (B6.1 ho)⟩
  ·simp only[go_sem,w1]
   refine Fw (h:=l.length+1) rfl (by omega) ?_;simp only[go_sem,w3];refine D3 (l:=i+1) (p:=(i+1)*6) rfl rfl (by omega) (by omega) (by omega) ?_;simp only[go_sem];refine(Afp (P:=Tryz.prog) Tryz.func211 rfl rfl (by kernel_rfl) rfl rfl tk74 hb (by decide) (by decide) (by omega)).p ?_;simp only[go_sem,Bool.not_false];refine Af [.rd 0 false,.rd 1 false,.rd 2 false,.rd 3 false,.rd 4 true,.rd 5 false,.rd 6 false,.rd 7 true,.ef 8 []] ?_;simp only[go_sem,w3];refine D3 (l:=i+1) (p:=(i+1)*6) rfl rfl (by omega) (by omega) (by omega) ?_;simp only[go_sem];refine B2 (p:=i*6) rfl (by omega) (by omega) (by omega) ?_;simp only[go_sem];refine Hk (m:=i+1) (ys:=y::B) rfl hb (by decide) ?_ (by omega) (by simp only[List.length_cons];omega) ?_
   ·rw[R0 (m:=i) rfl (by decide) hb (by rw[fl];omega)]
    rw[List.take_of_length_le (by rw[List.length_drop,fl];omega),hdr]
   simp only[go_sem];refine B2 (p:=i*6) rfl (by omega) (by omega) (by omega) ?_;simp only[go_sem];refine Hk (m:=i) (ys:=[f.cs]) rfl Ab (by decide) (by simp[cut];omega) (by simp;omega) (by simp only[List.length_cons,List.length_nil];omega) ?_;simp only[go_sem];refine Ae (r:=slv b (l.length+1) cap) rfl ⟨.inr ⟨b,cap,by rw[finl],by rw[finl];omega,?_⟩,fun y o hy hn=>?_⟩
   ·rw[Ab,←fin,hL]
    have:=spl3 (x:=f.cs) (B:=B) (y:=y) hA;rw[List.length_cons]at this;rw[this]
   ·have hy2:y≠b:=fun e=>hn (B6.2 e)
    exact⟨by rw[Ag hy2];exact hy,fun ho=>hy2 (B6.1 ho)⟩
theorem delete_at{v:AV}(l:List De)(i:Nat)(hi:i<l.length)(hl:l.length≤1000000000000)(h:Ow 6 σ v (deC l)):AT Tryz.prog 137 [v,int i,int (i+1:Nat)] σ (Ys σ v (deC (l.take i++l.drop (i+1)))):=by
 refine AT.ob Tryz.func137 rfl ?_;have fl:=Au l;rcases h with⟨h0,_⟩|⟨b,cap,rfl,hcap,hb⟩
 ·have:=congrArg List.length h0
  rw[Au,List.length_nil]at this;omega
 have hL:LAt 6 σ (slv b (deC l).length cap) (deC l):=.inr (.inr ⟨b,cap,rfl,hcap,hb⟩);rw[fl]at hcap hL⊢;have d1:decide ((i:Int)=((i+1:Nat):Int))=false:=decide_eq_false (by omega);simp only[go_sem];refine V9 (l:=i) (h:=i+1) (m:=l.length) rfl rfl rfl (by omega) (by omega) (by omega) fun _=>?_;simp only[go_sem,d1];refine Af [.rd 0 false,.rd 1 false,.rd 2 true,.rd 3 false,.rd 4 false,.rd 5 true,.ef 6 [],.rd 7 false] ?_;simp only[go_sem];refine Fw (h:=i) rfl (by omega) ?_;simp only[go_sem];refine hL.from (by decide) (by omega) (by rw[fl];omega) fun x hx=>?_;simp only[go_sem];refine Ap (ys:=(deC l).drop (i+1)) (by rw[hx _ _ hL];simp) (by decide) (by decide) (by decide) (.inr (.inr (.inl ⟨rfl,?_⟩)));simp only[hb];refine⟨trivial,by rw[fl];omega,trivial,by rw[List.length_drop,fl];omega,by rw[List.length_drop,fl];omega,?_⟩;have e1:i+((deC l).drop (i+1)).length=l.length-1:=by rw[List.length_drop,fl];omega
 rw[e1];obtain⟨E,hE⟩:∃E,E=(deC l).take i++(deC l).drop (i+1)++(deC l).drop (l.length-1):=⟨_,rfl⟩;have eL:E.length=l.length:=by rw[hE];simp[fl];omega
 rw[←hE];simp only[go_sem];refine Pu (l:=l.length-1) (h:=l.length) (p:=(l.length-1)*6) (by omega) (by omega) rfl (by omega) (by omega) (by omega) ?_;simp only[go_sem];have e2:l.length-(l.length-1)=1:=by omega
 rw[e2];refine Mc (l:=l.length-1) rfl Ab (by decide) (by decide) (by rw[eL];omega) (by decide) ?_;simp only[go_sem];have e3:E.take (l.length-1)=deC (l.take i++l.drop (i+1)):=by
  rw[hE,List.take_append_of_le_length (by simp[fl];omega),List.take_of_length_le (by simp[fl];omega)];simp[deC,List.map_take,List.map_drop]
 refine Ad (r:=slv b (l.length-1) cap) rfl _ _ (Mu (m:=l.length-1) _ Ab) ?_;rw[Ct];have el:(deC (l.take i++l.drop (i+1))).length=l.length-1:=by simp[deC];omega
 refine⟨.inr ⟨b,cap,by rw[el],by rw[el];omega,?_⟩,fun y o hy hn=>?_⟩
 ·rw[Ab,List.append_assoc,List.take_append_of_le_length (by rw[List.length_take,eL];omega),List.take_take,Nat.min_self,e3]
 ·have hy2:y≠b:=fun e=>hn (B6.2 e)
  exact⟨by rw[Ag hy2];exact hy,fun ho=>hy2 (B6.1 ho)⟩
end
end BD
def De.csv(d:De)(v:AV):List AV:=[int d.ru,str d.hd.at',str d.hd.by',str d.hd.pr,.sl 3 (cnC d.hd.ar),v]
theorem De.csv_one(d:De){v:AV}(h:v.one=true):(d.csv v).all AV.one=true:=by
 show(true&&(true&&(true&&(true&&(true&&(v.one&&true))))))=true;rw[h];rfl
@[go_sem] theorem De.csv_len(d:De)(v:AV):(d.csv v).length=6:=rfl
@[go_sem] theorem De.csv_take(d:De)(v:AV):(d.csv v).take 6=d.csv v:=rfl
@[go_sem] theorem De.csv_5(d:De)(v:AV):(d.csv v).getD 5 (.v undef)=v:=rfl
theorem Abg{x:Fa}{l:List Fa}{i:Nat}(h:i<l.length)(hx:l[i]=x):(faC l).set i (Az ((faC l).getD i []) 3 [.sl 3 (cnC x.ar)])=faC l:=by
 rw[Aq h,hx];refine List.ext_getElem (by simp) fun j h1 h2=>?_;rw[List.getElem_set];split
 ·rename_i e
  subst e;simp only[faC,List.getElem_map,hx];rfl
 ·rfl
section
variable{σ:St}
theorem Ac7(d:De)(hd:d.Sm):AT Tryz.prog 166 [.agg d.cs] σ fun r σ'=>r= .agg d.cs∧σ'=σ:=by
 refine AT.ob Tryz.func166 rfl ?_;obtain⟨hd1,hd2,hd3⟩:=hd;simp only[go_sem];refine Ctx.nil.alloc fun p σ1 c1=>?_;simp only[go_sem];refine c1.alloc fun q σ2 c2=>?_;have hq:=c2.g1.1.1;have hp:=c2.g1.1.2;have hpq:=c2.g1.2;have hs:=c2.sub;have fp:=c1.f0;have fq:=c2.f0;clear c1 c2;simp only[go_sem,hp];refine(Ic d.hd.ar hd1).p ?_;have e1:Az d.cs 4 [.sl 3 (cnC d.hd.ar)]=d.cs:=rfl;have e2:σ2.set p (.cells d.cs)=σ2:=B8 hp;simp only[go_sem,hp,e1,e2];refine(BF.clone_at d.bo (by omega)).mono ?_;rintro v σ3 ⟨hO,hG⟩;have hp3:=(hG _ _ hp);have hq3:=(hG _ _ hq);have e3:Az d.cs 5 [v]=d.csv v:=rfl;have o3:=d.csv_one hO.lat.one;obtain⟨σ4,e4⟩:∃σ4,σ4=σ3.set p (.cells (d.csv v)):=⟨_,rfl⟩;have hp4:σ4 p=some (.cells (d.csv v)):=by rw[e4];exact Ab
 have hq4:∃cs,σ4 q=some (.cells cs)∧cs.length=6:=⟨_,by rw[e4,Ag hpq.1];exact hq3.1,rfl⟩;have hO4:Ow 4 σ4 v (faC d.bo):=hO.keep fun y o hy ho=>by rw[e4,Ag (fun e=>by rw[e]at ho;exact hp3.2 ho)];exact hy
 have hs4:∀y o,σ y=some o→σ4 y=some o∧¬Own v y∧y≠p∧y≠q:=fun y o hy=>by
  have h1:y≠p:=fun e=>by rw[e,fp]at hy;cases hy
  have h2:y≠q:=fun e=>by rw[e,fq]at hy;cases hy
  have h3:=hG _ _ (hs _ _ hy);exact⟨by rw[e4,Ag h1];exact h3.1,h3.2,h1,h2⟩
 simp only[go_sem,Aa,hp3.1,hO.lat.one,hO.lat.cells,e3,←e4,hp4,hO4.lat.len,Aj];refine⟨fun m fr σ'=>∃i:Nat,m=d.bo.length-i∧i≤d.bo.length∧σ'=σ4∧fr 1=ptr p∧fr 2=ptr q∧fr 16=int d.bo.length∧fr 17=int i,⟨_,0,rfl,by omega,rfl,rfl,rfl,rfl,rfl⟩,?_⟩;clear e4;rintro m fr σ4 ⟨i,rfl,hi,rfl,f1,f2,f16,f17⟩;simp only[go_sem,f16,f17];refine aIf_by (fun hlt=>?_) (fun hlt=>?_)
 ·have hil:i<d.bo.length:=by omega
  have fl:=Aj d.bo;rcases hO4 with⟨h0,_⟩|⟨b,cap,rfl,hcap,hb⟩
  ·have:=congrArg List.length h0
   rw[Aj,List.length_nil]at this;omega
  have e5:=Abg hil rfl;have e6:σ4.set b (.rows 4 (faC d.bo) false cap)=σ4:=B8 hb;have sx:=hd3 _ (List.getElem_mem hil);rw[fl]at hcap;simp only[go_sem,Aa,f1,f17];refine Af [.rd 0 false,.rd 1 true,.rd 2 false,.rd 3 false,.rd 4 true,.rd 5 false,.rd 6 false,.rd 7 false,.rd 8 true,.ef 9 [1],.rd 10 false,.rd 11 false,.ef 12 []] ?_;simp only[go_sem,Aa,f1,f17,hp4,hb,Aq hil,fl];refine⟨by omega,by omega,(Ic d.bo[i].ar sx).p ?_⟩;simp only[go_sem,Aa,f1,f2,f16,f17,hp4,hb,fl,e5,e6,As i (by omega)];refine⟨by omega,by omega,d.bo.length-(i+1),by omega,i+1,?_⟩
  (and_intros<;>first|assumption|rfl|omega)
 ·obtain⟨cs,hq5,hql⟩:=hq4
  have dr6:cs.drop 6=[]:=List.drop_eq_nil_of_le (by omega);simp only[go_sem,Aa,f1,f2,hp4,hq5,o3,dr6,hql];refine Jn σ (.agg d.cs) f2 Ab Auv rfl rfl (view_of (Es fun x o' hx=>.inl ?_) (.agg _ _ rfl ?_)) ⟨rfl,rfl⟩
  ·obtain⟨h1,_,_,h4⟩:=hs4 x o' hx
   rw[Ag h4];exact h1
  ·have hv:VW (σ4.set q (.cells (d.csv v))) σ v (.sl 4 (faC d.bo)):=by
    have hO5:LAt 4 (σ4.set q (.cells (d.csv v))) v (faC d.bo):=hO4.lat.keep fun y o hy ho=>by
     have:y≠q:=fun e=>by subst e;exact hO4.lat.not_own hq5 ho
     rw[Ag this];exact hy
    refine hO5.vw_same fun x hx=>?_;cases hsx:σ x with
    |none=>rfl
    |some o=>exact absurd hx (hs4 x o hsx).2.1
   exact(vws_same (vws_same (vws_same (vws_same (vws_same (vws_cons hv By)))))).2
end
def BK(σ:St)(t:Nat)(B:List De):Prop:=σ t=some (.cells [.sl 6 (deC B),boo true])
def bkC(B:List De):Cj:=.cells [.sl 6 (deC B),boo true]
structure BOk(B:List De):Prop where
 rises:B5 Bg B
 len:B.length≤900000000000
 sm:∀d∈B,d.Sm
section
variable{σ:St}{t:Nat}{B:List De}
theorem Ams:AT Tryz.prog 52 [] σ fun r σ'=>∃b,σ b=none∧r=ptr b∧σ'=σ.set b (bkC []):=by
 refine AT.ob Tryz.func52 rfl ?_;simp only[go_sem];refine Ay fun b hb hbn=>?_;simp only[go_sem];refine Ad (r:=ptr b) rfl (ptr b) (σ.set b (bkC [])) ?_ ⟨b,hb,rfl,rfl⟩;have hS:SV (σ.set b (.cells [A4,boo true])) (σ.set b (bkC [])):=Ks Ab (show OW _ _ (.cells _) (.cells _)from vws_cons (.nil 6) (Bu _)) fun x p hx hp=>by rw[Ag hx];exact hp
 exact view_of hS (.refl _)
theorem N9(h:BK σ t B):AT Tryz.prog 121 [ptr t] σ fun r σ'=>r=boo false∧σ'=σ:=by
 refine AT.ob Tryz.func121 rfl ?_;unfold BK at h;simp only[go_sem,h,Bool.not_true];exact Ae (r:=boo _) rfl ⟨rfl,rfl⟩
theorem Amr(h:BK σ t B)(hB:BOk B)(d:De)(hd:d.Sm):AT Tryz.prog 107 [ptr t,.agg d.cs] σ fun r σ'=>r=boo (!decide (d∈B))∧σ'=σ.set t (bkC (A1 Bg d B)):=by
 refine AT.ob Tryz.func107 rfl ?_;simp only[go_sem];refine Ctx.nil.alloc fun p σ1 c1=>?_;have hp:=c1.g0;have hs:=c1.sub;have h1:BK σ1 t B:=hs _ _ h;clear c1;simp only[go_sem];refine(N9 h1).p ?_;have hT':=h1;unfold BK at hT';simp only[go_sem];refine Af [.rd 0 false,.rd 1 false,.rd 2 false,.rd 3 true,.rd 4 true,.ef 5 [],.rd 6 false,.rd 7 false,.rd 8 false,.rd 9 false,.rd 10 false] ?_;simp only[go_sem,hp,hT'];have tlen:=hB.len;refine(BD.bsearch_at B d (by omega) hB.sm hd hB.rises .sl).mono ?_;rintro _ σ1 ⟨⟨k,rfl,hk1,hk2,hk3⟩,rfl⟩;have hins:=Ih (c:=Bg) hk1 hk2 hk3;by_cases hm:d∈B
 ·have d3:=decide_eq_true hm
  simp only[go_sem,d3,Bool.not_true];have e:A1 Bg d B=B:=by
   obtain⟨h,e,_⟩:=BD.erase_at hB.rises hk1 hk2 hk3 hm;rw[if_pos ⟨h,(A8.zero _ _).2 e⟩]at hins;exact hins
  exact Ad (r:=boo false) rfl _ σ (An hs) ⟨rfl,by rw[e];exact(B8 h).symm⟩
 ·have d3:=decide_eq_false hm
  simp only[go_sem,d3,Bool.not_false];refine Af [.rd 0 false,.rd 1 false,.rd 2 false,.rd 3 false,.rd 4 true,.rd 6 false,.rd 7 true,.ef 5 [7],.ef 8 [],.rd 9 false,.ef 10 [],.rd 11 false,.rd 12 false,.ef 13 []] ?_;simp only[go_sem,hT',hp];refine(BD.clone_at B (by omega)).mono ?_;rintro v σ2 ⟨hO,hG⟩;have hp2:=(hG _ _ hp).1;have ht2:=(hG _ _ hT').1;simp only[go_sem];refine⟨fun k hk=>?_,(Ac7 d hd).mono ?_⟩
  ·simp only[go_sem,hp2]
   exact hk
  rintro _ σ2 ⟨rfl,rfl⟩;simp only[go_sem];refine(BD.insert_at B d k hk1 (by omega) hO).mono ?_;rintro r σ3 ⟨hO3,hK⟩;have hL:=hO3.lat;rw[if_neg (fun⟨h,e⟩=>hm (by rw[←(A8.zero _ _).1 e];exact List.getElem_mem h))]at hins;rw[←hins]at hL;have ht3:=(hK _ _ ht2 (hG _ _ hT').2);simp only[go_sem,ht3.1,hL.one,hL.cells];refine Ad (r:=boo true) rfl (boo true) (σ.set t (bkC (A1 Bg d B))) ?_ ⟨rfl,rfl⟩;refine J2 (lv:=r) Ab h (hL.keep fun y o hy ho=>?_) fun y o hyt hy=>?_
  ·rw[Ag (fun e=>by rw[e]at ho;exact ht3.2 ho)];exact hy
  ·have h2:=hG _ _ (hs _ _ hy)
   have h3:=hK _ _ h2.1 h2.2;exact⟨by rw[Ag hyt];exact h3.1,h3.2⟩
theorem Aim(h:BK σ t B)(hB:BOk B)(d:De)(hd:d.Sm):AT Tryz.prog 79 [ptr t,.agg d.cs] σ fun r σ'=>r=boo (decide (d∈B))∧σ'=σ.set t (bkC (B.filter fun x=>!decide (x=d))):=by
 refine AT.ob Tryz.func79 rfl ?_;simp only[go_sem];refine Ctx.nil.alloc fun p σ1 c1=>?_;have hp:=c1.g0;have hs:=c1.sub;have h1:BK σ1 t B:=hs _ _ h;clear c1;simp only[go_sem];refine(N9 h1).p ?_;have hT':=h1;unfold BK at hT';simp only[go_sem];refine Af [.rd 0 false,.rd 1 false,.rd 2 false,.rd 3 true,.rd 4 true,.ef 5 [],.rd 6 false,.rd 7 false,.rd 8 false,.rd 9 false,.rd 10 false] ?_;simp only[go_sem,hp,hT'];have tlen:=hB.len;refine(BD.bsearch_at B d (by omega) hB.sm hd hB.rises .sl).mono ?_;rintro _ σ1 ⟨⟨k,rfl,hk1,hk2,hk3⟩,rfl⟩;by_cases hm:d∈B
 case neg=>
  have d3:=decide_eq_false hm;simp only[go_sem,d3];have e:(B.filter fun x=>!decide (x=d))=B:=List.filter_eq_self.2 fun x hx=>by
   have:x≠d:=fun e=>hm (e▸hx);simpa using this
  exact Ad (r:=boo false) rfl _ σ (An hs) ⟨rfl,by rw[e];exact(B8 h).symm⟩
 have d3:=decide_eq_true hm;obtain⟨hkl,_,her⟩:=BD.erase_at hB.rises hk1 hk2 hk3 hm;simp only[go_sem,d3,hT'];refine(BD.clone_at B (by omega)).mono ?_;rintro v σ2 ⟨hO,hG⟩;have ht2:=(hG _ _ hT').1;simp only[go_sem,As k (by omega)];refine(BD.delete_at B k hkl (by omega) hO).mono ?_;rintro r σ3 ⟨hO3,hK⟩;have hL:=hO3.lat;rw[her]at hL;have ht3:=(hK _ _ ht2 (hG _ _ hT').2);simp only[go_sem,ht3.1,hL.one,hL.cells];refine Ad (r:=boo true) rfl (boo true) (σ.set t (bkC (B.filter fun x=>!decide (x=d)))) ?_ ⟨rfl,rfl⟩;refine J2 (lv:=r) Ab h (hL.keep fun y o hy ho=>?_) fun y o hyt hy=>?_
 ·rw[Ag (fun e=>by rw[e]at ho;exact ht3.2 ho)];exact hy
 ·have h2:=hG _ _ (hs _ _ hy)
  have h3:=hK _ _ h2.1 h2.2;exact⟨by rw[Ag hyt];exact h3.1,h3.2⟩
end
theorem Iw{α:Type}{p:α→Bool}{l:List α}{j:Nat}(h:j<l.length):(l.take (j+1)).filter p=(l.take j).filter p++(if p l[j]=true then[l[j]]else[]):=by
 rw[List.take_add_one,List.getElem?_eq_getElem h,List.filter_append];cases hb:p l[j]<;>simp[hb]
theorem Nm{α:Type}{p:α→Bool}{l:List α}{j:Nat}:((l.take j).filter p).length≤l.length:=Nat.le_trans (List.length_filter_le _ _) (by rw[List.length_take];omega)
section
variable{σ:St}{t g c:Nat}{B:List De}
theorem Af7(h:BK σ t B)(hB:BOk B)(p:De→Bool)(hC:∀σ',(∀x o,σ x=some o→σ' x=some o)→∀d∈B,AT Tryz.prog g [.agg d.cs,ptr c] σ' fun r σ''=>r=boo (p d)∧σ''=σ'):AT Tryz.prog 124 [ptr t,clo g c] σ fun r σ'=>r= .sl 6 (deC (B.filter p))∧σ'=σ:=by
 have hm:AT Tryz.prog 124 [ptr t,clo g c] σ fun r σ'=>LAt 6 σ' r (deC (B.filter p))∧Cg σ σ' r:=by
  refine AT.ob Tryz.func124 rfl ?_;simp only[go_sem];refine(N9 h).p ?_;have h0:=h;unfold BK at h0;have tlen:=hB.len;simp only[go_sem,Aa,h0,Au];refine⟨fun m fr σ'=>∃(i:Nat) (lv:AV),m=B.length-i∧i≤B.length∧LAt 6 σ' lv (deC ((B.take i).filter p))∧Cg σ σ' lv∧fr 1=clo g c∧fr 5=lv∧fr 13= .sl 6 (deC B)∧fr 14=int B.length∧fr 15=int i,⟨_,0,A4,rfl,by omega,.none,.nil,rfl,rfl,rfl,rfl,rfl⟩,?_⟩;rintro m fr σ1 ⟨i,lv,rfl,hi,hL,hG,f1,f5,f13,f14,f15⟩;simp only[go_sem,f14,f15];refine aIf_by (fun hlt=>?_) (fun hlt=>?_)
  ·have hil:i<B.length:=by omega
   have hdm:=List.getElem_mem hil;have hf:=Iw (p:=p) hil;have hfl:=Nm (p:=p) (l:=B) (j:=i);simp only[go_sem,Aa,f13,f15,Co hil,Au];refine⟨by omega,Ctx.nil.alloc fun q σ2 c2=>?_⟩;obtain⟨σ3,e3,c3⟩:=c2.abs 0 rfl (.cells B[i].cs);have hq:=c3.g0;have hs3:=c3.sub;simp only at hq;have hG3:Cg σ σ3 lv:=fun y o hy=>⟨hs3 _ _ (hG y o hy).1,(hG y o hy).2⟩;have hL3:LAt 6 σ3 lv (deC ((B.take i).filter p)):=hL.keep fun y o hy _=>hs3 y o hy;simp only[go_sem,Aa,c2.g0,e3,f1,hq];clear e3 c3 c2;refine(hC σ3 hG3.sub _ hdm).p ?_;cases hp:p B[i]with
   |false=>
    rw[hp,if_neg (by simp),List.append_nil]at hf;rw[←hf]at hL3;simp only[go_sem,Aa,f1,f5,f13,f14,f15,As i (by omega)];refine⟨B.length-(i+1),by omega,i+1,lv,?_⟩
    (and_intros<;>first|assumption|rfl|omega)
   |true=>
    rw[hp,if_pos rfl]at hf;simp only[go_sem,Aa,f5,hq];refine(Ac7 B[i] (hB.sm _ hdm)).p ?_;simp only[go_sem,Aa,f5];refine Ap (ys:=[B[i].cs]) (by rfl) (by decide) (by decide) (by decide) (hL3.app (by rw[Au];simp only[List.length_cons,List.length_nil];omega) fun lv' σ4 h1 h2=>?_);rw[show deC ((B.take i).filter p)++[B[i].cs]=deC ((B.take (i+1)).filter p) by rw[hf];simp[deC]]at h1;have hG4:=hG3.step h2;simp only[go_sem,Aa,f1,f13,f14,f15,As i (by omega)];refine⟨B.length-(i+1),by omega,i+1,lv',?_⟩
    (and_intros<;>first|assumption|rfl|omega)
  ·rw[List.take_of_length_le (by omega)]at hL
   simp only[go_sem,Aa,f5];exact Ae (r:=lv) rfl ⟨hL,hG⟩
 exact hm.post (by kernel_rfl) fun r σ' ⟨h1,h2⟩=>⟨_,_,Gz h1 h2,rfl,rfl⟩
theorem Ass(f:Fa)(d:De)(hf:f.Sm)(hd:d.Sm)(hc:σ c=some (.cells f.cs)):AT Tryz.prog 125 [.agg d.cs,ptr c] σ fun r σ'=>r=boo (decide (d.hd=f))∧σ'=σ:=by
 refine AT.ob Tryz.func125 rfl ?_;simp only[go_sem];refine Ctx.nil.alloc fun p σ1 c1=>?_;simp only[go_sem,c1.g0,c1.sub _ _ hc];refine(I5 d.hd f hd.1 hf).p ?_;simp only[go_sem];exact Ad (r:=boo _) rfl _ σ (c1.view _) ⟨by rw[decide_eq_decide.2 (Ah.zero d.hd f)],rfl⟩
def ofF(B:List De)(f:Fa):List De:=B.filter fun d=>decide (d.hd=f)
theorem Ak9(h:BK σ t B)(hB:BOk B)(f:Fa)(hf:f.Sm):AT Tryz.prog 72 [ptr t,.agg f.cs] σ fun r σ'=>r= .sl 6 (deC (ofF B f))∧σ'=σ:=by
 refine AT.ob Tryz.func72 rfl ?_;simp only[go_sem];refine Ctx.nil.alloc fun p σ1 c1=>?_;simp only[go_sem];simp only[Fq,C9];simp only[go_sem];refine(Af7 (show BK σ1 t B from c1.sub _ _ h) hB (fun d=>decide (d.hd=f)) fun σ' hs d hd=>Ass f d hf (hB.sm d hd) (hs _ _ c1.g0)).p ?_;simp only[go_sem];exact Ad (r:=.sl 6 _) rfl _ σ (c1.view _) ⟨rfl,rfl⟩
theorem Al9(f:Fa)(d:De)(hf:f.Sm)(hd:d.Sm)(hc:σ c=some (.cells f.cs)):AT Tryz.prog 134 [.agg d.cs,ptr c] σ fun r σ'=>r=boo (decide (f∈d.bo))∧σ'=σ:=by
 refine AT.ob Tryz.func134 rfl ?_;simp only[go_sem];refine Ctx.nil.alloc fun p σ1 c1=>?_;simp only[go_sem,c1.g0,c1.sub _ _ hc];refine(Aez d.bo f hd.2.1 hd.2.2 hf).p ?_;simp only[go_sem];exact Ad (r:=boo _) rfl _ σ (c1.view _) ⟨rfl,rfl⟩
def Py(B:List De)(f:Fa):List De:=B.filter fun d=>decide (f∈d.bo)
theorem Ap7(h:BK σ t B)(hB:BOk B)(f:Fa)(hf:f.Sm):AT Tryz.prog 78 [ptr t,.agg f.cs] σ fun r σ'=>r= .sl 6 (deC (Py B f))∧σ'=σ:=by
 refine AT.ob Tryz.func78 rfl ?_;simp only[go_sem];refine Ctx.nil.alloc fun p σ1 c1=>?_;simp only[go_sem];simp only[Fq,C9];simp only[go_sem];refine(Af7 (show BK σ1 t B from c1.sub _ _ h) hB (fun d=>decide (f∈d.bo)) fun σ' hs d hd=>Al9 f d hf (hB.sm d hd) (hs _ _ c1.g0)).p ?_;simp only[go_sem];exact Ad (r:=.sl 6 _) rfl _ σ (c1.view _) ⟨rfl,rfl⟩
def hdsF(B:List De):List Fa:=Aw Ai [] (B.map De.hd)
end
def C5(s:List Fa×Bool)(d:De):List Fa×Bool:=if d.hd∈s.1 then s else if∀x∈d.bo,x∈s.1 then(A1 Ai d.hd s.1,true)else s
def rnd(B:List De)(out:List Fa):List Fa×Bool:=B.foldl C5 (out,false)
def Jx(B:List De):Nat→List Fa→List Fa
 |0,out=>out
 |n+1,out=>if(rnd B out).2=true then Jx B n (rnd B out).1 else(rnd B out).1
def O4(B:List De)(out:List Fa):Nat:=(B.filter fun d=>!decide (d.hd∈out)).length
def Cb(B:List De)(base:List Fa):List Fa:=Jx B (B.length+1) (Aw Ai [] base)
theorem Ahy{s:List Fa×Bool}{d:De}{x:Fa}(h:x∈s.1):x∈(C5 s d).1:=by
 unfold C5;split
 ·exact h
 ·split
  ·exact(Cs Ah).2 (.inr h)
  ·exact h
theorem Ps{x:Fa}:∀{B:List De} {s:List Fa×Bool},x∈s.1→x∈(B.foldl C5 s).1
 | [],s,h=>h
 |d::B,s,h=>Ps (B:=B) (Ahy h)
theorem T8:∀{B:List De} {s:List Fa×Bool},s.2=false→(B.foldl C5 s).2=true→∃d∈B,d.hd∉s.1∧d.hd∈(B.foldl C5 s).1
 | [],s,h,h2=>by rw[List.foldl_nil,h]at h2;cases h2
 |d::B,s,h,h2=>by
  rw[List.foldl_cons]at h2⊢;by_cases h1:d.hd∈s.1
  ·have e:C5 s d=s:=by unfold C5;rw[if_pos h1]
   rw[e]at h2⊢;obtain⟨x,hx,k⟩:=T8 h h2;exact⟨x,List.mem_cons_of_mem _ hx,k⟩
  ·by_cases h3:∀x∈d.bo,x∈s.1
   ·have e:C5 s d=(A1 Ai d.hd s.1,true):=by unfold C5;rw[if_neg h1,if_pos h3]
    refine⟨d,by simp,h1,Ps ?_⟩;rw[e];exact(Cs Ah).2 (.inl rfl)
   ·have e:C5 s d=s:=by unfold C5;rw[if_neg h1,if_neg h3]
    rw[e]at h2⊢;obtain⟨x,hx,k⟩:=T8 h h2;exact⟨x,List.mem_cons_of_mem _ hx,k⟩
theorem Ajt{α:Type}{p q:α→Bool}:∀{l:List α},(∀x∈l,q x=true→p x=true)→(∃x∈l,p x=true∧q x=false)→(l.filter q).length<(l.filter p).length
 | [],_,⟨x,hx,_⟩=>by cases hx
 |a::l,h,⟨x,hx,h1,h2⟩=>by
  have hle:(l.filter q).length≤(l.filter p).length:=by
   clear hx h1 h2;have h':∀x∈l,q x=true→p x=true:=fun x hx=>h x (List.mem_cons_of_mem _ hx);clear h
   induction l with
   |nil=>simp
   |cons b l ih=>
    have:=ih fun x hx=>h' x (List.mem_cons_of_mem _ hx);cases hq:q b with
    |true=>rw[List.filter_cons_of_pos hq,List.filter_cons_of_pos (h' b (by simp) hq)];simpa using this
    |false=>
     rw[List.filter_cons_of_neg (by simp[hq])];cases hp:p b with
     |true=>rw[List.filter_cons_of_pos hp];simp;omega
     |false=>rw[List.filter_cons_of_neg (by simp[hp])];exact this
  rcases List.mem_cons.1 hx with rfl|hx
  ·rw[List.filter_cons_of_neg (by simp[h2]),List.filter_cons_of_pos h1];simp;omega
  ·have ih:=Ajt (fun x hx=>h x (List.mem_cons_of_mem _ hx)) ⟨x,hx,h1,h2⟩
   cases hq:q a with
   |true=>rw[List.filter_cons_of_pos hq,List.filter_cons_of_pos (h a (by simp) hq)];simpa using ih
   |false=>
    rw[List.filter_cons_of_neg (by simp[hq])];cases hp:p a with
    |true=>rw[List.filter_cons_of_pos hp];simp;omega
    |false=>rw[List.filter_cons_of_neg (by simp[hp])];exact ih
theorem Xl{B:List De}{out:List Fa}(h:(rnd B out).2=true):O4 B (rnd B out).1<O4 B out:=by
 obtain⟨d,hd,h1,h2⟩:=T8 (B:=B) (s:=(out,false)) rfl h;refine Ajt (fun x hx hq=>?_) ⟨d,hd,by simpa using h1,?_⟩
 ·simp only[Bool.not_eq_true',decide_eq_false_iff_not]at hq⊢
  exact fun hm=>hq (Ps (B:=B) (s:=(out,false)) hm)
 ·simp only[Bool.not_eq_false',decide_eq_true_eq]
  exact h2
theorem Gi{t:Tm}{c:Cn}{env e:List Bi}(h:Bd t c env=some e):e.length≤env.length+1:=by
 unfold Bd at h;split at h
 ·split at h
  ·injection h with h;subst h;omega
  ·cases h
 ·split at h
  ·cases h
  ·injection h with h;subst h;simp
theorem Abn{l:List (Tm×Cn)}:∀{env e:List Bi},Fy l env=some e→e.length≤env.length+l.length:=by
 induction l with
 |nil=>intro env e h;injection h with h;subst h;simp
 |cons p l ih=>
  intro env e h;obtain⟨m,h1,h2⟩:=Option.bind_eq_some_iff.1 h;have:=Gi h1;have:=ih h2;simp only[List.length_cons];omega
theorem O8{ho:Tm}{l:Li}{f:Fa}{env e:List Bi}(h:Be ho l f env=some e):e.length≤env.length+l.ar.length+2:=by
 unfold Be at h;split at h
 ·have:=Abn h
  unfold eqs at this;simp only[List.length_cons,List.length_append,List.length_zip]at this;split at this<;>simp only[List.length_nil,List.length_cons]at this<;>omega
 ·cases h
theorem Ur{l m:List (Tm×Cn)}:∀{env:List Bi},Fy (l++m) env=(Fy l env).bind (Fy m):=by
 induction l with
 |nil=>intro env;rfl
 |cons p l ih=>
  intro env;show(Bd p.1 p.2 env).bind (Fy (l++m))=_;cases h:Bd p.1 p.2 env with
  |none=>simp[Fy,h]
  |some e=>simp only[Option.bind_some,Fy,h];exact ih
theorem Wk{a:List Tm}{b:List Cn}{i:Nat}(h1:i<a.length)(h2:i<b.length)(env:List Bi):Fy ((a.take (i+1)).zip (b.take (i+1))) env=(Fy ((a.take i).zip (b.take i)) env).bind (Bd a[i] b[i]):=by
 rw[List.take_add_one,List.take_add_one,List.getElem?_eq_getElem h1,List.getElem?_eq_getElem h2,List.zip_append (by simp;omega),Ur]
 congr 1
 funext e;simp[Fy]
def Hz(ho:Tm)(l:Li)(f:Fa)(env:List Bi):Option (List Bi):=(Bd (orT l.at' ho) (nmC f.at') env).bind fun e=>if l.by'= .zero then(if f.by'=f.at' then some e else none)else Bd l.by' (nmC f.by') e
theorem Akm{ho:Tm}{l:Li}{f:Fa}{env:List Bi}:Be ho l f env=if l.nm=f.pr∧l.ar.length=f.ar.length then(Hz ho l f env).bind (Fy (l.ar.zip f.ar))else none:=by
 unfold Be fits eqs Hz;by_cases h:l.nm=f.pr∧l.ar.length=f.ar.length
 ·rw[if_pos h,decide_eq_true h.1,decide_eq_true h.2]
  simp only[Bool.true_and];by_cases h0:l.by'= .zero
  ·rw[if_pos h0]
   by_cases h1:f.by'=f.at'
   ·rw[if_pos (by simp[h1])]
    simp only[Fy,List.nil_append,h0,h1,if_true];cases Bd (orT l.at' ho) (nmC f.at') env<;>rfl
   ·rw[if_neg (by simp[h0,h1])]
    simp only[h0,h1,if_true,if_false];cases Bd (orT l.at' ho) (nmC f.at') env<;>rfl
  ·rw[if_neg h0,if_pos (by simp[h0])]
   simp only[Fy,List.cons_append,List.nil_append,h0,if_false];cases Bd (orT l.at' ho) (nmC f.at') env<;>rfl
 ·rw[if_neg h,if_neg]
  intro h';simp only[Bool.and_eq_true,decide_eq_true_eq]at h';exact h h'.1
section
variable{P:Program}{res:List ResultVar}{fr:Fr}{σ σ':St}{o:Option (List Bi)}
theorem Ei(hr:A9 P fr σ' res=some (.tup [A4,boo false]))(hs:∀y o,σ y=some o→σ' y=some o)(ho:o=none):Dw P (fun r σ''=>r=I1 o∧σ''=σ) res fr σ':=
 Ad hr (I1 none) σ (Gh hs _) ⟨by rw[ho],rfl⟩
theorem Afx{e:List Bi}(hr:A9 P fr σ' res=some (.tup [.sl 4 (biC e),boo true]))(hs:∀y o,σ y=some o→σ' y=some o)(ho:o=some e):Dw P (fun r σ''=>r=I1 o∧σ''=σ) res fr σ':=
 Ad hr (I1 (some e)) σ (An hs) ⟨by rw[ho],rfl⟩
end
theorem O7{ho:Tm}{l:Li}{f:Fa}{env:List Bi}(h:¬(l.nm=f.pr∧l.ar.length=f.ar.length)):Be ho l f env=none:=by rw[Akm,if_neg h]
theorem Ae9{ho:Tm}{l:Li}{f:Fa}{env:List Bi}(h1:l.nm=f.pr)(h2:l.ar.length=f.ar.length):Be ho l f env=(Hz ho l f env).bind (Fy (l.ar.zip f.ar)):=by rw[Akm,if_pos ⟨h1,h2⟩]
section
variable{σ:St}
theorem X4(ho:Tm)(l:Li)(f:Fa)(env:List Bi)(hl:env.length≤100000)(ha:l.ar.length≤100000):AT Tryz.prog 174 [.agg ho.cs,.agg l.cs,.agg f.cs,.sl 4 (biC env)] σ fun r σ'=>r=I1 (Be ho l f env)∧σ'=σ:=by
 refine AT.ob Tryz.func174 rfl ?_;simp only[go_sem];refine Ctx.nil.alloc fun p σ1 c1=>?_;simp only[go_sem];refine c1.alloc fun q σ2 c2=>?_;simp only[go_sem];refine c2.alloc fun x σ3 c3=>?_;by_cases h1:l.nm=f.pr
 ·simp only[go_sem,c3.g2,h1]
  refine aIf_by (fun h2=>?_) (fun h2=>?_)
  ·have h2:l.ar.length=f.ar.length:=by omega
   have hlf:=Ae9 (ho:=ho) (env:=env) h1 h2;simp only[go_sem,c3.g2];refine c3.alloc fun r σ4 c4=>?_;obtain⟨σ5,e5,c5⟩:=c4.abs 0 rfl (.cells l.at'.cs);simp only[go_sem,c4.g3,e5,c5.g3];refine(Pg l.at').p ?_;simp only[go_sem];refine C0 (fun fr σ'=>Ctx σ [(r,.cells (orT l.at' ho).cs),(x,.cells f.cs),(q,.cells l.cs),(p,.cells ho.cs)] σ'∧fr 3= .sl 4 (biC env)∧fr 4=ptr p∧fr 5=ptr q∧fr 6=ptr x∧fr 10=ptr r) (fun h0=>?_) (fun h0=>?_) ?_
   ·obtain⟨σ6,e6,c6⟩:=c5.abs 0 rfl (.cells ho.cs)
    simp only[go_sem,c5.g3,e6];unfold orT;rw[if_pos h0];exact c6
   ·simp only[go_sem]
    unfold orT;rw[if_neg h0];exact c5
   clear c5 c4 e5;rintro fr σ6 ⟨c6,f3,f4,f5,f6,f10⟩;simp only[go_sem];refine Af [.rd 0 true,.rd 1 false,.rd 2 true,.rd 4 false,.ef 3 [0],.ef 5 [],.rd 6 false,.rd 7 false,.rd 8 false,.rd 9 false,.rd 10 false] ?_;simp only[go_sem,f3,f6,f10,c6.g3];refine(Ml f.at').p ?_;simp only[go_sem,f3,f6,f10,c6.g3];refine(H6 (orT l.at' ho) (nmC f.at') env (by omega)).p ?_;simp only[go_sem];cases hu:Bd (orT l.at' ho) (nmC f.at') env with
   |none=>
    have hn:Be ho l f env=none:=by rw[hlf];unfold Hz;rw[hu];rfl
    simp only[go_sem];exact Ei rfl c6.sub hn
   |some e=>
    have he:=Gi hu;simp only[go_sem,f5,c6.g3];refine(Pg l.by').p ?_;simp only[go_sem];refine C0 (fun fr σ'=>∃e2,σ'=σ6∧Hz ho l f env=some e2∧e2.length≤env.length+2∧fr 5=ptr q∧fr 6=ptr x∧fr 11= .sl 4 (biC e2)) (fun h0=>?_) (fun h0=>?_) ?_
    ·by_cases h3:f.by'=f.at'
     ·have ht:Hz ho l f env=some e:=by unfold Hz;rw[hu];simp[h0,h3]
      simp only[go_sem,f6,c6.g3,h3];refine⟨e,?_⟩
      (and_intros<;>first|assumption|rfl|omega)
     ·have hn:Be ho l f env=none:=by rw[hlf];unfold Hz;rw[hu];simp[h0,h3]
      simp only[go_sem,f6,c6.g3,h3];exact Ei rfl c6.sub hn
    ·simp only[go_sem]
     refine Af [.rd 0 false,.rd 1 true,.rd 2 false,.rd 3 true,.rd 5 false,.ef 4 [1],.ef 6 [],.rd 7 false,.rd 8 false,.rd 9 false,.rd 10 false,.rd 11 false] ?_;simp only[go_sem,f5,f6,c6.g3];refine(Ml f.by').p ?_;simp only[go_sem,f5,f6,c6.g3];refine(H6 l.by' (nmC f.by') e (by omega)).p ?_;simp only[go_sem];cases hv:Bd l.by' (nmC f.by') e with
     |none=>
      have hn:Be ho l f env=none:=by rw[hlf];unfold Hz;rw[hu];simp[h0,hv]
      simp only[go_sem];exact Ei rfl c6.sub hn
     |some e2=>
      have ht:Hz ho l f env=some e2:=by unfold Hz;rw[hu];simp[h0,hv]
      have:=Gi hv;simp only[go_sem];refine⟨e2,?_⟩
      (and_intros<;>first|assumption|rfl|omega)
    rintro fr σ' ⟨e2,rfl,ht,hl2,f5,f6,f11⟩;rw[ht,Option.bind_some]at hlf;clear f3 f4 f10;simp only[go_sem,Aa];refine⟨fun m fr σ''=>∃(i:Nat) (ei:List Bi),m=l.ar.length-i∧i≤l.ar.length∧σ''=σ'∧Fy ((l.ar.take i).zip (f.ar.take i)) e2=some ei∧fr 5=ptr q∧fr 6=ptr x∧fr 11= .sl 4 (biC ei)∧fr 13=int i,⟨_,0,e2,rfl,by omega,rfl,rfl,f5,f6,f11,rfl⟩,?_⟩;clear f5 f6 f11;rintro m fr σ'' ⟨i,ei,rfl,hi,rfl,hI,f5,f6,f11,f13⟩;have hei:=Abn hI;simp only[List.length_zip,List.length_take]at hei;simp only[go_sem,f5,f13,c6.g3];refine aIf_by (fun hlt=>?_) (fun hlt=>?_)
    ·have hil:i<l.ar.length:=by omega
     have hif:i<f.ar.length:=by omega
     simp only[go_sem,Aa];refine Af [.rd 0 false,.rd 1 true,.rd 2 false,.rd 3 false,.rd 4 true,.rd 5 false,.rd 6 true,.rd 7 false,.rd 8 false,.rd 9 true,.rd 10 false,.ef 11 [],.rd 12 false,.rd 13 false,.rd 14 false,.rd 15 false,.rd 16 false] ?_;simp only[go_sem,Aa,f5,f6,f11,f13,c6.g3,H0 hil,Gd hif];refine⟨by omega,by omega,(H6 l.ar[i] f.ar[i] ei (by omega)).p ?_⟩;have hs:=Wk hil hif e2;rw[hI,Option.bind_some]at hs;simp only[go_sem];cases hw:Bd l.ar[i] f.ar[i] ei with
     |none=>
      rw[hw]at hs;have hn:Be ho l f env=none:=by
       rw[hlf];have e1:l.ar.zip f.ar=(l.ar.take (i+1)).zip (f.ar.take (i+1))++(l.ar.drop (i+1)).zip (f.ar.drop (i+1)):=by
        rw[←List.zip_append (by simp;omega),List.take_append_drop,List.take_append_drop]
       rw[e1,Ur,hs];rfl
      simp only[go_sem];exact Ei rfl c6.sub hn
     |some e3=>
      rw[hw]at hs;simp only[go_sem,f5,f6,f13,As i (by omega)];refine⟨l.ar.length-(i+1),by omega,i+1,e3,?_⟩
      (and_intros<;>first|assumption|rfl|omega)
    ·rw[List.take_of_length_le (by omega),List.take_of_length_le (by omega)]at hI
     simp only[go_sem,f11];exact Afx rfl c6.sub (by rw[hlf,hI])
  ·have hn:Be ho l f env=none:=O7 fun h=>h2 (by rw[h.2])
   simp only[go_sem];exact Ei rfl c3.sub hn
 ·have hn:Be ho l f env=none:=O7 fun h=>h1 h.1
  simp only[go_sem,c3.g2,h1];exact Ei rfl c3.sub hn
end
def FI(β σ:St)(x:Nat)(out:List (List Fa))(d:Nat):Prop:=
 ∃lv,σ x=some (.cells [lv,int d,boo (decide (30000<d))])∧LAt 1 σ lv (boC out)∧∀y o,β y=some o→σ y=some o∧y≠x∧¬Own lv y
section
variable{β σ:St}{x:Nat}
theorem Amt{out:List (List Fa)}{b:List Fa}(k:Nat):([]++(boC out).take k)++[[.sl 4 (faC b)]]++(boC out).drop k=boC (out.take k++b::out.drop k):=by
 simp[boC,List.map_take,List.map_drop]
theorem Arw{out:List (List Fa)}{d:Nat}{b:List Fa}(h:FI β σ x out d)(hl:out.length≤100000)(ho:∀a∈out,SmB a)(hb:SmB b):AT Tryz.prog 222 [ptr x,.sl 4 (faC b)] σ fun _ σ'=>FI β σ' x (A1 Et b out) d:=by
 obtain⟨lv,hx,hL,hβ⟩:=h;refine AT.ob Tryz.func222 rfl ?_;simp only[go_sem,Aa];refine⟨fun m fr σ'=>∃k:Nat,m=out.length-k∧k≤out.length∧σ'=σ∧(∀i (hi:i<k) (hl:i<out.length),Et out[i] b<0)∧fr 0=ptr x∧fr 1= .sl 4 (faC b)∧fr 4=int k,⟨_,0,rfl,by omega,rfl,fun i hi=>by omega,rfl,rfl,rfl⟩,?_⟩;rintro m fr σ ⟨k,rfl,hk,rfl,hI,f0,f1,f4⟩;by_cases g:∃hk:k<out.length,Et out[k] b<0
 ·obtain⟨g1,g2⟩:=g
  have d1:=decide_eq_true (show(k:Int)<out.length by omega);simp only[go_sem,Aa,f0,f1,f4,hx,hL.len,d1];refine hL.elem (by omega) (by rw[Gc];omega) fun p hp=>?_;simp only[go_sem,Aa];refine hp.load1 (by decide) (by rw[Int.toNat_natCast,Db g1];exact Nat.le_refl 1) ?_;simp only[go_sem,Aa,f0,f1,f4,Db g1];have s1:=ho _ (List.getElem_mem g1);refine(Lu out[k] b s1.1 s1.2 hb.1 hb.2).p ?_;simp only[go_sem,Aa,f0,f1,f4,decide_eq_true g2,As k (by omega)];refine⟨out.length-(k+1),by omega,k+1,?_⟩;have hI':∀i (hi:i<k+1) (hl:i<out.length),Et out[i] b<0:=fun i hi hl=>by
   by_cases e:i=k
   ·subst e;exact g2
   ·exact hI i (by omega) hl
  (and_intros<;>first|assumption|rfl|omega)
 ·have hn:∀hk:k<out.length,¬Et out[k] b<0:=fun h1 h2=>g ⟨h1,h2⟩
  have hins:=Ih (c:=Et) hk hI hn;by_cases h0:∃hk:k<out.length,Et out[k] b=0
  ·obtain⟨g1,g2⟩:=h0
   rw[if_pos ⟨g1,g2⟩]at hins;have d1:=decide_eq_true (show(k:Int)<out.length by omega);have s1:=ho _ (List.getElem_mem g1);simp only[go_sem,Aa,f0,f1,f4,hx,hL.len,d1];refine hL.elem (by omega) (by rw[Gc];omega) fun p hp=>?_;simp only[go_sem,Aa];refine hp.load1 (by decide) (by rw[Int.toNat_natCast,Db g1];exact Nat.le_refl 1) ?_;simp only[go_sem,Aa,f0,f1,f4,Db g1];refine(Lu out[k] b s1.1 s1.2 hb.1 hb.2).p ?_;simp only[go_sem,Aa,f0,f1,f4,decide_eq_false (hn g1),hx,hL.len,d1];refine hL.elem (by omega) (by rw[Gc];omega) fun p hp=>?_;simp only[go_sem,Aa];refine hp.load1 (by decide) (by rw[Int.toNat_natCast,Db g1];exact Nat.le_refl 1) ?_;simp only[go_sem,Aa,f0,f1,f4,Db g1];refine(Lu out[k] b s1.1 s1.2 hb.1 hb.2).p ?_;simp only[go_sem,Aa,decide_eq_true g2];rw[hins];exact Ae (r:=.tup []) rfl ⟨lv,hx,hL,hβ⟩
  ·rw[if_neg h0]at hins
   by_cases hkl:k<out.length
   case' pos=>
    have d1:=decide_eq_true (show(k:Int)<out.length by omega);have s1:=ho _ (List.getElem_mem hkl);simp only[go_sem,Aa,f0,f1,f4,hx,hL.len,d1];refine hL.elem (by omega) (by rw[Gc];omega) fun p hp=>?_;simp only[go_sem,Aa];refine hp.load1 (by decide) (by rw[Int.toNat_natCast,Db hkl];exact Nat.le_refl 1) ?_;simp only[go_sem,Aa,f0,f1,f4,Db hkl];refine(Lu out[k] b s1.1 s1.2 hb.1 hb.2).p ?_;simp only[go_sem,Aa,f0,f1,f4,decide_eq_false (hn hkl),hx,hL.len,d1];refine hL.elem (by omega) (by rw[Gc];omega) fun p hp=>?_;simp only[go_sem,Aa];refine hp.load1 (by decide) (by rw[Int.toNat_natCast,Db hkl];exact Nat.le_refl 1) ?_;simp only[go_sem,Aa,f0,f1,f4,Db hkl];refine(Lu out[k] b s1.1 s1.2 hb.1 hb.2).p ?_;have d2:=decide_eq_false (show¬Et out[k] b=0 from fun e=>h0 ⟨hkl,e⟩);simp only[go_sem,Aa,d2,f0,f4,hx]
   case' neg=>
    have d1:=decide_eq_false (show¬(k:Int)<out.length by omega);simp only[go_sem,Aa,f0,f1,f4,hx,hL.len,d1]
   all_goals
    refine hL.upto (by omega) (by rw[Gc];omega) fun s hs=>?_;simp only[go_sem,Aa];refine Ap (ys:=(boC out).take k) (by rw[hs _ _ hL];rfl) (by decide) (by decide) (by decide) (LAt.full.app (by rw[List.length_take,Gc];simp only[List.length_nil];omega) fun l1 σ1 h1 e1=>?_);have G1:Cg σ σ1 l1:=fun y p hy=>e1 y p hy A3;simp only[go_sem,Aa,f1];refine Ap (ys:=[[.sl 4 (faC b)]]) (by rfl) (by decide) (by decide) (by decide) (h1.app (by rw[List.nil_append,List.length_take,Gc];simp only[List.length_nil,List.length_cons];omega) fun l2 σ2 h2 e2=>?_);have G2:=G1.step e2;simp only[go_sem,Aa,f0,f4,G2.sub _ _ hx];have hL2:LAt 1 σ2 lv (boC out):=hL.keep fun y o hy _=>G2.sub y o hy;refine hL2.from (by decide) (by omega) (by rw[Gc];omega) fun s2 hs2=>?_;simp only[go_sem,Aa];refine Ap (ys:=(boC out).drop k) (by rw[hs2 _ _ hL2];rfl) (by decide) (by decide) (by decide) (h2.app (by simp only[List.nil_append,List.length_append,List.length_take,List.length_drop,Gc,List.length_nil,List.length_cons];omega) fun l3 σ3 h3 e3=>?_);have G3:=G2.step e3;have hx3:=G3 _ _ hx;simp only[go_sem,Aa,f0,hx3.1,h3.one,h3.cells];refine Ae (r:=.tup []) rfl ⟨l3,Ab,?_,fun y o hy=>?_⟩
    ·rw[hins,←Amt]
     exact h3.keep fun y o hy ho=>by rw[Ag (fun e=>by subst e;exact hx3.2 ho)];exact hy
    ·obtain⟨k1,k2,k3⟩:=hβ y o hy
     exact⟨by rw[Ag k2];exact(G3 _ _ k1).1,k2,(G3 _ _ k1).2⟩
end
section
variable{β β' σ σ':St}{x:Nat}{out:List (List Fa)}{d:Nat}
theorem FI.mono(h:FI β σ x out d)(hs:∀y o,σ y=some o→σ' y=some o):FI β σ' x out d:=by
 obtain⟨lv,h1,h2,h3⟩:=h;exact⟨lv,hs _ _ h1,h2.keep fun y o hy _=>hs y o hy,fun y o hy=>⟨hs _ _ (h3 y o hy).1,(h3 y o hy).2⟩⟩
theorem FI.sub(h:FI β' σ x out d)(hs:∀y o,β y=some o→β' y=some o):FI β σ x out d:=by
 obtain⟨lv,h1,h2,h3⟩:=h;exact⟨lv,h1,h2,fun y o hy=>h3 y o (hs y o hy)⟩
theorem FI.base(h:FI β σ x out d):∃β',FI β' σ x out d∧(∀y o,β y=some o→β' y=some o)∧∀y cs,σ y=some (.cells cs)→y≠x→β' y=some (.cells cs):=by
 classical
 obtain⟨lv,h1,h2,h3⟩:=h;refine⟨fun y=>if y=x∨Own lv y then none else σ y,⟨lv,h1,h2,fun y o hy=>?_⟩,fun y o hy=>?_,fun y cs hy hne=>?_⟩
 ·simp only at hy
  split at hy
  ·cases hy
  ·rename_i hn
   exact⟨hy,fun e=>hn (.inl e),fun e=>hn (.inr e)⟩
 ·obtain⟨k1,k2,k3⟩:=h3 y o hy
  simp only;rw[if_neg (by rintro(e|e);exact k2 e;exact k3 e)];exact k1
 ·simp only
  rw[if_neg (by rintro(e|e);exact hne e;exact h2.not_own hy e)];exact hy
theorem FI.keep(h:FI β σ x out d){y:Nat}{o:Cj}(hy:β y=some o):σ y=some o:=by
 obtain⟨lv,h1,h2,h3⟩:=h;exact(h3 y o hy).1
end
theorem FI.put{β σ:St}{x:Nat}{out:List (List Fa)}{d:Nat}{lv:AV}{b:Bool}{cs:List AV}(x1:σ x=some (.cells cs))(x2:LAt 1 σ lv (boC out))(x3:∀y o,β y=some o→σ y=some o∧y≠x∧¬Own lv y)(hb:b=decide (30000<d)):FI β (σ.set x (.cells [lv,int d,boo b])) x out d:=by
 subst hb;exact⟨lv,Ab,x2.keep fun y o hy ho=>by rw[Ag (fun e=>by subst e;exact x2.not_own x1 ho)];exact hy,fun y o hy=>⟨by rw[Ag (x3 y o hy).2.1];exact(x3 y o hy).1,(x3 y o hy).2⟩⟩
def stp(ho:Tm)(li:Li)(ls:List (Li×List Fa))(env:List Bi)(got:List Fa)(s:List (List Fa)×Nat)(x:Fa):List (List Fa)×Nat:=
 if 30000<s.2 then s else match Be ho li x env with
  |some e=>frm ho ls e (got++[x]) (s.1,s.2+1)
  |none=>(s.1,s.2+1)
theorem Oq{ho:Tm}{p:Li×List Fa}{ls:List (Li×List Fa)}{env:List Bi}{got:List Fa}{s:List (List Fa)×Nat}:frm ho (p::ls) env got s=p.2.foldl (stp ho p.1 ls env got) s:=rfl
theorem Wd{ho:Tm}{li:Li}{ls:List (Li×List Fa)}{env:List Bi}{got:List Fa}{s:List (List Fa)×Nat}(h:30000<s.2):∀l:List Fa,l.foldl (stp ho li ls env got) s=s
 | []=>rfl
 |x::l=>by rw[List.foldl_cons];unfold stp;rw[if_pos h];exact Wd h l
theorem Aci(ho:Tm):∀(ls:List (Li×List Fa)) (env:List Bi) (got:List Fa) (s:List (List Fa)×Nat),s.1.length≤s.2→s.2≤30001→(frm ho ls env got s).1.length≤(frm ho ls env got s).2+1∧(frm ho ls env got s).2≤30001
 | [],env,got,s,h1,h2=>⟨Nat.le_trans I9 (by simp only[frm];omega),h2⟩
 |p::ls,env,got,s,h1,h2=>by
  rw[Oq];have key:∀(l:List Fa) (s:List (List Fa)×Nat),s.1.length≤s.2+1→s.2≤30001→(l.foldl (stp ho p.1 ls env got) s).1.length≤(l.foldl (stp ho p.1 ls env got) s).2+1∧(l.foldl (stp ho p.1 ls env got) s).2≤30001:=by
   intro l
   induction l with
   |nil=>exact fun s h1 h2=>⟨h1,h2⟩
   |cons x l ih=>
    intro s h1 h2;rw[List.foldl_cons];have:(stp ho p.1 ls env got s x).1.length≤(stp ho p.1 ls env got s x).2+1∧(stp ho p.1 ls env got s x).2≤30001:=by
     unfold stp;split
     ·exact⟨h1,h2⟩
     ·split
      ·exact Aci ho ls _ _ _ (by simp only;omega) (by simp only;omega)
      ·exact⟨by simp only;omega,by simp only;omega⟩
    exact ih _ this.1 this.2
  exact key _ _ (by omega) h2
theorem Aj0(ho:Tm):∀(ls:List (Li×List Fa)) (env:List Bi) (got:List Fa) (s:List (List Fa)×Nat),(∀a∈s.1,SmB a)→(∀x∈got,x.Sm)→(∀p∈ls,∀x∈p.2,x.Sm)→got.length+ls.length≤1000000000000→∀a∈(frm ho ls env got s).1,SmB a
 | [],env,got,s,h1,h2,h3,h4,a,ha=>by
  rcases(Cs Dm).1 ha with rfl|ha
  ·exact⟨by simpa using h4,h2⟩
  ·exact h1 a ha
 |p::ls,env,got,s,h1,h2,h3,h4,a,ha=>by
  rw[Oq]at ha;have h3':=h3 p (List.mem_cons_self ..);revert ha;generalize p.2=l at h3'
  induction l generalizing s with
  |nil=>exact fun ha=>h1 a ha
  |cons x l ih=>
   rw[List.foldl_cons];refine ih _ (fun b hb=>?_) fun y hy=>h3' y (List.mem_cons_of_mem _ hy);revert hb;unfold stp;split
   ·exact fun hb=>h1 b hb
   ·split
    ·rename_i e _
     intro hb;refine Aj0 ho ls e (got++[x]) (s.1,s.2+1) h1 ?_ (fun p hp=>h3 p (List.mem_cons_of_mem _ hp)) (by simp only[List.length_append,List.length_cons,List.length_nil]at*;omega) b hb;intro y hy;rcases List.mem_append.1 hy with hy|hy
     ·exact h2 y hy
     ·rw[List.mem_singleton.1 hy];exact h3' x (List.mem_cons_self ..)
    ·exact fun hb=>h1 b hb
def Ca(first:Int)(f:Fa)(l:List Fa)(k:Nat):List Fa:=if(k:Int)=first then[f]else l
def lsF(r:Rl)(first:Int)(f:Fa)(l:List Fa)(k m:Nat):List (Li×List Fa):=(List.range' k m).map fun i=>(r.bo.getD i .zero,Ca first f l i)
theorem Akg{l:List Li}{i:Nat}(h:i<l.length):l.getD i .zero=l[i]:=by simp[List.getD_eq_getElem?_getD,h]
section
variable{β σ:St}{x:Nat}
theorem Aot(r:Rl)(first:Int)(f:Fa)(l:List Fa)(hr:r.S3)(hf:f.Sm)(hl:l.length≤1000000)(hls:∀y∈l,y.Sm):∀(m k:Nat) {β σ:St} {env:List Bi} {got:List Fa} {out:List (List Fa)} {d:Nat},k+m=r.bo.length→got.length=k→env.length≤10+302*k→(∀y∈got,y.Sm)→
  FI β σ x out d→out.length≤d→d≤30001→(∀a∈out,SmB a)→
  AT Tryz.prog 173 [ptr x,.agg r.cs,int first,.agg f.cs,.sl 4 (faC l),.sl 4 (biC env),.sl 4 (faC got)] σ fun _ σ'=>FI β σ' x (frm r.ho (lsF r first f l k m) env got (out,d)).1 (frm r.ho (lsF r first f l k m) env got (out,d)).2:=by
 intro m
 induction m with
 |zero=>
  intro k β σ env got out d hk hg he hgs h hod hd hos;refine AT.ob Tryz.func173 rfl ?_;simp only[go_sem];refine Ctx.nil.alloc fun p σ1 c1=>?_;simp only[go_sem];refine c1.alloc fun q σ2 c2=>?_;have h:=h.mono c2.sub;have dd:=decide_eq_true (show(got.length:Int)=r.bo.length by omega);simp only[go_sem,c2.g1,dd];refine(Arw h (by omega) hos ⟨by have:=hr.1;omega,hgs⟩).mono ?_;intro _ σ3 h3;simp only[go_sem];exact Ae (r:=.tup []) rfl h3
 |succ m ih=>
  intro k β σ env got out d hk hg he hgs h hod hd hos;refine AT.ob Tryz.func173 rfl ?_;simp only[go_sem];refine Ctx.nil.alloc fun p σ1 c1=>?_;simp only[go_sem];refine c1.alloc fun q σ2 c2=>?_;have h:=h.mono c2.sub;have hx0:p≠x∧q≠x:=by
   obtain⟨lv,h1,h2,h3⟩:= ‹FI β σ x out d›;exact⟨fun e=>(by have:=c2.frs (p,.cells r.cs) (by simp);rw[e,h1]at this;cases this),fun e=>(by have:=c2.frs (q,.cells f.cs) (by simp);rw[e,h1]at this;cases this)⟩
  obtain⟨β',hF,hββ,hcl⟩:=h.base;have kp:=hcl p _ c2.g1.1.2 hx0.1;have kq:=hcl q _ c2.g1.1.1 hx0.2;have hkn:k<r.bo.length:=by omega
  have hlk:=hr.2 _ (List.getElem_mem hkn);have hr1:=hr.1;have dd:=decide_eq_false (show¬(got.length:Int)=r.bo.length by omega);have els:lsF r first f l k (m+1)=(r.bo[k],Ca first f l k)::lsF r first f l (k+1) m:=by
   unfold lsF;rw[List.range'_succ,List.map_cons,Akg hkn]
  rw[els];obtain⟨cd,hcd⟩:∃cd,cd=Ca first f l k:=⟨_,rfl⟩
  have hcl:cd.length≤1000000:=by rw[hcd];unfold Ca;split
                                 ·simp
                                 ·exact hl
  have hcs:∀y∈cd,y.Sm:=by
   rw[hcd];unfold Ca;split
   ·intro y hy;rw[List.mem_singleton.1 hy];exact hf
   ·exact hls
  simp only[go_sem,c2.g1,dd];rw[←hcd,Oq];refine C0 (fun fr σ'=>∃lc,(lc= .sl 4 (faC cd)∨lc= .fsl 4 (faC cd))∧σ'=σ2∧fr 0=ptr x∧fr 2=int first∧fr 4= .sl 4 (faC l)∧fr 5= .sl 4 (biC env)∧fr 6= .sl 4 (faC got)∧fr 8=ptr p∧fr 10=ptr q∧fr 14=int k∧fr 15=lc) (fun h0=>?_) (fun h0=>?_) ?_
  ·have e:cd=[f]:=by rw[hcd];unfold Ca;rw[if_pos (by omega)]
   simp only[go_sem,c2.g1];refine⟨.fsl 4 (faC cd),.inr rfl,?_⟩;rw[hg,e]
   (and_intros<;>first|assumption|rfl|omega)
  ·have e:cd=l:=by rw[hcd];unfold Ca;rw[if_neg (by omega)]
   simp only[go_sem];refine⟨.sl 4 (faC cd),.inl rfl,?_⟩;rw[hg,e]
   (and_intros<;>first|assumption|rfl|omega)
  rintro fr σ' ⟨lc,hlc,rfl,f0,f2,f4,f5,f6,f8,f10,f14,f15⟩;have hR:∀σ'',Rd 4 σ'' lc (faC cd):=fun σ''=>by
   rcases hlc with rfl|rfl
   ·exact .sl
   ·exact .of .full
  obtain⟨S0,hS0⟩:∃S0,S0=cd.foldl (stp r.ho r.bo[k] (lsF r first f l (k+1) m) env got) (out,d):=⟨_,rfl⟩;rw[←hS0];simp only[go_sem,Aa];refine⟨fun mm fr σ'=>∃(i:Nat) (s:List (List Fa)×Nat),mm=cd.length-i∧i≤cd.length∧FI β' σ' x s.1 s.2∧(cd.drop i).foldl (stp r.ho r.bo[k] (lsF r first f l (k+1) m) env got) s=S0∧s.1.length≤s.2+1∧s.2≤30001∧(∀a∈s.1,SmB a)∧fr 0=ptr x∧fr 2=int first∧fr 4= .sl 4 (faC l)∧fr 5= .sl 4 (biC env)∧fr 6= .sl 4 (faC got)∧fr 8=ptr p∧fr 10=ptr q∧fr 14=int k∧fr 15=lc∧fr 16=int i,⟨_,0,(out,d),rfl,by omega,hF,by rw[hS0];rfl,by simp only;omega,hd,hos,f0,f2,f4,f5,f6,f8,f10,f14,f15,rfl⟩,?_⟩;clear f0 f2 f4 f5 f6 f8 f10 f14 f15 hF fr c1 c2;rintro mm fr σ3 ⟨i,s,rfl,hi,hF,hI,hs1,hs2,hs3,f0,f2,f4,f5,f6,f8,f10,f14,f15,f16⟩;have fin:S0=s→FI β σ3 x S0.1 S0.2:=fun e=>by rw[e];exact hF.sub hββ
  obtain⟨lv,x1,x2,x3⟩:=hF;have hF:FI β' σ3 x s.1 s.2:=⟨lv,x1,x2,x3⟩;by_cases hlt:i<cd.length
  ·have d1:=decide_eq_true (show(i:Int)<cd.length by omega)
   by_cases hh:30000<s.2
   ·have d2:=decide_eq_true hh
    simp only[go_sem,Aa,f0,f15,f16,(hR σ3).len,d1,x1,d2];exact Ae (r:=.tup []) rfl (fin (by rw[←hI,Wd hh]))
   ·have d2:=decide_eq_false hh
    have w1:IntKind.i64.wrap ((s.2:Int)+1)=((s.2+1:Nat):Int):=Iq (by omega);simp only[go_sem,Aa,f0,f15,f16,(hR σ3).len,d1,x1,d2,w1];refine C0 (fun fr σ'=>FI β' σ' x s.1 (s.2+1)∧fr 0=ptr x∧fr 2=int first∧fr 4= .sl 4 (faC l)∧fr 5= .sl 4 (biC env)∧fr 6= .sl 4 (faC got)∧fr 8=ptr p∧fr 10=ptr q∧fr 14=int k∧fr 15=lc∧fr 16=int i) (fun h0=>?_) (fun h0=>?_) ?_
    ·simp only[go_sem,f0]
     have hp:=FI.put (b:=true) x1 x2 x3 (decide_eq_true (show 30000<s.2+1 by omega)).symm
     (and_intros<;>first|assumption|rfl|omega)
    ·simp only[go_sem,f0]
     have hp:=FI.put (b:=false) x1 x2 x3 (decide_eq_false (show¬30000<s.2+1 by omega)).symm
     (and_intros<;>first|assumption|rfl|omega)
    clear f0 f2 f4 f5 f6 f8 f10 f14 f15 f16 hF x1 x2 x3 fin;rintro fr σ4 ⟨hF,f0,f2,f4,f5,f6,f8,f10,f14,f15,f16⟩;have kp4:=hF.keep kp;have kq4:=hF.keep kq;simp only[go_sem];refine Af [.rd 0 false,.rd 1 true,.rd 2 false,.rd 3 true,.rd 4 false,.rd 5 false,.rd 6 true,.rd 7 false,.rd 8 false,.rd 9 false,.rd 10 true,.rd 11 false,.ef 12 [],.rd 13 false,.rd 14 false,.rd 15 false,.rd 16 false,.rd 17 false] ?_;simp only[go_sem,f5,f8,f14,f15,f16,kp4,D6 hkn];refine⟨by omega,(hR σ4).elem (by omega) (by rw[Aj];omega) fun e he=>?_⟩;simp only[go_sem];refine he.load (by decide) (by rw[Int.toNat_natCast,Aq hlt];exact Nat.le_refl 4) ?_;simp only[go_sem,f5,f8,f14,f15,f16,kp4,Aq hlt];refine(X4 r.ho r.bo[k] cd[i] env (by omega) (by omega)).p ?_;have hstep:S0=(cd.drop (i+1)).foldl (stp r.ho r.bo[k] (lsF r first f l (k+1) m) env got) (stp r.ho r.bo[k] (lsF r first f l (k+1) m) env got s cd[i]):=by
     rw[←hI,List.drop_eq_getElem_cons hlt];rfl
    cases hv:Be r.ho r.bo[k] cd[i] env with
    |none=>
     have e1:stp r.ho r.bo[k] (lsF r first f l (k+1) m) env got s cd[i]=(s.1,s.2+1):=by unfold stp;rw[if_neg hh,hv]
     rw[e1]at hstep;simp only[go_sem,Aa,f0,f2,f4,f5,f6,f8,f10,f14,f15,f16,As i (by omega)];refine⟨cd.length-(i+1),by omega,i+1,(s.1,s.2+1),?_⟩;have hI':=hstep.symm;have k1:s.1.length≤s.2+1+1:=by omega
     have k2:s.2+1≤30001:=by omega
     (and_intros<;>first|assumption|rfl|omega)
    |some e2=>
     have e1:stp r.ho r.bo[k] (lsF r first f l (k+1) m) env got s cd[i]=frm r.ho (lsF r first f l (k+1) m) e2 (got++[cd[i]]) (s.1,s.2+1):=by unfold stp;rw[if_neg hh,hv]
     rw[e1]at hstep;have hel:=O8 hv;simp only[go_sem,Aa];refine Af [.rd 0 false,.rd 1 true,.rd 2 false,.rd 3 true,.rd 4 false,.rd 5 false,.rd 6 false,.rd 7 false,.rd 9 false,.rd 10 false,.rd 11 false,.rd 12 true,.rd 13 false,.ef 8 [1,3,12],.ef 14 [1,3],.ef 15 []] ?_;simp only[go_sem,Aa,f0,f2,f4,f6,f8,f10,f15,f16,kp4,kq4];refine(hR σ4).elem (by omega) (by rw[Aj];omega) fun e he=>?_;simp only[go_sem,Aa];refine he.load (by decide) (by rw[Int.toNat_natCast,Aq hlt];exact Nat.le_refl 4) ?_;simp only[go_sem,Aa,f6,Aq hlt];refine Ap (ys:=faC got) (by simp[src]) (by decide) (by decide) (by decide) (LAt.full.app (by rw[Aj];simp only[List.length_nil];omega) fun l1 σ5 h1 g1=>?_);have G1:Cg σ4 σ5 l1:=fun y o hy=>g1 y o hy A3;have kp5:=G1.sub _ _ kp4;have kq5:=G1.sub _ _ kq4;simp only[go_sem,Aa,f8,f10,kp5,kq5];refine⟨fun kk hkk=>(he.keep G1.sub).load (by decide) (by rw[Int.toNat_natCast,Aq hlt];exact Nat.le_refl 4) (by simp only[go_sem,Aq hlt];exact hkk),?_⟩;refine Ap (ys:=[cd[i].cs]) (by rfl) (by decide) (by decide) (by decide) (h1.app (by rw[List.nil_append,Aj];simp only[List.length_nil,List.length_cons];omega) fun l2 σ6 h2 g2=>?_);have G2:=G1.step g2;have kp6:=G2.sub _ _ kp4;have kq6:=G2.sub _ _ kq4;have el:[]++faC got++[cd[i].cs]=faC (got++[cd[i]]):=by simp[faC]
     rw[el]at h2;simp only[go_sem,Aa,f0,f2,f4,f8,f10,kp6,kq6];have hF6:=hF.mono G2.sub;have hF7:FI β' (St.free σ6 l2) x s.1 (s.2+1):=by
      obtain⟨lv,y1,y2,y3⟩:=hF;have hn:=fun y o (hy:σ4 y=some o)=>(G2 y o hy).2;refine⟨lv,by rw[I8 (hn _ _ y1)];exact G2.sub _ _ y1,y2.keep fun y o hy _=>by rw[I8 (hn _ _ hy)];exact G2.sub _ _ hy,fun y o hy=>⟨by rw[I8 (hn _ _ (y3 y o hy).1)];exact G2.sub _ _ (y3 y o hy).1,(y3 y o hy).2⟩⟩
     refine AT.pre (args':=[ptr x,.agg r.cs,int first,.agg f.cs,.sl 4 (faC l),.sl 4 (biC e2),.sl 4 (faC (got++[cd[i]]))]) ((ih (k+1) (by omega) (by simp;omega) (by omega) (fun y hy=>?_) hF7 (by omega) (by omega) hs3).mono ?_) (by kernel_rfl) Agb (vws_same (vws_same (vws_same (vws_same (vws_same (vws_same (vws_cons h2.vw_free By)))))))
     ·rcases List.mem_append.1 hy with hy|hy
      ·exact hgs y hy
      ·rw[List.mem_singleton.1 hy];exact hcs _ (List.getElem_mem hlt)
     intro _ σ7 h7;have hb:=Aci r.ho (lsF r first f l (k+1) m) e2 (got++[cd[i]]) (s.1,s.2+1) (by simp only;omega) (by simp only;omega)
     have hsm:∀a∈(frm r.ho (lsF r first f l (k+1) m) e2 (got++[cd[i]]) (s.1,s.2+1)).1,SmB a:=Aj0 r.ho _ _ _ _ hs3 (fun y hy=>by
      rcases List.mem_append.1 hy with hy|hy
      ·exact hgs y hy
      ·rw[List.mem_singleton.1 hy];exact hcs _ (List.getElem_mem hlt)) (fun pp hpp y hy=>by
      unfold lsF at hpp;obtain⟨j,_,rfl⟩:=List.mem_map.1 hpp;simp only at hy;unfold Ca at hy;split at hy
      ·rw[List.mem_singleton.1 hy];exact hf
      ·exact hls y hy) (by simp[lsF];omega)
     simp only[go_sem,Aa,f0,f2,f4,f5,f6,f8,f10,f14,f15,f16,As i (by omega)];refine⟨cd.length-(i+1),by omega,i+1,frm r.ho (lsF r first f l (k+1) m) e2 (got++[cd[i]]) (s.1,s.2+1),?_⟩;have hI':=hstep.symm;have hb1:=hb.1;have hb2:=hb.2
     (and_intros<;>first|assumption|rfl|omega)
  ·have d1:=decide_eq_false (show¬(i:Int)<cd.length by omega)
   simp only[go_sem,Aa,f0,f15,f16,(hR σ3).len,d1];exact Ae (r:=.tup []) rfl (fin (by rw[←hI,List.drop_of_length_le (by omega)];rfl))
end
section
variable{σ:St}
theorem Akl(ho:Tm)(l:Li)(f:Fa)(env:List Bi)(hl:env.length≤100000)(ha:l.ar.length≤100000):AT Tryz.prog 160 [.agg ho.cs,.agg l.cs,.agg f.cs,.sl 4 (biC env)] σ fun r σ'=>r=I1 (Be ho l f env)∧σ'=σ:=by
 refine AT.ob Tryz.func160 rfl ?_;simp only[go_sem];refine Ctx.nil.alloc fun p σ1 c1=>?_;simp only[go_sem];refine c1.alloc fun q σ2 c2=>?_;simp only[go_sem];refine c2.alloc fun x σ3 c3=>?_;by_cases h1:l.nm=f.pr
 ·simp only[go_sem,c3.g2,h1]
  refine aIf_by (fun h2=>?_) (fun h2=>?_)
  ·have h2:l.ar.length=f.ar.length:=by omega
   have hlf:=Ae9 (ho:=ho) (env:=env) h1 h2;simp only[go_sem];refine Af [.rd 0 false,.rd 1 true,.rd 2 true,.rd 4 false,.rd 5 true,.rd 7 false,.ef 3 [5],.ef 6 [],.ef 8 [],.rd 9 false,.rd 10 false,.rd 11 false,.rd 12 false,.rd 13 false] ?_;simp only[go_sem,c3.g2];refine(Ale l.at' ho).p ?_;simp only[go_sem,c3.g2];refine(Yn f.at').p ?_;simp only[go_sem,c3.g2];refine(L5 (orT l.at' ho) (nmC f.at') env (by omega)).p ?_;simp only[go_sem];cases hu:Bd (orT l.at' ho) (nmC f.at') env with
   |none=>
    have hn:Be ho l f env=none:=by rw[hlf];unfold Hz;rw[hu];rfl
    simp only[go_sem];exact Ei rfl c3.sub hn
   |some e=>
    have he:=Gi hu;simp only[go_sem,c3.g2];refine Abi ?_;simp only[go_sem];refine C0 (fun fr σ'=>∃(b:Bool) (e2:List Bi),σ'=σ3∧(b=true→Hz ho l f env=some e2)∧(b=false→Be ho l f env=none)∧e2.length≤env.length+2∧fr 3= .sl 4 (biC e2)∧fr 5=ptr q∧fr 6=ptr x∧fr 10=boo b) (fun h0=>?_) (fun h0=>?_) ?_
    ·simp only[go_sem,c3.g2]
     refine⟨decide (f.by'=f.at'),e,?_⟩;have g1:decide (f.by'=f.at')=true→Hz ho l f env=some e:=fun h3=>by unfold Hz;rw[hu];simp[h0,of_decide_eq_true h3]
     have g2:decide (f.by'=f.at')=false→Be ho l f env=none:=fun h3=>by rw[hlf];unfold Hz;rw[hu];simp[h0,of_decide_eq_false h3]
     (and_intros<;>first|assumption|rfl|omega)
    ·simp only[go_sem]
     refine Af [.rd 0 false,.rd 1 true,.rd 2 false,.rd 3 true,.rd 5 false,.ef 4 [1],.ef 6 [],.rd 7 false,.rd 8 false,.rd 9 false,.rd 10 false,.rd 11 false] ?_;simp only[go_sem,c3.g2];refine(Yn f.by').p ?_;simp only[go_sem,c3.g2];refine(L5 l.by' (nmC f.by') e (by omega)).p ?_;simp only[go_sem];refine⟨(Bd l.by' (nmC f.by') e).isSome,(Bd l.by' (nmC f.by') e).getD [],?_⟩;have g1:(Bd l.by' (nmC f.by') e).isSome=true→Hz ho l f env=some ((Bd l.by' (nmC f.by') e).getD []):=fun h3=>by
      obtain⟨y,hy⟩:=Option.isSome_iff_exists.1 h3;unfold Hz;rw[hu];simp[h0,hy]
     have g2:(Bd l.by' (nmC f.by') e).isSome=false→Be ho l f env=none:=fun h3=>by
      rw[Option.isSome_eq_false_iff,Option.isNone_iff_eq_none]at h3;rw[hlf];unfold Hz;rw[hu];simp[h0,h3]
     have g3:((Bd l.by' (nmC f.by') e).getD []).length≤env.length+2:=by
      cases hv:Bd l.by' (nmC f.by') e with
      |none=>simp
      |some y=>have:=Gi hv;simp only[Option.getD_some];omega
     (and_intros<;>first|assumption|rfl|omega)
    rintro fr σ4 ⟨b,e2,rfl,g1,g2,hl2,f3,f5,f6,f10⟩;simp only[go_sem,Aa,f5,c3.g2];refine⟨fun m fr σ''=>∃(i:Nat) (b:Bool) (ei:List Bi),m=l.ar.length-i∧i≤l.ar.length∧Ctx σ [(x,.cells f.cs),(q,.cells l.cs),(p,.cells ho.cs)] σ''∧(b=true→(Hz ho l f env).bind (Fy ((l.ar.take i).zip (f.ar.take i)))=some ei)∧(b=false→Be ho l f env=none)∧ei.length≤env.length+2+i∧fr 3= .sl 4 (biC ei)∧fr 6=ptr x∧fr 10=boo b∧fr 61= .sl 4 (tmC l.ar)∧fr 62=int l.ar.length∧fr 63=int i,⟨_,0,b,e2,rfl,by omega,c3,fun h=>(by rw[g1 h];rfl),g2,by omega,f3,f6,f10,rfl,rfl,rfl⟩,?_⟩;clear f3 f5 f6 f10 g1 g2 c3 c2 c1 hl2 hu he;rintro m fr σ4 ⟨i,b,ei,rfl,hi,c3,g1,g2,hli,f3,f6,f10,f61,f62,f63⟩;simp only[go_sem,f62,f63];refine aIf_by (fun hlt=>?_) (fun hlt=>?_)
    ·have hil:i<l.ar.length:=by omega
     have hif:i<f.ar.length:=by omega
     simp only[go_sem,Aa,f61,f63,H0 hil];refine⟨by omega,c3.alloc fun r σ5 c4=>?_⟩;obtain⟨σ6,e6,c5⟩:=c4.abs 0 rfl (.cells l.ar[i].cs);simp only[go_sem,c4.g3,e6,f10];cases b with
     |false=>
      simp only[go_sem,f10];exact Ei rfl c5.sub (g2 rfl)
     |true=>
      have g1:=g1 rfl;simp only[go_sem,Aa];refine Af [.rd 0 true,.rd 1 false,.rd 2 true,.rd 3 false,.rd 4 false,.rd 5 true,.rd 6 false,.ef 7 [],.rd 8 false,.rd 9 false,.rd 10 false,.rd 11 false,.rd 12 false] ?_;simp only[go_sem,Aa,f3,f6,f10,f63,c5.g3,Gd hif];refine⟨by omega,(L5 l.ar[i] f.ar[i] ei (by omega)).p ?_⟩;simp only[go_sem,Aa,f6,f61,f62,f63,As i (by omega)];have hs:(Hz ho l f env).bind (Fy ((l.ar.take (i+1)).zip (f.ar.take (i+1))))=Bd l.ar[i] f.ar[i] ei:=by
       cases hA:Hz ho l f env with
       |none=>rw[hA]at g1;cases g1
       |some a=>
        rw[hA]at g1;rw[Option.bind_some]at g1⊢;rw[Wk hil hif,g1];rfl
      refine⟨l.ar.length-(i+1),by omega,i+1,(Bd l.ar[i] f.ar[i] ei).isSome,(Bd l.ar[i] f.ar[i] ei).getD [],?_⟩;have k1:(Bd l.ar[i] f.ar[i] ei).isSome=true→(Hz ho l f env).bind (Fy ((l.ar.take (i+1)).zip (f.ar.take (i+1))))=some ((Bd l.ar[i] f.ar[i] ei).getD []):=fun h3=>by
       obtain⟨y,hy⟩:=Option.isSome_iff_exists.1 h3;rw[hs,hy];rfl
      have k2:(Bd l.ar[i] f.ar[i] ei).isSome=false→Be ho l f env=none:=fun h3=>by
       rw[Option.isSome_eq_false_iff,Option.isNone_iff_eq_none]at h3;rw[h3]at hs;have e1:l.ar.zip f.ar=(l.ar.take (i+1)).zip (f.ar.take (i+1))++(l.ar.drop (i+1)).zip (f.ar.drop (i+1)):=by
        rw[←List.zip_append (by simp;omega),List.take_append_drop,List.take_append_drop]
       rw[hlf,e1];cases hA:Hz ho l f env with
       |none=>rfl
       |some a=>
        rw[hA,Option.bind_some]at hs;rw[Option.bind_some,Ur,hs];rfl
      have k3:((Bd l.ar[i] f.ar[i] ei).getD []).length≤env.length+2+(i+1):=by
       cases hv:Bd l.ar[i] f.ar[i] ei with
       |none=>simp
       |some y=>have:=Gi hv;simp only[Option.getD_some];omega
      have k4:=c5.tl
      (and_intros<;>first|assumption|rfl|omega)
    ·simp only[go_sem,Aa,f3,f10]
     cases b with
     |false=>
      simp only[go_sem];exact Ei rfl c3.sub (g2 rfl)
     |true=>
      have g1:=g1 rfl;rw[List.take_of_length_le (by omega),List.take_of_length_le (by omega)]at g1;simp only[go_sem,f3];exact Afx rfl c3.sub (by rw[hlf,g1])
  ·have hn:Be ho l f env=none:=O7 fun h=>h2 (by rw[h.2])
   simp only[go_sem];exact Ei rfl c3.sub hn
 ·have hn:Be ho l f env=none:=O7 fun h=>h1 h.1
  simp only[go_sem,c3.g2,h1];exact Ei rfl c3.sub hn
end
section
variable{σ:St}{lv:AV}{vs:List ByteArray}
theorem Akd(l:Li)(ha:l.ar.length≤1000000)(hl:vs.length≤1000000000000)(h:Rd 1 σ lv (stC vs)):AT Tryz.prog 159 [.agg l.cs,lv] σ fun r σ'=>r=int (knL l vs)∧σ'=σ:=by
 refine AT.ob Tryz.func159 rfl ?_;simp only[go_sem];refine Ay fun b hb _=>?_;simp only[go_sem,Aa,Ab];refine Ap (ys:=tmC l.ar) (by simp[src]) (by decide) (by decide) (by decide) (LAt.full.app (by rw[Ku];simp;omega) fun lw σ1 hw hs=>?_);have hno:∀x,¬Own (.fsl 4 [l.by'.cs]) x:=fun x ⟨n,c,e⟩=>by cases e
 have hs1:∀x o,σ x=some o→σ1 x=some o:=fun x o hx=>(hs x o (B7 hb (fun _ _ h=>h) x o hx) (hno x)).1;have hw:LAt 4 σ1 lw (tmC (l.by'::l.ar)):=hw;obtain⟨ts,hts⟩:∃ts,ts=l.by'::l.ar:=⟨_,rfl⟩
 have htl:ts.length≤1000001:=by subst hts;simp;omega
 rw[←hts]at hw;simp only[go_sem,Aa,hw.len];refine⟨fun m fr σ'=>∃i:Nat,m=ts.length-i∧i≤ts.length∧(∀x o,σ1 x=some o→σ' x=some o)∧fr 1=lv∧fr 13=lw∧fr 14=int ts.length∧fr 15=int i∧fr 5=int (knS (ts.take i) vs),⟨_,0,rfl,by omega,fun _ _ h=>h,rfl,rfl,rfl,rfl,rfl⟩,?_⟩;clear hb;rintro m fr σ2 ⟨i,rfl,h1,h2,f1,f13,f14,f15,f5⟩;simp only[go_sem,f13,f14,f15];refine aIf_by (fun hlt=>?_) (fun hlt=>?_)
 ·have hi:i<ts.length:=by omega
  have hw2:LAt 4 σ2 lw (tmC ts):=hw.keep fun x o hx _=>h2 x o hx;simp only[go_sem,Aa,f13,f15];refine hw2.elem (by omega) (by rw[Ku];omega) fun p hp=>?_;simp only[go_sem,Aa];refine hp.load (by omega) (by rw[Int.toNat_natCast,H0 hi];exact Nat.le_refl 4) ?_;simp only[go_sem,H0 hi];refine Ay fun c hc hcn=>?_;have h3:∀x o,σ1 x=some o→x≠c:=fun x o hx=>hcn x o (h2 x o hx);have e:knS (ts.take (i+1)) vs=_:=Akc vs hi;have hk:=Akb vs (ts.take i);have hk2:=Aq1 ts[i] vs;rw[List.length_take]at hk;simp only[go_sem,Aa,Ab];refine Al4 ?_;have go:∀x o,σ1 x=some o→(σ2.set c (.cells ts[i].cs)) x=some o:=fun x o hx=>by
   rw[Ag (h3 x o hx)];exact h2 x o hx
  have hr:Rd 1 (σ2.set c (.cells ts[i].cs)) lv (stC vs):=h.keep fun x o hx=>go x o (hs1 x o hx);by_cases g1:ts[i]= .zero
  ·have ek:kn ts[i] vs=0:=by unfold kn;rw[if_neg (fun h=>h.1 g1)]
   simp only[go_sem,Aa,decide_eq_true g1,Bool.not_true,f15,f14,f13,f5,f1,As i (by omega)];refine⟨ts.length-(i+1),by omega,i+1,rfl,by omega,go,rfl,by rw[e,ek];rfl⟩
  by_cases g2:ts[i].v=emp
  ·have ek:kn ts[i] vs=1:=by unfold kn;rw[if_pos ⟨g1,.inl g2⟩]
   simp only[go_sem,Aa,decide_eq_false g1,Bool.not_false,Ab,decide_eq_true g2,f15,f14,f13,f5,f1,As i (by omega),Iq (show knS (ts.take i) vs<9223372036854775807 by omega)];refine⟨ts.length-(i+1),by omega,i+1,rfl,by omega,go,rfl,by rw[e,ek]⟩
  ·simp only[go_sem,Aa,decide_eq_false g1,Bool.not_false,Ab,decide_eq_false g2,f1]
   refine(Acl hl hr).p ?_;simp only[go_sem,Aa,decide_eq_false g1,Bool.not_false,decide_eq_false g2];refine aIf_by (fun g3=>?_) (fun g3=>?_)
   ·have ek:kn ts[i] vs=1:=by unfold kn;rw[if_pos ⟨g1,.inr g3⟩]
    simp only[go_sem,Aa,f15,f14,f13,f5,f1,As i (by omega),Iq (show knS (ts.take i) vs<9223372036854775807 by omega)];exact⟨ts.length-(i+1),by omega,i+1,rfl,by omega,go,rfl,by rw[e,ek]⟩
   ·have ek:kn ts[i] vs=0:=by unfold kn;rw[if_neg (fun h=>h.2.elim g2 g3)]
    simp only[go_sem,Aa,f15,f14,f13,f5,f1,As i (by omega)];exact⟨ts.length-(i+1),by omega,i+1,rfl,by omega,go,rfl,by rw[e,ek];rfl⟩
 ·simp only[go_sem,Aa,f5]
  rw[List.take_of_length_le (by omega)];refine Ad (r:=int (knS ts vs)) rfl _ σ (An fun x o hx=>h2 x o (hs1 x o hx)) ⟨by rw[hts];rfl,rfl⟩
end
structure CV(q:Nat)(σ:St)(p:Nat)(lv:AV)(es:List (List AV)):Prop where
 cell:σ p=some (.cells [lv])
 lat:LAt q σ lv es
def Off(p:Nat)(lv:AV)(x:Nat):Prop:=x≠p∧¬Own lv x
section
variable{q:Nat}{σ σ' σ1:St}{p:Nat}{lv lw:AV}{es es':List (List AV)}
theorem CV.keep(h:CV q σ p lv es)(hs:∀x o,σ x=some o→¬Off p lv x→σ' x=some o):CV q σ' p lv es:=
 ⟨hs _ _ h.cell fun e=>e.1 rfl,h.lat.keep fun x o hx ho=>hs x o hx fun e=>e.2 ho⟩
theorem CV.some(h:CV q σ p lv es){x:Nat}(hx:¬Off p lv x):∃o,σ x=Option.some o:=by
 by_cases e:x=p
 ·exact⟨_,e▸h.cell⟩
 ·by_cases e2:Own lv x
  ·obtain⟨c,hc⟩:=h.lat.own_rows e2
   exact⟨_,hc⟩
  ·exact absurd ⟨e,e2⟩ hx
theorem CV.off(h:CV q σ p lv es){x:Nat}{ob:Cj}(hx:σ x=Option.some ob)(n1:∀a,ob≠.cells [a])(n2:∀es f c,ob≠.rows q es f c):Off p lv x:=
 ⟨fun e=>by subst e;exact n1 _ (Option.some.inj (hx.symm.trans h.cell)),fun e=>by obtain⟨c,hc⟩:=h.lat.own_rows e;exact n2 _ _ _ (Option.some.inj (hx.symm.trans hc))⟩
theorem CV.step(h:CV q σ p lv es)(hw:LAt q σ1 lw es')(hs:∀x o,σ x=Option.some o→¬Own lv x→σ1 x=Option.some o∧¬Own lw x):
  CV q (σ1.set p (.cells [lw])) p lw es'∧∀x o,σ x=Option.some o→Off p lv x→(σ1.set p (.cells [lw])) x=Option.some o∧Off p lw x:=by
 have h1:=hs p _ h.cell (h.lat.not_own h.cell);refine⟨⟨Ab,Ao2 hw h1.1 h1.2⟩,fun x o hx ho=>?_⟩;have h2:=hs x o hx ho.2;exact⟨by rw[Ag ho.1];exact h2.1,ho.1,h2.2⟩
end
def PO(β σ:St)(o v:Nat)(out:List Int)(vs:List ByteArray):Prop:=
 ∃lo lw,CV 1 σ o lo (inC out)∧CV 1 σ v lw (stC vs)∧(∀x,Off o lo x∨Off v lw x)∧∀x p,β x=some p→σ x=some p∧Off o lo x∧Off v lw x
section
variable{β σ:St}{o v:Nat}{ou:List Int}{vs:List ByteArray}
theorem PO.sub(h:PO β σ o v ou vs):∀x p,β x=some p→σ x=some p:=by
 obtain⟨lo,lw,h1,h2,h3,h4⟩:=h;exact fun x p hx=>(h4 x p hx).1
theorem PO.keep(h:PO β σ o v ou vs){σ':St}(hs:∀x p,σ x=some p→σ' x=some p):PO β σ' o v ou vs:=by
 obtain⟨lo,lw,h1,h2,h3,h4⟩:=h;exact⟨lo,lw,h1.keep fun x p hx _=>hs x p hx,h2.keep fun x p hx _=>hs x p hx,h3,fun x p hx=>⟨hs x p (h4 x p hx).1,(h4 x p hx).2⟩⟩
theorem PO.weak(h:PO β σ o v ou vs){γ:St}(hs:∀x p,γ x=some p→β x=some p):PO γ σ o v ou vs:=by
 obtain⟨lo,lw,h1,h2,h3,h4⟩:=h;exact⟨lo,lw,h1,h2,h3,fun x p hx=>h4 x p (hs x p hx)⟩
theorem PO.new(h:PO β σ o v ou vs){c:Nat}{ob:Cj}(hc:σ c=none):PO β (σ.set c ob) o v ou vs:=by
 obtain⟨lo,lw,h1,h2,h3,h4⟩:=h;have hs:∀x p,σ x=some p→(σ.set c ob) x=some p:=B7 hc fun _ _ h=>h;exact⟨lo,lw,h1.keep fun x p hx _=>hs x p hx,h2.keep fun x p hx _=>hs x p hx,h3,fun x p hx=>⟨hs x p (h4 x p hx).1,(h4 x p hx).2⟩⟩
theorem PO.base(h:PO β σ o v ou vs):∃γ,PO γ σ o v ou vs∧(∀x p,β x=some p→γ x=some p)∧∀x p,σ x=some p→(∀a,p≠.cells [a])→(∀es f c,p≠.rows 1 es f c)→γ x=some p:=by
 obtain⟨lo,lw,h1,h2,h3,h4⟩:=h;refine⟨fun x=>open Classical in if Off o lo x∧Off v lw x then σ x else none,⟨lo,lw,h1,h2,h3,fun x p hx=>?_⟩,fun x p hx=>?_,fun x p hx n1 n2=>?_⟩
 ·by_cases e:Off o lo x∧Off v lw x
  ·simp only[e,and_self,if_true]at hx;exact⟨hx,e⟩
  ·simp only[e,if_false]at hx;cases hx
 ·have:=h4 x p hx
  simp only[this.2,and_self,if_true];exact this.1
 ·have:=And.intro (h1.off hx n1 n2) (h2.off hx n1 n2)
  simp only[this,and_self,if_true];exact hx
theorem PO.num(h:PO β σ o v ou vs):∃lo,σ o=some (.cells [lo])∧LAt 1 σ lo (inC ou)∧∀σ1 lo' ou',LAt 1 σ1 lo' (inC ou')→(∀x p,σ x=some p→¬Own lo x→σ1 x=some p∧¬Own lo' x)→σ1 o=some (.cells [lo])∧PO β (σ1.set o (.cells [lo'])) o v ou' vs:=by
 obtain⟨lo,lw,h1,h2,h3,h4⟩:=h;refine⟨lo,h1.cell,h1.lat,fun σ1 lo' ou' hl hs=>?_⟩;obtain⟨g1,g2⟩:=h1.step hl hs;have k2:CV 1 (σ1.set o (.cells [lo'])) v lw (stC vs):=h2.keep fun x p hx hn=>(g2 x p hx ((h3 x).resolve_right hn)).1;refine⟨(hs o _ h1.cell (h1.lat.not_own h1.cell)).1,lo',lw,g1,k2,fun x=>?_,fun x p hx=>?_⟩
 ·by_cases e:Off v lw x
  ·exact .inr e
  ·obtain⟨p,hp⟩:=h2.some e
   exact .inl (g2 x p hp ((h3 x).resolve_right e)).2
 ·have:=h4 x p hx
  have k:=g2 x p this.1 this.2.1;exact⟨k.1,k.2,this.2.2⟩
theorem PO.var(h:PO β σ o v ou vs):∃lw,σ v=some (.cells [lw])∧LAt 1 σ lw (stC vs)∧∀σ1 lw' vs',LAt 1 σ1 lw' (stC vs')→(∀x p,σ x=some p→¬Own lw x→σ1 x=some p∧¬Own lw' x)→σ1 v=some (.cells [lw])∧PO β (σ1.set v (.cells [lw'])) o v ou vs':=by
 obtain⟨lo,lw,h1,h2,h3,h4⟩:=h;refine⟨lw,h2.cell,h2.lat,fun σ1 lw' vs' hl hs=>?_⟩;obtain⟨g1,g2⟩:=h2.step hl hs;have k2:CV 1 (σ1.set v (.cells [lw'])) o lo (inC ou):=h1.keep fun x p hx hn=>(g2 x p hx ((h3 x).resolve_left hn)).1;refine⟨(hs v _ h2.cell (h2.lat.not_own h2.cell)).1,lo,lw',k2,g1,fun x=>?_,fun x p hx=>?_⟩
 ·by_cases e:Off o lo x
  ·exact .inl e
  ·obtain⟨p,hp⟩:=h1.some e
   exact .inr (g2 x p hp ((h3 x).resolve_left e)).2
 ·have:=h4 x p hx
  have k:=g2 x p this.1 this.2.2;exact⟨k.1,this.2.1,k.2⟩
end
section
variable{β σ:St}{o v b:Nat}{out:List Nat}{vs:List ByteArray}
def Iz(l:List Nat):List Int:=l.map Int.ofNat
@[go_sem] theorem Ip(l:List Nat):(Iz l).length=l.length:=by simp[Iz]
theorem Ahl{l:List Nat}{n:Nat}:inC (Iz l)++[[int n]]=inC (Iz (l++[n])):=by simp[inC,Iz]
theorem Agc(r:Rl){k:Nat}(hk:k<r.bo.length)(hb:β b=some (.cells r.cs))(h:PO β σ o v (Iz out) vs)(h1:out.length≤1000000)(h2:vs.length≤1000000)(h3:r.bo[k].ar.length≤1000000):
  AT Tryz.prog 158 [int k,ptr o,ptr b,ptr v] σ fun _ σ'=>PO β σ' o v (Iz (out++[k])) (ofLi r.bo[k] vs):=by
 refine AT.ob Tryz.func158 rfl ?_;obtain⟨lo,c1,c2,c3⟩:=h.num;simp only[go_sem,Aa,c1,c2.one,c2.cells];refine Ap (ys:=[[int k]]) (by simp[src]) (by decide) (by decide) (by decide) (c2.app (by rw[Xk,Ip];simp;omega) fun lo' σ1 hl hs=>?_);rw[Ahl]at hl;obtain⟨d1,d2⟩:=c3 σ1 lo' _ hl hs;simp only[go_sem,d1,hl.one,hl.cells];clear c1 c2 c3 hs h hl d1;revert d2;generalize σ1.set o (.cells [lo'])=σ2;intro h;have hb2:=h.sub _ _ hb;simp only[go_sem,Aa,hb2,D6 hk];refine⟨by omega,Ay fun c hc hcn=>?_⟩;have h':=h.new (ob:=.cells r.bo[k].cs) hc;obtain⟨γ,g1,g2,g3⟩:=h'.base;have hcc:γ c=some (.cells r.bo[k].cs):=g3 c _ Ab (fun a e=>by injection e with e;exact absurd (congrArg List.length e) (by rw[Li.len];simp)) (fun _ _ _ e=>by cases e);simp only[go_sem,Aa,Ab];clear hcn h hb2 hc;revert h' g1 g2 g3 hcc;intro h' g1 g2 g3 hcc;refine Ap (ys:=tmC r.bo[k].ar) (by simp[src]) (by decide) (by decide) (by decide) (LAt.full.app (by rw[Ku];simp;omega) fun lt σ3 hw hs=>?_);have hno:∀x,¬Own (.fsl 4 [r.bo[k].by'.cs,r.bo[k].at'.cs]) x:=fun x ⟨n,c,e⟩=>by cases e
 have g4:=g1.keep fun x o hx=>(hs x o hx (hno x)).1;clear h' g3 hs hno hcc;have hw:LAt 4 σ3 lt (tmC (r.bo[k].by'::r.bo[k].at'::r.bo[k].ar)):=hw;obtain⟨ts,hts⟩:∃ts,ts=r.bo[k].by'::r.bo[k].at'::r.bo[k].ar:=⟨_,rfl⟩
 have htl:ts.length≤1000002:=by subst hts;simp;omega
 rw[←hts]at hw;obtain⟨δ,d1,d2,d3⟩:=g4.base
 have hw0:LAt 4 δ lt (tmC ts):=hw.keep fun x o hx ho=>d3 x o hx (fun a e=>by subst e;exact hw.not_own hx ho) (fun es f c e=>by
  obtain⟨c',hc'⟩:=hw.own_rows ho;rw[hx]at hc';rw[e]at hc';cases hc')
 simp only[go_sem,Aa,hw.len];refine⟨fun m fr σ'=>∃i:Nat,m=ts.length-i∧i≤ts.length∧PO δ σ' o v (Iz (out++[k])) (vs++(ts.take i).map Tm.v)∧fr 3=ptr v∧fr 24=lt∧fr 25=int ts.length∧fr 26=int i,⟨_,0,rfl,by omega,by simpa using d1,rfl,rfl,rfl,rfl⟩,?_⟩;rintro m fr σ4 ⟨i,rfl,h1,h,f3,f24,f25,f26⟩;simp only[go_sem,f24,f25,f26];refine aIf_by (fun hlt=>?_) (fun hlt=>?_)
 ·have hi:i<ts.length:=by omega
  have hw2:LAt 4 σ4 lt (tmC ts):=hw0.keep fun x o hx _=>h.sub x o hx;simp only[go_sem,Aa,f24,f26];refine hw2.elem (by omega) (by rw[Ku];omega) fun p hp=>?_;simp only[go_sem,Aa];refine hp.load (by omega) (by rw[Int.toNat_natCast,H0 hi];exact Nat.le_refl 4) ?_;simp only[go_sem,H0 hi];refine Ay fun d hd hdn=>?_;have h:=h.new (ob:=.cells ts[i].cs) hd;obtain⟨lw,c1,c2,c3⟩:=h.var;simp only[go_sem,Aa,Ab,f3,c1,c2.one,c2.cells];have hvl:((vs++(ts.take i).map Tm.v).length:Nat)≤2000002:=by simp;omega
  refine Ap (ys:=[[str ts[i].v]]) (by simp[src]) (by decide) (by decide) (by decide) (c2.app (by rw[Pw];simp only[List.length_cons,List.length_nil];omega) fun lw' σ5 hl hs=>?_);have e:vs++(ts.take (i+1)).map Tm.v=(vs++(ts.take i).map Tm.v)++[ts[i].v]:=by
   rw[List.take_add_one,List.getElem?_eq_getElem hi,List.map_append,←List.append_assoc];rfl
  have e2:stC (vs++(ts.take i).map Tm.v)++[[str ts[i].v]]=stC (vs++(ts.take (i+1)).map Tm.v):=by rw[e];simp[stC]
  rw[e2]at hl;obtain⟨q1,q2⟩:=c3 σ5 lw' _ hl hs;simp only[go_sem,Aa,f3,q1,hl.one,hl.cells,f26,f25,f24,As i (by omega)];exact⟨ts.length-(i+1),by omega,i+1,rfl,by omega,q2,rfl⟩
 ·simp only[go_sem,Aa]
  rw[List.take_of_length_le (by omega)]at h;refine Ae (r:=.tup []) rfl ?_;have e:vs++ts.map Tm.v=ofLi r.bo[k] vs:=by rw[hts];rfl
  rw[←e];exact h.weak fun x p hx=>d2 x p (g2 x p hx)
end
def bst(bo:List Li)(out:List Nat)(vs:List ByteArray):Nat→Int×Int
 |0=>(-1,-1)
 |k+1=>if k∉out∧(bst bo out vs k).2<(knL (bo.getD k .zero) vs:Int)then((k:Int),(knL (bo.getD k .zero) vs:Int))else bst bo out vs k
def ordN(bo:List Li):Nat→List Nat→List ByteArray→List Nat
 |0,out,_=>out
 |f+1,out,vs=>ordN bo f (out++[(bst bo out vs bo.length).1.toNat]) (ofLi (bo.getD (bst bo out vs bo.length).1.toNat .zero) vs)
def Ht(r:Rl)(first:Int):List Nat:=
 if 0≤first∧first<r.bo.length then ordN r.bo (r.bo.length-1) [first.toNat] (ofLi (r.bo.getD first.toNat .zero) [r.ho.v])else ordN r.bo r.bo.length [] [r.ho.v]
theorem Aio(bo:List Li)(out:List Nat)(vs:List ByteArray):∀k,((bst bo out vs k).1= -1∧(bst bo out vs k).2= -1∧∀j,j<k→j∈out)∨∃b:Nat,(bst bo out vs k).1=b∧b<k∧b∉out∧0≤(bst bo out vs k).2
 |0=>.inl ⟨rfl,rfl,fun j h=>by omega⟩
 |k+1=>by
  have ih:=Aio bo out vs k;unfold bst;split
  ·rename_i h
   exact .inr ⟨k,rfl,by omega,h.1,by show(0:Int)≤((knL _ _:Nat):Int);omega⟩
  ·rename_i h
   rcases ih with⟨h1,h2,h3⟩|⟨b,h1,h2,h3,h4⟩
   ·refine .inl ⟨h1,h2,fun j hj=>?_⟩
    by_cases e:j=k
    ·subst e
     exact Classical.byContradiction fun hn=>h ⟨hn,by rw[h2];omega⟩
    ·exact h3 j (by omega)
   ·exact .inr ⟨b,h1,by omega,h3,h4⟩
def Perm(n:Nat)(l:List Nat):Prop:=l.Nodup∧∀k∈l,k<n
theorem J0:∀(n:Nat) (l:List Nat),Perm n l→l.length≤n
 |0,l,h=>by
  cases l with
  |nil=>simp
  |cons a l=>have:=h.2 a (by simp);omega
 |n+1,l,h=>by
  have hp:Perm n (l.filter (· ≠n)):=⟨h.1.filter _,fun k hk=>by
   have hk:=List.mem_filter.1 hk;have:=h.2 k hk.1;have:k≠n:=by simpa using hk.2
   omega⟩
  have ih:=J0 n _ hp;have:=count_one h.1;have hl:l.length≤(l.filter (· ≠n)).length+1:=this n;omega
where
 count_one:∀{l:List Nat},l.Nodup→∀n,l.length≤(l.filter (· ≠n)).length+1
 | [],_,n=>by simp
 |a::l,h,n=>by
  have hh:=List.nodup_cons.1 h;by_cases e:a=n
  ·subst e
   have:l.filter (· ≠a)=l:=List.filter_eq_self.2 fun x hx=>by
    have:x≠a:=fun e=>hh.1 (e▸hx);simpa using this
   simp only[List.filter_cons,ne_eq,not_true_eq_false,decide_false,Bool.false_eq_true,if_false,List.length_cons];simp only[ne_eq]at this;rw[this];exact Nat.le_refl _
  ·have:=count_one hh.2 n
   simp only[List.filter_cons,ne_eq,e,not_false_eq_true,decide_true,if_true,List.length_cons]at*;omega
theorem Ahq{n:Nat}{l:List Nat}(h:Perm n l)(hl:l.length<n):∃j,j<n∧j∉l:=Classical.byContradiction fun hn=>by
 have hp:Perm l.length (List.range n)→False:=fun h=>by have:=J0 _ _ h;simp at this;omega
 have hs:∀j,j<n→j∈l:=fun j hj=>Classical.byContradiction fun hm=>hn ⟨j,hj,hm⟩;have:=(List.nodup_range (n:=n)).length_le_of_subset (l₂:=l) (fun j hj=>hs j (List.mem_range.1 hj));simp at this;omega
theorem V0{bo:List Li}{out:List Nat}{vs:List ByteArray}(h:Perm bo.length out)(hl:out.length<bo.length):
  ∃b:Nat,(bst bo out vs bo.length).1=b∧b<bo.length∧b∉out∧Perm bo.length (out++[b]):=by
 rcases Aio bo out vs bo.length with⟨h1,h2,h3⟩|⟨b,h1,h2,h3,h4⟩
 ·obtain⟨j,hj,hn⟩:=Ahq h hl
  exact absurd (h3 j hj) hn
 ·refine⟨b,h1,h2,h3,?_,fun k hk=>?_⟩
  ·rw[List.nodup_append]
   exact⟨h.1,by simp,fun a ha c hc=>by simp at hc;subst hc;exact fun e=>h3 (e▸ha)⟩
  ·rcases List.mem_append.1 hk with hk|hk
   ·exact h.2 k hk
   ·simp at hk;omega
theorem Xv{bo:List Li}:∀(f:Nat) (out:List Nat) (vs:List ByteArray),f=bo.length-out.length→Perm bo.length out→Perm bo.length (ordN bo f out vs)∧(ordN bo f out vs).length=bo.length∧∀i (h:i<out.length),(ordN bo f out vs)[i]? =some out[i]
 |0,out,vs,hf,h=>by
  have:=J0 _ _ h;exact⟨h,by unfold ordN;omega,fun i h=>by unfold ordN;simp[h]⟩
 |f+1,out,vs,hf,h=>by
  obtain⟨b,h1,h2,h3,h4⟩:=V0 (vs:=vs) h (by omega);have ih:=Xv f (out++[b]) (ofLi (bo.getD b .zero) vs) (by simp;omega) h4;unfold ordN;rw[h1];refine⟨ih.1,ih.2.1,fun i hi=>?_⟩;rw[show((b:Nat):Int).toNat=b from rfl,ih.2.2 i (by simp;omega)];rw[List.getElem_append_left hi]
theorem Pm(r:Rl)(first:Int):Perm r.bo.length (Ht r first)∧(Ht r first).length=r.bo.length∧(0≤first∧first<r.bo.length→(Ht r first)[0]? =some first.toNat):=by
 unfold Ht;split
 ·rename_i h
  have:=Xv (bo:=r.bo) (r.bo.length-1) [first.toNat] (ofLi (r.bo.getD first.toNat .zero) [r.ho.v]) rfl ⟨by simp,fun k hk=>by simp at hk;omega⟩;exact⟨this.1,this.2.1,fun _=>this.2.2 0 (by simp)⟩
 ·rename_i h
  have:=Xv (bo:=r.bo) r.bo.length [] [r.ho.v] rfl ⟨by simp,fun k hk=>by cases hk⟩;exact⟨this.1,this.2.1,fun e=>absurd e h⟩
def Rl.Ok(r:Rl):Prop:=r.bo.length≤300∧∀l∈r.bo,l.ar.length≤300
theorem Aao(l:Li)(vs:List ByteArray):(ofLi l vs).length=vs.length+2+l.ar.length:=by
 simp[ofLi];omega
def LO(r:Rl)(first:Int)(ou:List Nat)(vs:List ByteArray):Prop:=
 Perm r.bo.length ou∧vs.length≤1+ou.length*302∧ordN r.bo (r.bo.length-ou.length) ou vs=Ht r first
theorem Xo{l:List Li}{i:Nat}(h:i<l.length):l.getD i .zero=l[i]:=by simp[List.getD_eq_getElem?_getD,h]
theorem LO.first{r:Rl}{first:Int}(hr:r.Ok)(h0:0≤first)(h1:first.toNat<r.bo.length):LO r first [first.toNat] (ofLi r.bo[first.toNat] [r.ho.v]):=by
 refine⟨⟨by simp,fun k hk=>by simp at hk;omega⟩,?_,?_⟩
 ·have:=hr.2 _ (List.getElem_mem h1)
  rw[Aao];simp;omega
 ·unfold Ht
  rw[if_pos ⟨h0,by omega⟩,Xo h1];rfl
theorem LO.start{r:Rl}{first:Int}(h:¬(0≤first∧first<r.bo.length)):LO r first [] [r.ho.v]:=by
 refine⟨⟨by simp,fun k hk=>by cases hk⟩,by simp,?_⟩;unfold Ht;rw[if_neg h];rfl
theorem LO.next{r:Rl}{first:Int}{ou:List Nat}{vs:List ByteArray}(hr:r.Ok)(h:LO r first ou vs)(hl:ou.length<r.bo.length):
  ∃(b:Nat) (hb:b<r.bo.length),(bst r.bo ou vs r.bo.length).1=b∧LO r first (ou++[b]) (ofLi r.bo[b] vs):=by
 obtain⟨h1,h2,h3⟩:=h;obtain⟨b,e,hb,hn,hp⟩:=V0 (vs:=vs) h1 hl;refine⟨b,hb,e,hp,?_,?_⟩
 ·have:=hr.2 _ (List.getElem_mem hb)
  rw[Aao];simp;omega
 ·obtain⟨f,hf⟩:∃f,r.bo.length-ou.length=f+1:=⟨r.bo.length-ou.length-1,by omega⟩
  rw[hf]at h3;unfold ordN at h3;rw[e,show((b:Nat):Int).toNat=b from rfl,Xo hb]at h3;rw[←h3]
  congr 1
  simp;omega
theorem LO.done{r:Rl}{first:Int}{ou:List Nat}{vs:List ByteArray}(h:LO r first ou vs)(hl:¬ou.length<r.bo.length):ou=Ht r first:=by
 obtain⟨h1,h2,h3⟩:=h;rw[←h3,show r.bo.length-ou.length=0 by omega];rfl
theorem LO.len{r:Rl}{first:Int}{ou:List Nat}{vs:List ByteArray}(hr:r.Ok)(h:LO r first ou vs):ou.length≤300∧vs.length≤90601:=by
 have:=J0 _ _ h.1;have:=hr.1;have:=h.2.1;omega
def fiC(r:Rl)(ov:AV)(f:Fa)(lv gv xv:AV)(first:Int):List AV:=r.cs++ov::(f.cs++[lv,gv,xv,int first])
section
variable(r:Rl)(ov:AV)(f:Fa)(lv gv xv:AV)(first:Int)
@[go_sem] theorem Avm:(fiC r ov f lv gv xv first).length=20:=rfl
@[go_sem] theorem Az1:(fiC r ov f lv gv xv first).take 4=r.ho.cs:=rfl
@[go_sem] theorem Axo:((fiC r ov f lv gv xv first).drop 10).getD 0 (.v undef)= .sl 10 (liC r.bo):=rfl
@[go_sem] theorem Axp:((fiC r ov f lv gv xv first).drop 11).getD 0 (.v undef)=ov:=rfl
@[go_sem] theorem Axq:((fiC r ov f lv gv xv first).drop 12).take 4=f.cs:=rfl
@[go_sem] theorem Axr:((fiC r ov f lv gv xv first).drop 16).getD 0 (.v undef)=lv:=rfl
@[go_sem] theorem Axs:((fiC r ov f lv gv xv first).drop 17).getD 0 (.v undef)=gv:=rfl
@[go_sem] theorem Axt:((fiC r ov f lv gv xv first).drop 18).getD 0 (.v undef)=xv:=rfl
@[go_sem] theorem Axu:((fiC r ov f lv gv xv first).drop 19).getD 0 (.v undef)=int first:=rfl
@[go_sem] theorem Avg:(fiC r ov f lv gv xv first).getD 10 (.v undef)= .sl 10 (liC r.bo):=rfl
@[go_sem] theorem Avh:(fiC r ov f lv gv xv first).getD 11 (.v undef)=ov:=rfl
@[go_sem] theorem Avi:(fiC r ov f lv gv xv first).getD 16 (.v undef)=lv:=rfl
@[go_sem] theorem Avj:(fiC r ov f lv gv xv first).getD 17 (.v undef)=gv:=rfl
@[go_sem] theorem Avk:(fiC r ov f lv gv xv first).getD 18 (.v undef)=xv:=rfl
@[go_sem] theorem Avl:(fiC r ov f lv gv xv first).getD 19 (.v undef)=int first:=rfl
@[go_sem] theorem Avf(y:AV):Az (fiC r ov f lv gv xv first) 18 [y]=fiC r ov f lv gv y first:=rfl
end
def EI(β σ:St)(x:Nat)(r:Rl)(ord:List Nat)(f:Fa)(l:List Fa)(first:Int)(got:List Fa)(out:List (List Fa)):Prop:=
 ∃gb lo es,σ x=some (.cells (fiC r (.sl 1 (inC (Iz ord))) f (.sl 4 (faC l)) (slv gb got.length got.length) lo first))∧σ gb=some (.rows 4 (faC got) false got.length)∧
  Ow 1 σ lo es∧es.length=out.length∧(∀i (h:i<out.length),∃v,es.getD i []=[v]∧Ow 4 σ v (faC out[i])∧¬Own v gb∧∀x,Own v x→β x=none)∧(∀y o,β y=some o→σ y=some o∧y≠x∧y≠gb∧¬Own lo y)∧lo≠.fsl 1 []
theorem EI.sub{β σ σ':St}{x:Nat}{r:Rl}{ord:List Nat}{f:Fa}{l:List Fa}{first:Int}{got:List Fa}{out:List (List Fa)}(h:EI β σ x r ord f l first got out)(hs:∀y o,σ y=some o→σ' y=some o):EI β σ' x r ord f l first got out:=by
 obtain⟨gb,lo,es,h1,h2,h3,h4,h5,h6,h7⟩:=h;exact⟨gb,lo,es,hs _ _ h1,hs _ _ h2,h3.sub hs,h4,fun i hi=>(by obtain⟨v,k1,k2,k3⟩:=h5 i hi;exact⟨v,k1,k2.sub hs,k3⟩),fun y o hy=>⟨hs _ _ (h6 y o hy).1,(h6 y o hy).2⟩,h7⟩
theorem An1{ho:Tm}{bo:List Li}{cand:Nat→List Fa}(k:Nat)(o:List Nat)(env:List Bi)(got:List Fa)(i:Nat)(l:List Fa)(hl:l=cand k):(l.take i).flatMap (fun x=>match Be ho (bo.getD k .zero) x env with
  |some e=>Ce ho bo cand o e (got.set k x)
  |none=>[])++(l.drop i).flatMap (fun x=>match Be ho (bo.getD k .zero) x env with
  |some e=>Ce ho bo cand o e (got.set k x)
  |none=>[])=Ce ho bo cand (k::o) env got:=by
 rw[←List.flatMap_append,List.take_append_drop,hl];rfl
theorem An6{l:List Fa}{i:Nat}{y:Fa}:(faC l).set i y.cs=faC (l.set i y):=by simp[faC,List.map_set]
theorem EI.put{β σ:St}{x:Nat}{r:Rl}{ord:List Nat}{f:Fa}{l:List Fa}{first:Int}{got:List Fa}{out:List (List Fa)}{gb:Nat}{lo:AV}{es:List (List AV)}(i:Nat)(y:Fa)(h1:σ x=some (.cells (fiC r (.sl 1 (inC (Iz ord))) f (.sl 4 (faC l)) (slv gb got.length got.length) lo first)))(h2:σ gb=some (.rows 4 (faC got) false got.length))
  (h3:Ow 1 σ lo es) (h4:es.length=out.length) (h5:∀i (h:i<out.length),∃v,es.getD i []=[v]∧Ow 4 σ v (faC out[i])∧¬Own v gb∧∀x,Own v x→β x=none) (h6:∀y o,β y=some o→σ y=some o∧y≠x∧y≠gb∧¬Own lo y) (h7:lo≠.fsl 1 []):
  EI β (σ.set gb (.rows 4 (faC (got.set i y)) false got.length)) x r ord f l first (got.set i y) out:=by
 have hxg:x≠gb:=fun e=>by subst e;rw[h1]at h2;cases h2
 have nog:¬Own lo gb:=fun ho=>by
  obtain⟨c,hc⟩:=h3.lat.own_rows ho;rw[h2]at hc;cases hc
 have e:(got.set i y).length=got.length:=by simp
 refine⟨gb,lo,es,by rw[Ag hxg,e];exact h1,by rw[e];exact Ab,h3.keep fun z o hz ho=>?_,h4,fun j hj=>?_,fun z o hz=>?_,h7⟩
 ·rw[Ag (fun e=>by subst e;exact nog ho)];exact hz
 ·obtain⟨v,v1,v2,v3⟩:=h5 j hj
  exact⟨v,v1,v2.keep fun z o hz ho=>by rw[Ag (fun e=>by subst e;exact v3.1 ho)];exact hz,v3⟩
 ·obtain⟨w1,w2,w3,w4⟩:=h6 z o hz
  exact⟨by rw[Ag w3];exact w1,w2,w3,w4⟩
section
variable{β σ:St}{x:Nat}
theorem An0(r:Rl)(ord:List Nat)(first:Int)(f:Fa)(l:List Fa)(hr:r.S3)(hf:f.Sm)(hl:l.length≤1000000)(hls:∀y∈l,y.Sm)(ho:ord.length≤300)(hon:ord.Nodup)(hob:∀k∈ord,k<r.bo.length):
  ∀(m k:Nat) {β σ:St} {env:List Bi} {got:List Fa} {out:List (List Fa)},k+m=ord.length→got.length=r.bo.length→env.length≤10+302*k→EI β σ x r ord f l first got out→out.length+(Ce r.ho r.bo (Ca first f l) (ord.drop k) env got).length≤1000000→
  AT Tryz.prog 101 [ptr x,int k,.sl 4 (biC env)] σ fun _ σ'=>∃got',got'.length=got.length∧(∀i,i∉ord.drop k→got'[i]? =got[i]?)∧EI β σ' x r ord f l first got' (out++Ce r.ho r.bo (Ca first f l) (ord.drop k) env got):=by
 intro m
 induction m with
 |zero=>
  intro k β σ env got out hk hg he h hb;have hd:ord.drop k=[]:=List.drop_of_length_le (by omega);rw[hd]at hb⊢;have hb:out.length+1≤1000000:=by simpa[Ce]using hb
  obtain⟨gb,lo,es,h1,h2,h3,h4,h5,h6,h7⟩:=h;refine AT.ob Tryz.func101 rfl ?_;have dd:=decide_eq_true (show(k:Int)=ord.length by omega);simp only[go_sem,h1,Ip,dd];refine Af [.rd 0 false,.rd 1 false,.rd 2 false,.rd 3 false,.rd 4 true,.rd 5 false,.rd 6 false,.rd 7 false,.rd 8 true,.ef 9 [4],.rd 10 false,.ef 11 [],.rd 12 false,.rd 13 false,.ef 14 []] ?_;simp only[go_sem,h1];have hr1:=hr.1;refine(Agr got (by omega) ⟨gb,_,rfl,h2⟩).mono ?_;rintro rv σ1 ⟨k1,k2,k3⟩;simp only[go_sem,k2.sub _ _ h1,k1.lat.cells,k1.lat.one];have h3':=h3.sub k2.sub;refine Ap (ys:=[[rv]]) (by rfl) (by decide) (by decide) (by decide) (Ow.of_app h3'.lat (by simp) (by simp only[List.length_nil,List.length_cons];omega) fun lo' σ2 g1 g2 g3=>?_);have hx2:=(g2 _ _ (k2.sub _ _ h1) (h3'.lat.not_own (k2.sub _ _ h1)));simp only[go_sem,hx2.1,g1.lat.cells,g1.lat.one];have nog:¬Own lo gb:=fun ho=>by
   obtain⟨c,hc⟩:=h3.lat.own_rows ho;rw[h2]at hc;cases hc
  have hg2:=g2 _ _ (k2.sub _ _ h2) nog;have nrv:∀y,Own rv y→¬Own lo' y:=fun y ho ho'=>by
   obtain⟨c,hc⟩:=g3 y ho';obtain⟨c',hc'⟩:=k1.lat.own_rows ho;by_cases hlo:Own lo y
   ·obtain⟨c'',hc''⟩:=h3'.lat.own_rows hlo
    rw[hc']at hc'';cases hc''
   ·rw[(g2 _ _ hc' hlo).1]at hc;cases hc
  have keep:∀y o,σ1 y=some o→¬Own lo y→y≠x→(σ2.set x (.cells (fiC r (.sl 1 (inC (Iz ord))) f (.sl 4 (faC l)) (slv gb got.length got.length) lo' first))) y=some o:=fun y o hy ho hne=>by
   rw[Ag hne];exact(g2 _ _ hy ho).1
  have nlo:∀{v:AV} {es':List (List AV)},LAt 4 σ1 v es'→∀y,Own v y→¬Own lo y∧y≠x:=fun hv y hy=>by
   obtain⟨c,hc⟩:=hv.own_rows hy;refine⟨fun ho=>?_,fun e=>?_⟩
   ·obtain⟨c',hc'⟩:=h3'.lat.own_rows ho
    rw[hc]at hc';cases hc'
   ·subst e
    rw[k2.sub _ _ h1]at hc;cases hc
  refine Ae (r:=.tup []) rfl ⟨got,rfl,fun _ _=>rfl,gb,lo',es++[[rv]],Ab,?_,?_,?_,?_,?_,?_⟩
  ·rw[Ag (fun e=>by subst e;rw[h1]at h2;cases h2)];exact hg2.1
  ·exact g1.keep fun y o hy ho=>by
    rw[Ag (fun e=>by subst e;exact hx2.2 ho)];exact hy
  ·simp[Ce,h4]
  ·intro i hi
   by_cases e:i<out.length
   ·obtain⟨v,v1,v2,v3⟩:=h5 i e
    have v2':=v2.sub k2.sub;refine⟨v,?_,?_,v3⟩
    ·rw[List.getD_eq_getElem?_getD,List.getElem?_append_left (by omega)]
     rw[List.getD_eq_getElem?_getD]at v1;exact v1
    ·rw[List.getElem_append_left e]
     exact v2'.keep fun y o hy ho=>keep y o hy (nlo v2'.lat y ho).1 (nlo v2'.lat y ho).2
   ·have e2:i=out.length:=by simp[Ce]at hi;omega
    subst e2;refine⟨rv,?_,?_,fun ho=>?_,fun y hy=>?_⟩
    ·rw[List.getD_eq_getElem?_getD,List.getElem?_append_right (by omega),h4];simp
    ·rw[List.getElem_append_right (by omega)]
     simp only[Ce,Nat.sub_self,List.getElem_cons_zero];exact k1.keep fun y o hy ho=>keep y o hy (nlo k1.lat y ho).1 (nlo k1.lat y ho).2
    ·rw[k3 _ ho]at h2;cases h2
    ·exact Df (fun y o hy=>(h6 y o hy).1) (k3 _ hy)
  ·intro y o hy
   obtain⟨w1,w2,w3,w4⟩:=h6 y o hy;have:=g2 _ _ (k2.sub _ _ w1) w4;exact⟨keep y o (k2.sub _ _ w1) w4 w2,w2,w3,this.2⟩
  ·rcases g1 with⟨e,_⟩|⟨b,c,rfl,_⟩
   ·simp at e
   ·intro e;cases e
 |succ m ih=>
  intro k β σ env got out hk hg he h hb;obtain⟨gb,lo,es,h1,h2,h3,h4,h5,h6,h7⟩:=h;have h:EI β σ x r ord f l first got out:=⟨gb,lo,es,h1,h2,h3,h4,h5,h6,h7⟩;refine AT.ob Tryz.func101 rfl ?_;have dd:=decide_eq_false (show¬(k:Int)=ord.length by omega);have hko:k<ord.length:=by omega
  obtain⟨at',hat⟩:∃a,a=ord[k]:=⟨_,rfl⟩;have hkb:at'<r.bo.length:=by rw[hat];exact hob _ (List.getElem_mem hko)
  have hlk:=hr.2 _ (List.getElem_mem hkb);have ek:(inC (Iz ord)).getD k []=[int (at':Nat)]:=by
   rw[Xj (by rw[Ip];exact hko),hat];simp[Iz]
  have ed:ord.drop k=at'::ord.drop (k+1):=by rw[hat];exact List.drop_eq_getElem_cons hko
  obtain⟨cd,hcd⟩:∃cd,cd=Ca first f l at':=⟨_,rfl⟩;have hcl:cd.length≤1000000:=by
   rw[hcd];unfold Ca;split
   ·simp
   ·exact hl
  have hcs:∀y∈cd,y.Sm:=by
   rw[hcd];unfold Ca;split
   ·intro y hy;rw[List.mem_singleton.1 hy];exact hf
   ·exact hls
  simp only[go_sem,h1,Ip,dd,ek];refine⟨by omega,?_⟩;refine C0 (fun fr σ'=>∃lc,(lc= .sl 4 (faC cd)∨lc= .fsl 4 (faC cd))∧σ'=σ∧fr 0=ptr x∧fr 1=int k∧fr 2= .sl 4 (biC env)∧fr 6=int at'∧fr 7=lc) (fun h0=>?_) (fun h0=>?_) ?_
  ·have e:cd=[f]:=by rw[hcd];unfold Ca;rw[if_pos h0]
   simp only[go_sem,h1];refine⟨.fsl 4 (faC cd),.inr rfl,?_⟩;rw[e]
   try (and_intros<;>first|assumption|rfl|omega)
  ·have e:cd=l:=by rw[hcd];unfold Ca;rw[if_neg h0]
   simp only[go_sem];refine⟨.sl 4 (faC cd),.inl rfl,?_⟩;rw[e]
   try (and_intros<;>first|assumption|rfl|omega)
  rintro fr σ' ⟨lc,hlc,rfl,f0,f1,f2,f6,f7⟩;have hR:∀σ'',Rd 4 σ'' lc (faC cd):=fun σ''=>by
   rcases hlc with rfl|rfl
   ·exact .sl
   ·exact .of .full
  simp only[go_sem,Aa,f7,(hR σ').len,Aj];rw[ed]at hb⊢;have hge:=fun i=>An1 (ho:=r.ho) (bo:=r.bo) (cand:=Ca first f l) at' (ord.drop (k+1)) env got i cd hcd;obtain⟨G,hG⟩:∃G:Fa→List (List Fa),G=fun x=>match Be r.ho (r.bo.getD at' .zero) x env with
   |some e=>Ce r.ho r.bo (Ca first f l) (ord.drop (k+1)) e (got.set at' x)
   |none=>[]:=⟨_,rfl⟩
  simp only[←hG]at hge;have hat2:at'∉ord.drop (k+1):=by
   have:=hon.sublist (List.drop_sublist k ord);rw[ed]at this;exact(List.nodup_cons.1 this).1
  refine⟨fun mm fr σ''=>∃(i:Nat) (got':List Fa),mm=cd.length-i∧i≤cd.length∧got'.length=got.length∧(∀j,j∉at'::ord.drop (k+1)→got'[j]? =got[j]?)∧EI β σ'' x r ord f l first got' (out++(cd.take i).flatMap G)∧fr 0=ptr x∧fr 1=int k∧fr 2= .sl 4 (biC env)∧fr 6=int at'∧fr 55=lc∧fr 56=int cd.length∧fr 57=int i,⟨_,0,got,rfl,by omega,rfl,fun _ _=>rfl,by simpa using h,f0,f1,f2,f6,rfl,rfl,rfl⟩,?_⟩;clear f0 f1 f2 f6 f7 fr h h1 h2 h3 h4 h5 h6 h7 gb lo es;rintro mm fr σ1 ⟨i,got',rfl,hi,hg',hgo,hE,f0,f1,f2,f6,f55,f56,f57⟩;simp only[go_sem,f56,f57];refine aIf_by (fun hlt=>?_) (fun hlt=>?_)
  ·have hic:i<cd.length:=by omega
   obtain⟨gb,lo,es,h1,h2,h3,h4,h5,h6,h7⟩:=hE;have hE:EI β σ1 x r ord f l first got' (out++(cd.take i).flatMap G):=⟨gb,lo,es,h1,h2,h3,h4,h5,h6,h7⟩;simp only[go_sem,Aa,f55,f57];refine(hR σ1).elem (by omega) (by rw[Aj];omega) fun e he=>?_;simp only[go_sem,Aa];refine he.load (by decide) (by rw[Int.toNat_natCast,Aq hic];exact Nat.le_refl 4) ?_;simp only[go_sem,Aa,Aq hic];refine Ctx.nil.alloc fun t9 σ2 c1=>?_;obtain⟨σ3,e3,c2⟩:=c1.abs 0 rfl (.cells cd[i].cs);have hx3:=c2.sub _ _ h1;simp only[go_sem,Aa,c1.g0,e3];refine Af [.rd 0 false,.rd 1 false,.rd 2 false,.rd 3 false,.rd 4 true,.rd 5 false,.rd 6 false,.rd 7 false,.rd 8 false,.rd 9 true,.rd 10 false,.rd 11 false,.rd 12 true,.rd 13 true,.rd 14 false,.ef 15 [],.rd 16 false,.rd 17 false,.rd 18 false,.rd 19 false,.rd 20 false] ?_;simp only[go_sem,Aa,f0,f2,f6,hx3,c2.g0,D6 hkb];refine⟨by omega,(Akl r.ho r.bo[at'] cd[i] env (by omega) (by omega)).p ?_⟩;have hgi:G cd[i]=match Be r.ho r.bo[at'] cd[i] env with
    |some e=>Ce r.ho r.bo (Ca first f l) (ord.drop (k+1)) e (got.set at' cd[i])
    |none=>[]:=by rw[hG];simp only;rw[Akg hkb]
   have htk:(cd.take (i+1)).flatMap G=(cd.take i).flatMap G++G cd[i]:=by
    rw[List.take_add_one,List.getElem?_eq_getElem hic,List.flatMap_append];simp
   cases hv:Be r.ho r.bo[at'] cd[i] env with
   |none=>
    rw[hv]at hgi;simp only at hgi;simp only[go_sem,Aa,f0,f1,f2,f6,f55,f56,f57,As i (by omega)];refine⟨cd.length-(i+1),by omega,i+1,got',?_⟩;have hE':EI β σ3 x r ord f l first got' (out++(cd.take (i+1)).flatMap G):=by
     rw[htk,hgi,List.append_nil];exact hE.sub c2.sub
    (and_intros<;>first|assumption|rfl|omega)
   |some e2=>
    rw[hv]at hgi;simp only at hgi;have hel:=O8 hv;have hg3:=c2.sub _ _ h2;simp only[go_sem,Aa];refine Af [.rd 0 false,.rd 1 false,.rd 2 false,.rd 3 true,.rd 4 false,.rd 5 true,.rd 6 false,.ef 7 []] ?_;have hag:at'<got'.length:=by omega
    have hae:=Fa.app cd[i] got'[at'];simp only[go_sem,Aa,f0,f1,f6,hx3,c2.g0,hg3,As k (by omega),Aq hag,An6];refine⟨by omega,hag,?_⟩;have hE3:=(EI.put at' cd[i] hx3 hg3 (h3.sub c2.sub) h4 (fun j hj=>(by obtain⟨v,k1,k2,k3⟩:=h5 j hj;exact⟨v,k1,k2.sub c2.sub,k3⟩)) (fun y o hy=>⟨c2.sub _ _ (h6 y o hy).1,(h6 y o hy).2⟩) h7);have hgeq:Ce r.ho r.bo (Ca first f l) (ord.drop (k+1)) e2 (got'.set at' cd[i])=Ce r.ho r.bo (Ca first f l) (ord.drop (k+1)) e2 (got.set at' cd[i]):=by
     refine Zv _ _ _ _ (by simp[hg']) fun j hj=>?_;by_cases e:at'=j
     ·subst e
      simp[List.getElem?_set,hag,hg',show at'<got.length by omega]
     ·rw[List.getElem?_set_ne e,List.getElem?_set_ne e]
      exact hgo j (by simp[hj,Ne.symm e])
    have hlen:((out++(cd.take i).flatMap G).length+(Ce r.ho r.bo (Ca first f l) (ord.drop (k+1)) e2 (got'.set at' cd[i])).length)≤1000000:=by
     rw[hgeq,←hgi];have h1:=congrArg List.length (hge (i+1));rw[htk]at h1;simp only[List.length_append]at h1⊢;omega
    refine(ih (k+1) (by omega) (by simp[hg',hg]) (by omega) hE3 hlen).mono ?_;rintro _ σ5 ⟨got2,q1,q2,q3⟩;simp only[go_sem,Aa,f0,f1,f2,f6,f55,f56,f57,As i (by omega)];refine⟨cd.length-(i+1),by omega,i+1,got2,?_⟩;have z1:got2.length=got.length:=by rw[q1];simp[hg']
    have z2:∀j,j∉at'::ord.drop (k+1)→got2[j]? =got[j]? :=fun j hj=>by
     rw[List.mem_cons,not_or]at hj;rw[q2 j hj.2,List.getElem?_set_ne (Ne.symm hj.1)];exact hgo j (by simp[hj])
    have z3:EI β σ5 x r ord f l first got2 (out++(cd.take (i+1)).flatMap G):=by
     rw[htk,hgi,←hgeq,←List.append_assoc];exact q3
    (and_intros<;>first|assumption|rfl|omega)
  ·simp only[go_sem,Aa]
   rw[List.take_of_length_le (by omega)]at hE;refine Ae (r:=.tup []) rfl ⟨got',hg',hgo,?_⟩;have:=hge cd.length;rw[List.take_of_length_le (by omega),List.drop_of_length_le (by omega)]at this;rw[←this];simpa using hE
end
end Go.Proofs.YtmifmncabejffaaGreat
namespace Go.Proofs.YtmifmncabejffaaGreat.L
open Go Go.Av Go.Sort
section
variable{α:Type}{en:α→List AV}(hl:∀x,(en x).length=1)(ho:∀x,(en x).all AV.one=true)(hce:∀x,((en x).getD 0 (.v undef)).cells=en x){e:α→α→Bool}{g:Nat}{β:St}(hC:∀σ',(∀x o,β x=some o→σ' x=some o)→∀x y,AT Tryz.prog g [(en x).getD 0 (.v undef),(en y).getD 0 (.v undef)] σ' fun r σ''=>r=boo (e x y)∧σ''=σ')
variable{b cap:Nat}(hn:β b=none)
include hl ho hce hC hn
abbrev Amn:=Tryz.func104
abbrev Hu:Nat:=1
noncomputable abbrev Ad2:=Tryz.f104
theorem compact_at{σ:St}{l:List α}(hb:σ b=some (.rows 1 (l.map en) false cap))(hs:∀x o,β x=some o→σ x=some o)(hcap:l.length≤cap)(hsz:l.length≤1000000000000):AT Tryz.prog 104 [slv b l.length cap,fnv g] σ fun r σ'=>r=slv b (Gm e l).length cap∧σ'=σ.set b (.rows 1 ((Gm e l).map en) false cap):=by
 have zh1:Hu=1:=rfl;exact rqq19
end
section
variable{α:Type}[Inhabited α]{en:α→List AV}(hl:∀x,(en x).length=1)(ho:∀x,(en x).all AV.one=true)(hce:∀x,((en x).getD 0 (.v undef)).cells=en x){cf:α→α→Int}{g:Nat}{β:St}(hC:∀σ',(∀x o,β x=some o→σ' x=some o)→∀x y,AT Tryz.prog g [(en x).getD 0 (.v undef),(en y).getD 0 (.v undef)] σ' fun r σ''=>r=int (cf x y)∧σ''=σ')
variable{σ:St}{b cap:Nat}{d:Array α}(hb:σ b=some (.rows 1 (rw' en d) false cap))(hn:β b=none)(hs:∀x o,β x=some o→σ x=some o){n:Nat}(hd:d.size=n)(hsz:n≤1000000000000)
include hl ho hce hC hb hn hs hd hsz
abbrev Aro:=Tryz.func199
abbrev Ro:Nat:=1
theorem Ih{a e:Nat}(he:e≤n)(ha:a≤n):AT Tryz.prog 199 [slv b n cap,int a,int e,fnv g] σ fun _ σ'=>σ'=σ.set b (.rows 1 (rw' en (insertionSort (ltc cf) d a e)) false cap):=by
 have zh1:Ro=1:=rfl;exact rqq1
end
section
variable{α:Type}[Inhabited α]{en:α→List AV}(hl:∀x,(en x).length=1)(ho:∀x,(en x).all AV.one=true)(hce:∀x,((en x).getD 0 (.v undef)).cells=en x){cf:α→α→Int}{g:Nat}{β:St}(hC:∀σ',(∀x o,β x=some o→σ' x=some o)→∀x y,AT Tryz.prog g [(en x).getD 0 (.v undef),(en y).getD 0 (.v undef)] σ' fun r σ''=>r=int (cf x y)∧σ''=σ')
variable{σ:St}{b cap:Nat}{d:Array α}(hb:σ b=some (.rows 1 (rw' en d) false cap))(hn:β b=none)(hs:∀x o,β x=some o→σ x=some o){n:Nat}(hd:d.size=n)(hsz:n≤1000000000000)
include hl ho hce hC hb hn hs hd hsz
abbrev Arp:=Tryz.func228
abbrev Abu:Nat:=1
theorem Ya{lo hi f:Nat}(hf:f+hi≤n)(hlo:lo≤n):AT Tryz.prog 228 [slv b n cap,int lo,int hi,int f,fnv g] σ fun _ σ'=>σ'=σ.set b (.rows 1 (rw' en (siftDown (ltc cf) hi f lo d)) false cap):=by
 have zh1:Abu=1:=rfl;exact rqq2
omit hl ho hce hC hb hn hs hd hsz in
theorem J5{lt:α→α→Bool}{hi f:Nat}:∀(m r:Nat) (d:Array α),hi-r≤m→(siftDown lt hi f r d).size=d.size
 |0,r,d,h=>by rw[J6 (by omega)]
 |m+1,r,d,h=>by
  by_cases h1:2*r+1<hi
  ·have hc:=Aby (lt:=lt) (f:=f) (d:=d) h1
   rw[Q6 h1];split
   ·rw[J5 m _ _ (by omega),C3]
   ·rfl
  ·rw[J6 h1]
abbrev Arq:=Tryz.func200
abbrev Uy:Nat:=1
theorem Xi{a e:Nat}(he:e≤n)(ha:a<e):AT Tryz.prog 200 [slv b n cap,int a,int e,fnv g] σ fun _ σ'=>σ'=σ.set b (.rows 1 (rw' en (heapSort (ltc cf) d a e)) false cap):=by
 have zh1:Uy=1:=rfl;exact rqq3
omit hl ho hce hC hb hn hs hd hsz in
theorem Alp{i j:Nat}{d:Array α}:reverseLoop i j d=if i<j then reverseLoop (i+1) (j-1) (swp d i j)else d:=by rw[reverseLoop]
abbrev Arr:=Tryz.func203
abbrev Agi:Nat:=1
omit hC hn hs in
theorem Adg{a e:Nat}(he:e≤n)(ha:a<e):AT Tryz.prog 203 [slv b n cap,int a,int e,fnv g] σ fun _ σ'=>σ'=σ.set b (.rows 1 (rw' en (reverseRange d a e)) false cap):=by
 have zh1:Agi=1:=rfl;exact rqq4
end
def Ri:Hint→Int
 | .unknown=>0
 | .increasing=>1
 | .decreasing=>2
section
variable{α:Type}[Inhabited α]{en:α→List AV}(hl:∀x,(en x).length=1)(ho:∀x,(en x).all AV.one=true)(hce:∀x,((en x).getD 0 (.v undef)).cells=en x){cf:α→α→Int}{g:Nat}{β:St}(hC:∀σ',(∀x o,β x=some o→σ' x=some o)→∀x y,AT Tryz.prog g [(en x).getD 0 (.v undef),(en y).getD 0 (.v undef)] σ' fun r σ''=>r=int (cf x y)∧σ''=σ')
variable{σ:St}{b cap:Nat}{d:Array α}(hb:σ b=some (.rows 1 (rw' en d) false cap))(hn:β b=none)(hs:∀x o,β x=some o→σ x=some o){n:Nat}(hd:d.size=n)(hsz:n≤1000000000000)
variable{p:Nat}(hpb:p≠b)(hpn:β p=none)
theorem Gx{lt:α→α→Bool}{a c m k:Nat}(ha:a<m)(hc:c<m):(order2 lt d a c k).1<m∧(order2 lt d a c k).2.1<m∧(order2 lt d a c k).2.2≤k+1:=by
 unfold order2;split
 ·exact⟨hc,ha,Nat.le_refl _⟩
 ·exact⟨ha,hc,Nat.le_succ _⟩
theorem Vs{lt:α→α→Bool}{a c e m k:Nat}(ha:a<m)(hc:c<m)(he:e<m):(median lt d a c e k).1<m∧(median lt d a c e k).2≤k+3:=by
 exact rqq5
include hl ho hce hC hb hn hs hd hsz hpb hpn
abbrev Ars:=Tryz.func239
theorem Mn{a c k:Nat}(ha:a<n)(hc:c<n)(hk:k≤1000)(hp:σ p=some (.cells [int k])):AT Tryz.prog 239 [slv b n cap,int a,int c,ptr p,fnv g] σ fun r σ'=>r= .tup [int (order2 (ltc cf) d a c k).1,int (order2 (ltc cf) d a c k).2.1]∧σ'=σ.set p (.cells [int (order2 (ltc cf) d a c k).2.2]):=by
 exact rqq6
abbrev Art:=Tryz.func232
theorem Mj{a c e k:Nat}(ha:a<n)(hc:c<n)(he:e<n)(hk:k≤990)(hp:σ p=some (.cells [int k])):AT Tryz.prog 232 [slv b n cap,int a,int c,int e,ptr p,fnv g] σ fun r σ'=>r=int (median (ltc cf) d a c e k).1∧σ'=σ.set p (.cells [int (median (ltc cf) d a c e k).2]):=by
 exact rqq7
abbrev Aru:=Tryz.func231
theorem Mi{a k:Nat}(ha:1≤a)(ha2:a+1<n)(hk:k≤990)(hp:σ p=some (.cells [int k])):AT Tryz.prog 231 [slv b n cap,int a,ptr p,fnv g] σ fun r σ'=>r=int (medianAdjacent (ltc cf) d a k).1∧σ'=σ.set p (.cells [int (medianAdjacent (ltc cf) d a k).2]):=by
 exact rqq8
abbrev Arv:=Tryz.func202
abbrev Agj:Nat:=1
omit hpb hpn in
theorem T5{a e:Nat}(he:e≤n)(ha:a+12<e):AT Tryz.prog 202 [slv b n cap,int a,int e,fnv g] σ fun r σ'=>r= .tup [int (choosePivot (ltc cf) d a e).1,int (Ri (choosePivot (ltc cf) d a e).2)]∧σ'=σ:=by
 have zh1:Agj=1:=rfl;exact rqq9
end
section
variable{α:Type}[Inhabited α]{en:α→List AV}(hl:∀x,(en x).length=1)(ho:∀x,(en x).all AV.one=true)(hce:∀x,((en x).getD 0 (.v undef)).cells=en x){cf:α→α→Int}{g:Nat}
variable{σ:St}{b cap:Nat}{d:Array α}(hb:σ b=some (.rows 1 (rw' en d) false cap)){n:Nat}(hd:d.size=n)(hsz:n≤1000000000000)
def brk(d:Array α)(a len m i0:Nat):Nat→UInt64×Array α
 |0=>(UInt64.ofNat len,d)
 |j+1=>breakStep a len m (brk d a len m i0 j) (i0+j)
theorem Xx{len:Nat}(h:0<len):1<<<bitsLen len≤2*len:=by
 unfold bitsLen;rw[if_neg (by omega),Nat.one_shiftLeft,Nat.pow_succ];have:=Nat.log2_self_le (n:=len) (by omega);omega
theorem Ain{a e:Nat}(h:8≤e-a):breakPatterns d a e=(brk d a (e-a) (1<<<bitsLen (e-a)) (a+(e-a)/4*2-1) 3).2:=by
 unfold breakPatterns;simp only[ge_iff_le,h,if_true];rfl
theorem Aqa{x y:Nat}(hx:x<18446744073709551616)(hy:y<18446744073709551616):band .u64 (x:Int) (y:Int)=((x&&&y:Nat):Int):=by
 exact rqq10
def oth(len m:Nat)(s:UInt64):Nat:=if len≤(s.toNat&&&(m-1))then(s.toNat&&&(m-1))-len else s.toNat&&&(m-1)
theorem Alf{len:Nat}{s:UInt64}(h:0<len):oth len (1<<<bitsLen len) s<len:=by
 have h1:=Xx h;have h2:s.toNat&&&(1<<<bitsLen len-1)≤1<<<bitsLen len-1:=Nat.and_le_right;unfold oth;split<;>omega
include hl ho hce hb hd hsz
abbrev Ami:=Tryz.func201
abbrev Re:Nat:=1
theorem Su{a e:Nat}(he:e≤n)(ha:a+8≤e):AT Tryz.prog 201 [slv b n cap,int a,int e,fnv g] σ fun _ σ'=>σ'=σ.set b (.rows 1 (rw' en (breakPatterns d a e)) false cap):=by
 have zh1:Re=1:=rfl;exact rqq11
end
section
variable{α:Type}[Inhabited α]{en:α→List AV}(hl:∀x,(en x).length=1)(ho:∀x,(en x).all AV.one=true)(hce:∀x,((en x).getD 0 (.v undef)).cells=en x){cf:α→α→Int}{g:Nat}{β:St}(hC:∀σ',(∀x o,β x=some o→σ' x=some o)→∀x y,AT Tryz.prog g [(en x).getD 0 (.v undef),(en y).getD 0 (.v undef)] σ' fun r σ''=>r=int (cf x y)∧σ''=σ')
variable{σ:St}{b cap:Nat}{d:Array α}(hb:σ b=some (.rows 1 (rw' en d) false cap))(hn:β b=none)(hs:∀x o,β x=some o→σ x=some o){n:Nat}(hd:d.size=n)(hsz:n≤1000000000000)
theorem Af2{lt:α→α→Bool}{d:Array α}{e i:Nat}:scanSorted lt d e i=if i<e∧lt d[i]! d[i-1]! =false then scanSorted lt d e (i+1)else i:=by
 rw[scanSorted];by_cases h:i<e<;>cases h2:lt d[i]! d[i-1]! <;>simp[h]
theorem Arl{lt:α→α→Bool}{d:Array α}{e j:Nat}:shiftUp lt e j d=if j<e∧lt d[j]! d[j-1]! =true then shiftUp lt e (j+1) (swp d j (j-1))else d:=by
 rw[shiftUp];by_cases h:j<e<;>cases h2:lt d[j]! d[j-1]! <;>simp[h]
def pst(lt:α→α→Bool)(a e:Nat)(i:Nat)(d:Array α):Array α:=
 let d1:=swp d i (i-1)
 let d2:=if 2≤i-a then shiftDown lt (i-1) d1 else d1
 if 2≤e-i then shiftUp lt e (i+1) d2 else d2
theorem Alj{lt:α→α→Bool}{a e s i:Nat}{d:Array α}:partialIns lt a e (s+1) i d=if scanSorted lt d e i=e then(d,true)else if e-a<50 then(d,false)else partialIns lt a e s (scanSorted lt d e i) (pst lt a e (scanSorted lt d e i) d):=rfl
include hl ho hce hC hb hn hs hd hsz
abbrev Amj:=Tryz.func204
abbrev Iy:Nat:=1
theorem Nw{a e:Nat}(he:e≤n)(ha:a<e):AT Tryz.prog 204 [slv b n cap,int a,int e,fnv g] σ fun r σ'=>r=boo (partialInsertionSort (ltc cf) d a e).2∧σ'=σ.set b (.rows 1 (rw' en (partialInsertionSort (ltc cf) d a e).1) false cap):=by
 have zh1:Iy=1:=rfl;exact rqq12
end
section
variable{α:Type}[Inhabited α]{en:α→List AV}(hl:∀x,(en x).length=1)(ho:∀x,(en x).all AV.one=true)(hce:∀x,((en x).getD 0 (.v undef)).cells=en x){cf:α→α→Int}{g:Nat}{β:St}(hC:∀σ',(∀x o,β x=some o→σ' x=some o)→∀x y,AT Tryz.prog g [(en x).getD 0 (.v undef),(en y).getD 0 (.v undef)] σ' fun r σ''=>r=int (cf x y)∧σ''=σ')
variable{σ:St}{b cap:Nat}{d:Array α}(hb:σ b=some (.rows 1 (rw' en d) false cap))(hn:β b=none)(hs:∀x o,β x=some o→σ x=some o){n:Nat}(hd:d.size=n)(hsz:n≤1000000000000)
theorem Yi{p:α→Bool}{d:Array α}{j i:Nat}:scanUp p d j i=if i≤j∧p d[i]! =true then scanUp p d j (i+1)else i:=by
 rw[scanUp];by_cases h:i≤j<;>cases h2:p d[i]! <;>simp[h]
theorem X9{p:α→Bool}{d:Array α}{i j:Nat}(hi:1≤i):scanDown p d i j=if i≤j∧p d[j]! =true then scanDown p d i (j-1)else j:=by
 cases j with
 |zero=>rw[scanDown,if_neg (fun h=>by omega)]
 |succ k=>
  rw[scanDown];by_cases h:i≤k+1<;>cases h2:p d[k+1]! <;>simp[h]
theorem Aav{lt:α→α→Bool}{a i j i2 j2:Nat}{d:Array α}(h1:scanUp (fun x=>!lt d[a]! x) d j i=i2)(h2:scanDown (fun x=>lt d[a]! x) d i2 j=j2)(h:j2<i2):partEqLoop lt a i j d=(i2,d):=by
 rw[partEqLoop];simp only[h1,h2];rw[if_pos h]
theorem Ali{lt:α→α→Bool}{a i j i2 j2:Nat}{d:Array α}(h1:scanUp (fun x=>!lt d[a]! x) d j i=i2)(h2:scanDown (fun x=>lt d[a]! x) d i2 j=j2)(h:¬j2<i2)(hi:i≤i2)(hj:j2≤j):partEqLoop lt a i j d=partEqLoop lt a (i2+1) (j2-1) (swp d i2 j2):=by
 exact rqq13
include hl ho hce hC hb hn hs hd hsz
abbrev Amk:=Tryz.func205
abbrev L9:Nat:=1
theorem Qz{a e pv:Nat}(he:e≤n)(ha:a+2≤e)(hp:pv<n):AT Tryz.prog 205 [slv b n cap,int a,int e,int pv,fnv g] σ fun r σ'=>r=int (partitionEqual (ltc cf) d a e pv).1∧σ'=σ.set b (.rows 1 (rw' en (partitionEqual (ltc cf) d a e pv).2) false cap):=by
 have zh1:L9=1:=rfl;exact rqq14
end
section
variable{α:Type}[Inhabited α]{en:α→List AV}(hl:∀x,(en x).length=1)(ho:∀x,(en x).all AV.one=true)(hce:∀x,((en x).getD 0 (.v undef)).cells=en x){cf:α→α→Int}{g:Nat}{β:St}(hC:∀σ',(∀x o,β x=some o→σ' x=some o)→∀x y,AT Tryz.prog g [(en x).getD 0 (.v undef),(en y).getD 0 (.v undef)] σ' fun r σ''=>r=int (cf x y)∧σ''=σ')
variable{σ:St}{b cap:Nat}{d:Array α}(hb:σ b=some (.rows 1 (rw' en d) false cap))(hn:β b=none)(hs:∀x o,β x=some o→σ x=some o){n:Nat}(hd:d.size=n)(hsz:n≤1000000000000)
theorem Afs{lt:α→α→Bool}{a i j i2 j2:Nat}{d:Array α}(h1:scanUp (fun x=>lt x d[a]!) d j i=i2)(h2:scanDown (fun x=>!lt x d[a]!) d i2 j=j2)(h:j2<i2):partLoop lt a i j d=(j2,d):=by
 rw[partLoop];simp only[h1,h2];rw[if_pos h]
theorem Aq8{lt:α→α→Bool}{a i j i2 j2:Nat}{d:Array α}(h1:scanUp (fun x=>lt x d[a]!) d j i=i2)(h2:scanDown (fun x=>!lt x d[a]!) d i2 j=j2)(h:¬j2<i2)(hi:i≤i2)(hj:j2≤j):partLoop lt a i j d=partLoop lt a (i2+1) (j2-1) (swp d i2 j2):=by
 exact rqq15
theorem Afu{lt:α→α→Bool}{a e pv i2 j2:Nat}{d d0:Array α}(h0:d0=swp d a pv)(h1:scanUp (fun x=>lt x d0[a]!) d0 (e-1) (a+1)=i2)(h2:scanDown (fun x=>!lt x d0[a]!) d0 i2 (e-1)=j2)(h:j2<i2):partition lt d a e pv=(j2,true,swp d0 j2 a):=by
 unfold partition;simp only[←h0,h1,h2];rw[if_pos h]
theorem Aq9{lt:α→α→Bool}{a e pv i2 j2:Nat}{d d0:Array α}(h0:d0=swp d a pv)(h1:scanUp (fun x=>lt x d0[a]!) d0 (e-1) (a+1)=i2)(h2:scanDown (fun x=>!lt x d0[a]!) d0 i2 (e-1)=j2)(h:¬j2<i2):partition lt d a e pv=((partLoop lt a (i2+1) (j2-1) (swp d0 i2 j2)).1,false,swp (partLoop lt a (i2+1) (j2-1) (swp d0 i2 j2)).2 (partLoop lt a (i2+1) (j2-1) (swp d0 i2 j2)).1 a):=by
 exact rqq16
include hl ho hce hC hb hn hs hd hsz
abbrev Aml:=Tryz.func206
abbrev Fo:Nat:=1
theorem Po{a e pv:Nat}(he:e≤n)(ha:a+2≤e)(hp:pv<n):AT Tryz.prog 206 [slv b n cap,int a,int e,int pv,fnv g] σ fun r σ'=>r= .tup [int (partition (ltc cf) d a e pv).1,boo (partition (ltc cf) d a e pv).2.1]∧σ'=σ.set b (.rows 1 (rw' en (partition (ltc cf) d a e pv).2.2) false cap):=by
 have zh1:Fo=1:=rfl;exact rqq17
end
section
variable{α:Type}[Inhabited α]{en:α→List AV}(hl:∀x,(en x).length=1)(ho:∀x,(en x).all AV.one=true)(hce:∀x,((en x).getD 0 (.v undef)).cells=en x){cf:α→α→Int}{g:Nat}{β:St}(hC:∀σ',(∀x o,β x=some o→σ' x=some o)→∀x y,AT Tryz.prog g [(en x).getD 0 (.v undef),(en y).getD 0 (.v undef)] σ' fun r σ''=>r=int (cf x y)∧σ''=σ')
variable{b cap:Nat}(hn:β b=none){n:Nat}(hsz:n≤1000000000000)(hS:SWO (ltc cf))
include hl ho hce hC hn hsz hS
theorem Alh:∀(w:Nat) {σ:St} {d:Array α} {a e limit:Nat},e-a≤w→σ b=some (.rows 1 (rw' en d) false cap)→(∀x o,β x=some o→σ x=some o)→d.size=n→a≤e→e≤n→limit≤1000→Below (ltc cf) a e d→
  AT Tryz.prog 161 [slv b n cap,int a,int e,int limit,fnv g] σ fun _ σ'=>∃d',σ'=σ.set b (.rows 1 (rw' en d') false cap)∧PermIn a e d d'∧SortedIn (ltc cf) a e d':=by
 intro w
 induction w using Nat.strongRecOn with
 |ind w ih=>
 intro σ d a e limit hw hb hs hd hae he hlim hB;refine AT.ob Tryz.func161 rfl ?_;simp only[go_sem,Aa];refine⟨fun m fr σ'=>∃(p q lim:Nat) (wb wp:Bool) (d':Array α),m=q-p∧p≤q∧q≤n∧q-p≤w∧lim≤1000∧d'.size=n∧Below (ltc cf) p q d'∧(∀R,PermIn p q d' R→SortedIn (ltc cf) p q R→PermIn a e d R∧SortedIn (ltc cf) a e R)∧σ'=σ.set b (.rows 1 (rw' en d') false cap)∧fr 0=slv b n cap∧fr 1=int p∧fr 2=int q∧fr 3=int lim∧fr 4=fnv g∧fr 10=boo wb∧fr 11=boo wp,⟨_,a,e,limit,true,true,d,rfl,hae,he,hw,hlim,hd,hB,fun R h1 h2=>⟨h1,h2⟩,(B8 hb).symm,rfl,rfl,rfl,rfl,rfl,rfl,rfl⟩,?_⟩;rintro m fr σ' ⟨p,q,lim,wb,wp,dd,rfl,hpq,hq,hw2,hlim2,hdd,hB2,hF,rfl,f0,f1,f2,f3,f4,f10,f11⟩;have w1:IntKind.i64.wrap ((q:Int)-p)=((q-p:Nat):Int):=by rw[Am (by omega)];omega
 simp only[go_sem];rw[Aa];simp only[go_sem,f1,f2,w1];refine aIf_by (fun g1=>?_) (fun g1=>?_)
 ·simp only[go_sem,f0,f1,f2,f4]
  refine(Ih hl ho hce hC (σ:=σ.set b (.rows 1 (rw' en dd) false cap)) (d:=dd) Ab hn (A0 hn hs) hdd hsz (a:=p) (e:=q) hq (by omega)).mono ?_;rintro _ σ1 rfl;simp only[go_sem];have h:=insertionSort_holds (lt:=ltc cf) hS dd p q hpq (by omega);exact Ae (r:=.tup []) rfl ⟨_,rfl,hF _ h.1 h.2⟩
 simp only[go_sem,f3];refine aIf_by (fun g2=>?_) (fun g2=>?_)
 ·simp only[go_sem,f0,f1,f2,f4]
  refine(Xi hl ho hce hC (σ:=σ.set b (.rows 1 (rw' en dd) false cap)) (d:=dd) Ab hn (A0 hn hs) hdd hsz (a:=p) (e:=q) hq (by omega)).mono ?_;rintro _ σ1 rfl;simp only[go_sem];have h:=heapSort_holds (lt:=ltc cf) hS dd p q hpq (by omega);exact Ae (r:=.tup []) rfl ⟨_,rfl,hF _ h.1 h.2⟩
 simp only[go_sem,f10];refine U2 (fun fr σ'=>∃(lim':Nat) (d1:Array α),lim'≤1000∧PermIn p q dd d1∧σ'=σ.set b (.rows 1 (rw' en d1) false cap)∧fr 0=slv b n cap∧fr 1=int p∧fr 2=int q∧fr 3=int lim'∧fr 4=fnv g∧fr 10=boo wb∧fr 11=boo wp∧fr 12=int (q-p:Nat)) (fun g3=>?_) (fun g3=>?_) ?_
 ·simp only[go_sem]
  exact⟨lim,dd,hlim2,permIn_refl dd p q,rfl,f0,f1,f2,f3,f4,f10,f11⟩
 ·have w2:IntKind.i64.wrap ((lim:Int)-1)=((lim-1:Nat):Int):=by rw[Am (by omega)];omega
  simp only[go_sem,f0,f1,f2,f4];refine(Su hl ho hce (σ:=σ.set b (.rows 1 (rw' en dd) false cap)) (d:=dd) Ab hdd hsz (a:=p) (e:=q) hq (by omega)).mono ?_;rintro _ σ1 rfl;simp only[go_sem,f0,f1,f2,f3,f4,f10,f11,w2];refine⟨lim-1,breakPatterns dd p q,by omega,breakPatterns_holds dd p q hpq (by omega),rfl,rfl⟩
 clear f0 f1 f2 f3 f4 f10 f11 fr hlim2;rintro fr σ' ⟨lim,d1,hlim2,hP1,rfl,f0,f1,f2,f3,f4,f10,f11,f12⟩;have hz1:d1.size=n:=by rw[hP1.1];exact hdd
 have hB1:Below (ltc cf) p q d1:=hB2.perm (by omega) hP1;have hc0:=choosePivot_holds (ltc cf) d1 p q (by omega);simp only[go_sem,f0,f1,f2,f4];refine(T5 hl ho hce hC (σ:=σ.set b (.rows 1 (rw' en d1) false cap)) (d:=d1) Ab hn (A0 hn hs) hz1 hsz (a:=p) (e:=q) hq (by omega)).p ?_;generalize choosePivot (ltc cf) d1 p q=c at hc0⊢;obtain⟨c1,c2⟩:=c;simp only[go_sem,f0,f1,f2,f4];refine C0 (fun fr σ'=>∃(pv:Nat) (h:Int) (d2:Array α),p≤pv∧pv<q∧PermIn p q d1 d2∧σ'=σ.set b (.rows 1 (rw' en d2) false cap)∧fr 0=slv b n cap∧fr 1=int p∧fr 2=int q∧fr 3=int lim∧fr 4=fnv g∧fr 10=boo wb∧fr 11=boo wp∧fr 12=int (q-p:Nat)∧fr 13=int pv∧fr 14=int h) (fun g3=>?_) (fun g3=>?_) ?_
 ·simp only[go_sem,f0,f1,f2,f4]
  refine(Adg hl ho hce (σ:=σ.set b (.rows 1 (rw' en d1) false cap)) (d:=d1) Ab hz1 hsz (a:=p) (e:=q) hq (by omega)).mono ?_;rintro _ σ1 rfl;have hc1:p≤c1:=hc0.1;have hc2:c1<q:=hc0.2;have w3:IntKind.i64.wrap (IntKind.i64.wrap ((q:Int)-1)-IntKind.i64.wrap ((c1:Int)-p))=((q-1-(c1-p):Nat):Int):=by
   rw[Am (x:=(q:Int)-1) (by omega),Am (x:=(c1:Int)-p) (by omega),Am (by omega)];omega
  simp only[go_sem,f0,f1,f2,f3,f4,f10,f11,f12,w3];exact⟨q-1-(c1-p),1,reverseRange d1 p q,by omega,by omega,reverseRange_holds d1 p q hpq (by omega),rfl,rfl,rfl⟩
 ·simp only[go_sem]
  exact⟨c1,Ri c2,d1,hc0.1,hc0.2,permIn_refl d1 p q,rfl,f0,f1,f2,f3,f4,f10,f11,f12,rfl,rfl⟩
 clear f0 f1 f2 f3 f4 f10 f11 f12 fr hc0;rintro fr σ' ⟨pv,h,d2,hp1,hp2,hP2,rfl,f0,f1,f2,f3,f4,f10,f11,f12,f13,f14⟩;have hz2:d2.size=n:=by rw[hP2.1];exact hz1
 have hB3:Below (ltc cf) p q d2:=hB1.perm (by omega) hP2;apply Mk (fun fr σ'=>∃(d3:Array α),PermIn p q d2 d3∧σ'=σ.set b (.rows 1 (rw' en d3) false cap)∧fr 0=slv b n cap∧fr 1=int p∧fr 2=int q∧fr 3=int lim∧fr 4=fnv g∧fr 10=boo wb∧fr 11=boo wp∧fr 12=int (q-p:Nat)∧fr 13=int pv)
 case h1=>
  intro key;cases wb
  ·simp only[go_sem,f10]
   refine key _ _ ?_;exact⟨d2,permIn_refl d2 p q,rfl,f0,f1,f2,f3,f4,f10,f11,f12,f13⟩
  ·cases wp
   ·simp only[go_sem,f10,f11]
    refine key _ _ ?_;exact⟨d2,permIn_refl d2 p q,rfl,f0,f1,f2,f3,f4,f10,f11,f12,f13⟩
   ·simp only[go_sem,f10,f11,f14]
    refine aIf_by (fun g4=>?_) (fun g4=>?_)
    ·simp only[go_sem,f0,f1,f2,f4]
     refine(Nw hl ho hce hC (σ:=σ.set b (.rows 1 (rw' en d2) false cap)) (d:=d2) Ab hn (A0 hn hs) hz2 hsz (a:=p) (e:=q) hq (by omega)).p ?_;have hpi:=partialInsertionSort_holds (lt:=ltc cf) hS d2 p q (by omega) (by omega) hB3;simp only[go_sem];refine aIf_bool (fun g5=>?_) (fun g5=>?_)
     ·simp only[go_sem]
      exact Ae (r:=.tup []) rfl ⟨_,rfl,hF _ (permIn_trans _ _ _ p q (permIn_trans _ _ _ p q hP1 hP2) hpi.1) (hpi.2 g5)⟩
     ·simp only[go_sem]
      refine key _ _ ?_;exact⟨_,hpi.1,rfl,f0,f1,f2,f3,f4,f10,f11,f12,f13⟩
    ·simp only[go_sem]
     refine key _ _ ?_;exact⟨d2,permIn_refl d2 p q,rfl,f0,f1,f2,f3,f4,f10,f11,f12,f13⟩
 case h2=>
  clear f0 f1 f2 f3 f4 f10 f11 f12 f13 f14 fr;rintro fr σ' ⟨d3,hP3,rfl,f0,f1,f2,f3,f4,f10,f11,f12,f13⟩;have hz3:d3.size=n:=by rw[hP3.1];exact hz2
  have hB4:Below (ltc cf) p q d3:=hB3.perm (by omega) hP3;have hF3:∀R,PermIn p q d3 R→SortedIn (ltc cf) p q R→PermIn a e d R∧SortedIn (ltc cf) a e R:=fun R h1 h2=>hF R (permIn_trans _ _ _ p q (permIn_trans _ _ _ p q (permIn_trans _ _ _ p q hP1 hP2) hP3) h1) h2;clear hF hP1 hP2 hP3 hB1 hB2 hB3 hz1 hz2 hdd d1 d2;refine Af [.rd 0 false,.rd 1 false,.rd 2 false,.rd 3 false,.rd 4 false,.rd 5 false,.rd 6 false,.rd 7 false,.rd 8 true,.rd 9 false,.rd 10 false,.rd 11 false,.rd 12 true,.ef 13 [],.rd 14 false,.rd 15 false,.rd 16 false] ?_;by_cases g6:(0:Int)<p
  ·have w5:IntKind.i64.wrap ((p:Int)-1)=((p-1:Nat):Int):=by rw[Am (by omega)];omega
   have q1:=Ax (en:=en) (d:=d3) (j:=p-1) (by omega);have q2:=Ax (en:=en) (d:=d3) (j:=pv) (by omega);simp only[go_sem,f0,f1,f4,f13,decide_eq_true g6,w5,Ab,q1,q2,Bt hl];refine⟨by omega,by omega,by omega,by omega,(hC _ (A0 hn hs) _ _).p ?_⟩;simp only[go_sem];refine aIf_by (fun g7=>?_) (fun g7=>?_)
   ·simp only[go_sem,f0,f1,f2,f4,f13]
    refine(Po hl ho hce hC (σ:=σ.set b (.rows 1 (rw' en d3) false cap)) (d:=d3) Ab hn (A0 hn hs) hz3 hsz (a:=p) (e:=q) (pv:=pv) hq (by omega) (by omega)).p ?_;generalize hx:partition (ltc cf) d3 p q pv=x;obtain⟨mid,ap,d4⟩:=x;obtain⟨g7,g8,hs4,hBa,hBr,hleft,hright⟩:=round_part hS (partition_holds (ltc cf)) hp1 hp2 (by omega) hB4 hx;have v1:IntKind.i64.wrap ((mid:Int)-p)=((mid-p:Nat):Int):=by rw[Am (by omega)];omega
    have v2:IntKind.i64.wrap ((q:Int)-mid)=((q-mid:Nat):Int):=by rw[Am (by omega)];omega
    have v3:IntKind.i64.wrap (((q-p:Nat):Int).tdiv 8)=(((q-p)/8:Nat):Int):=by rw[Int.tdiv_eq_ediv_of_nonneg (by omega),Am (by omega)];omega
    simp only[go_sem,f1,f2,f12,v1,v2,v3];refine aIf_by (fun g9=>?_) (fun g9=>?_)
    ·simp only[go_sem,f0,f1,f2,f3,f4]
     refine(ih (mid-p) (by omega) (σ:=σ.set b (.rows 1 (rw' en d4) false cap)) (d:=d4) (a:=p) (e:=mid) (limit:=lim) (Nat.le_refl _) Ab (A0 hn hs) (by omega) g7 (by omega) hlim2 hBa).mono ?_;rintro _ _ ⟨d5,rfl,l1,l2⟩;obtain⟨hBL,hfin⟩:=hleft _ l1 l2;simp only[go_sem,f0,f2,f3,f4,As mid (by omega)];exact⟨q-(mid+1),by omega,mid+1,q,lim,decide ((((q-p)/8:Nat):Int)≤((mid-p:Nat):Int)),ap,d5,rfl,by omega,by omega,by omega,hlim2,by rw[l1.1];omega,hBL,fun R h1 h2=>(fun hh=>hF3 R hh.1 hh.2) (hfin R h1 h2),rfl,rfl,rfl,rfl,rfl,rfl⟩
    ·simp only[go_sem,f0,f1,f2,f3,f4,As mid (by omega)]
     refine(ih (q-(mid+1)) (by omega) (σ:=σ.set b (.rows 1 (rw' en d4) false cap)) (d:=d4) (a:=mid+1) (e:=q) (limit:=lim) (Nat.le_refl _) Ab (A0 hn hs) (by omega) (by omega) (by omega) hlim2 hBr).mono ?_;rintro _ _ ⟨d5,rfl,l1,l2⟩;obtain⟨hBL,hfin⟩:=hright _ l1 l2;simp only[go_sem,f0,f1,f3,f4];exact⟨mid-p,by omega,p,mid,lim,decide ((((q-p)/8:Nat):Int)≤((q-mid:Nat):Int)),ap,d5,rfl,by omega,by omega,by omega,hlim2,by rw[l1.1];omega,hBL,fun R h1 h2=>(fun hh=>hF3 R hh.1 hh.2) (hfin R h1 h2),rfl,rfl,rfl,rfl,rfl,rfl⟩
   ·simp only[go_sem,f0,f1,f2,f4,f13]
    refine(Qz hl ho hce hC (σ:=σ.set b (.rows 1 (rw' en d3) false cap)) (d:=d3) Ab hn (A0 hn hs) hz3 hsz (a:=p) (e:=q) (pv:=pv) hq (by omega) (by omega)).p ?_;generalize hx:partitionEqual (ltc cf) d3 p q pv=x;obtain⟨mid,d4⟩:=x;obtain⟨g8,g9,hs4,hBr,hfin⟩:=round_eq hS (partitionEqual_holds (ltc cf)) (by omega) hp1 hp2 (by omega) hB4 (by unfold ltc;exact decide_eq_false g7) hx;simp only[go_sem,f0,f2,f3,f4,f10,f11];exact⟨q-mid,by omega,mid,q,lim,wb,wp,d4,rfl,by omega,by omega,by omega,hlim2,by omega,hBr,fun R h1 h2=>(fun hh=>hF3 R hh.1 hh.2) (hfin R h1 h2),rfl,rfl,rfl,rfl,rfl,rfl⟩
  ·simp only[go_sem,f1,decide_eq_false g6]
   simp only[go_sem,f0,f1,f2,f4,f13];refine(Po hl ho hce hC (σ:=σ.set b (.rows 1 (rw' en d3) false cap)) (d:=d3) Ab hn (A0 hn hs) hz3 hsz (a:=p) (e:=q) (pv:=pv) hq (by omega) (by omega)).p ?_;generalize hx:partition (ltc cf) d3 p q pv=x;obtain⟨mid,ap,d4⟩:=x;obtain⟨g7,g8,hs4,hBa,hBr,hleft,hright⟩:=round_part hS (partition_holds (ltc cf)) hp1 hp2 (by omega) hB4 hx;have v1:IntKind.i64.wrap ((mid:Int)-p)=((mid-p:Nat):Int):=by rw[Am (by omega)];omega
   have v2:IntKind.i64.wrap ((q:Int)-mid)=((q-mid:Nat):Int):=by rw[Am (by omega)];omega
   have v3:IntKind.i64.wrap (((q-p:Nat):Int).tdiv 8)=(((q-p)/8:Nat):Int):=by rw[Int.tdiv_eq_ediv_of_nonneg (by omega),Am (by omega)];omega
   simp only[go_sem,f1,f2,f12,v1,v2,v3];refine aIf_by (fun g9=>?_) (fun g9=>?_)
   ·simp only[go_sem,f0,f1,f2,f3,f4]
    refine(ih (mid-p) (by omega) (σ:=σ.set b (.rows 1 (rw' en d4) false cap)) (d:=d4) (a:=p) (e:=mid) (limit:=lim) (Nat.le_refl _) Ab (A0 hn hs) (by omega) g7 (by omega) hlim2 hBa).mono ?_;rintro _ _ ⟨d5,rfl,l1,l2⟩;obtain⟨hBL,hfin⟩:=hleft _ l1 l2;simp only[go_sem,f0,f2,f3,f4,As mid (by omega)];exact⟨q-(mid+1),by omega,mid+1,q,lim,decide ((((q-p)/8:Nat):Int)≤((mid-p:Nat):Int)),ap,d5,rfl,by omega,by omega,by omega,hlim2,by rw[l1.1];omega,hBL,fun R h1 h2=>(fun hh=>hF3 R hh.1 hh.2) (hfin R h1 h2),rfl,rfl,rfl,rfl,rfl,rfl⟩
   ·simp only[go_sem,f0,f1,f2,f3,f4,As mid (by omega)]
    refine(ih (q-(mid+1)) (by omega) (σ:=σ.set b (.rows 1 (rw' en d4) false cap)) (d:=d4) (a:=mid+1) (e:=q) (limit:=lim) (Nat.le_refl _) Ab (A0 hn hs) (by omega) (by omega) (by omega) hlim2 hBr).mono ?_;rintro _ _ ⟨d5,rfl,l1,l2⟩;obtain⟨hBL,hfin⟩:=hright _ l1 l2;simp only[go_sem,f0,f1,f3,f4];exact⟨mid-p,by omega,p,mid,lim,decide ((((q-p)/8:Nat):Int)≤((q-mid:Nat):Int)),ap,d5,rfl,by omega,by omega,by omega,hlim2,by rw[l1.1];omega,hBL,fun R h1 h2=>(fun hh=>hF3 R hh.1 hh.2) (hfin R h1 h2),rfl,rfl,rfl,rfl,rfl,rfl⟩
abbrev Amm:=Tryz.func102
theorem sort_at{σ:St}{d:Array α}(hb:σ b=some (.rows 1 (rw' en d) false cap))(hs:∀x o,β x=some o→σ x=some o)(hd:d.size=n):AT Tryz.prog 102 [slv b n cap,fnv g] σ fun _ σ'=>∃d',σ'=σ.set b (.rows 1 (rw' en d') false cap)∧d'.toList.Perm d.toList∧SortedIn (ltc cf) 0 n d':=by
 exact rqq18
end
end Go.Proofs.YtmifmncabejffaaGreat.L
namespace Go.Proofs.YtmifmncabejffaaGreat
open Go Go.Av
theorem V1{α γ:Type}{en:α→List AV}{f:α→γ}:∀(es:List (List AV)) (out:List γ),es.length=out.length→(∀i (h:i<out.length),∃x,es.getD i []=en x∧f x=out[i])→∃L:List α,L.map en=es∧L.map f=out
 | [],[],_,_=>⟨[],rfl,rfl⟩
 |e::es,o::out,hl,h=>by
  obtain⟨L,h1,h2⟩:=V1 (en:=en) (f:=f) es out (by simpa using hl) fun i hi=>by
   have:=h (i+1) (by simpa using hi);simpa using this
  obtain⟨x,x1,x2⟩:=h 0 (by simp);simp only[List.getD_cons_zero,List.getElem_cons_zero]at x1 x2;exact⟨x::L,by rw[List.map_cons,h1,x1],by rw[List.map_cons,h2,x2]⟩
 | [],_::_,hl,_=>by simp at hl
 |_::_,[],hl,_=>by simp at hl
theorem Amz{l k:List Cn}(h:cnC l=cnC k):l=k:=by
 have:=congrArg (List.map fun(e:List AV)=>match e with
  | [.v (.bool b),.v (.int _ n),.v (.string s)]=>(⟨b,n,s⟩:Cn)
  |_=>⟨false,0,emp⟩) h
 have e:∀l:List Cn,(cnC l).map (fun(e:List AV)=>match e with
  | [.v (.bool b),.v (.int _ n),.v (.string s)]=>(⟨b,n,s⟩:Cn)
  |_=>⟨false,0,emp⟩)=l:=fun l=>by
  unfold cnC;rw[List.map_map]
  conv=>rhs;rw[←List.map_id l]
  rfl
 rwa[e,e]at this
theorem Ar4{f g:Fa}(h:f.cs=g.cs):f=g:=by
 unfold Fa.cs at h;simp only[List.cons.injEq,AV.v.injEq,Value.string.injEq,AV.sl.injEq,true_and,and_true]at h;obtain⟨h1,h2,h3,h4⟩:=h;cases f;cases g
 simp only at h1 h2 h3 h4;rw[h1,h2,h3,Amz h4]
theorem Aey{l k:List Fa}(h:faC l=faC k):l=k:=by
 unfold faC at h
 induction l generalizing k with
 |nil=>cases k<;>simp at h⊢
 |cons x l ih=>
  cases k with
  |nil=>simp at h
  |cons y k=>
   rw[List.map_cons,List.map_cons]at h;injection h with h1 h2;rw[Ar4 h1,ih h2]
@[go_sem] theorem Axk(f:Fa)(v w:AV):Az (faX f v) 3 [w]=faX f w:=rfl
def GR(σ0 σ:St)(c:Nat)(b:List Fa)(cap:Nat)(D:Nat→Prop):Prop:=
 ∃es,σ c=some (.rows 4 es false cap)∧es.length=b.length∧∀j (h:j<b.length),∃a,es.getD j []=faX b[j] a∧((a= .sl 3 (cnC b[j].ar)∧¬D j)∨(Ow 3 σ a (cnC b[j].ar)∧∀x,Own a x→σ0 x=none))
def BR(σ0 σ:St)(v:AV)(b:List Fa):Prop:=(b=[]∧(v=A4∨v= .fsl 4 []))∨∃c cap,v=slv c b.length cap∧b.length≤cap∧σ0 c=none∧GR σ0 σ c b cap fun _=>True
def PB(σ0 σ:St)(v:AV)(bods:List (List Fa)):Prop:=
 (∀x o,σ0 x=some o→σ x=some o)∧(∀x,Own v x→σ0 x=none)∧∃es,Ow 1 σ v es∧es.length=bods.length∧∀i (h:i<bods.length),∃w,es.getD i []=[w]∧BR σ0 σ w bods[i]
def JB(σ0 σ7 σ:St)(v:AV)(es:List (List AV))(D:Nat→Nat→Prop):Prop:=
 (∀x o,σ0 x=some o→σ x=some o)∧Ow 1 σ v es∧∀c b cap,σ7 c=some (.rows 4 (faC b) false cap)→σ0 c=none→GR σ0 σ c b cap (D c)
section
variable{σ0 σ7 σ1 σ2:St}{v:AV}{es7:List (List AV)}{D D':Nat→Nat→Prop}
theorem JB.weak(h:JB σ0 σ7 σ1 v es7 D)(hD:∀c (b:List Fa) cap j,σ7 c=some (.rows 4 (faC b) false cap)→j<b.length→D' c j→D c j):JB σ0 σ7 σ1 v es7 D':=by
 refine⟨h.1,h.2.1,fun c b cap h7 h0=>?_⟩;obtain⟨es,g1,g2,g3⟩:=h.2.2 c b cap h7 h0;refine⟨es,g1,g2,fun j hj=>?_⟩;obtain⟨a,k1,k2|k2⟩:=g3 j hj
 ·exact⟨a,k1,.inl ⟨k2.1,fun hd=>k2.2 (hD c b cap j h7 hj hd)⟩⟩
 ·exact⟨a,k1,.inr k2⟩
theorem Xw{σ:St}{c0:Nat}{es es':List (List AV)}{cap cap':Nat}{a:AV}{l:List (List AV)}(hc:σ c0=some (.rows 4 es false cap))(h:Ow 3 σ a l):Ow 3 (σ.set c0 (.rows 4 es' false cap')) a l:=h.keep fun x o hx ho=>by
 have:x≠c0:=fun e=>by
  subst e;obtain⟨k,hk⟩:=h.lat.own_rows ho;rw[hc]at hk;cases hk
 rw[Ag this];exact hx
theorem JB.put(h:JB σ0 σ7 σ1 v es7 D)(hs:∀x o,σ1 x=some o→σ2 x=some o){c0 cap0 j0:Nat}{b0:List Fa}{es:List (List AV)}{a:AV}(h7:σ7 c0=some (.rows 4 (faC b0) false cap0))(h0:σ0 c0=none)(h1:σ1 c0=some (.rows 4 es false cap0))(hj:j0<b0.length)
  (ha:Ow 3 σ2 a (cnC b0[j0].ar)) (hf:∀x,Own a x→σ0 x=none) (hD:∀c j,D' c j→D c j∨(c=c0∧j=j0)):JB σ0 σ7 (σ2.set c0 (.rows 4 (es.set j0 (faX b0[j0] a)) false cap0)) v es7 D':=by
 have h2:=hs _ _ h1;refine⟨fun x o hx=>?_,(h.2.1.sub hs).keep fun x o hx ho=>?_,fun c b cap hc7 hc0=>?_⟩
 ·rw[Ag (fun e=>by rw[e,h0]at hx;cases hx)]
  exact hs _ _ (h.1 x o hx)
 ·rw[Ag (fun e=>?_)]
  ·exact hx
  ·subst e
   obtain⟨k,hk⟩:=h.2.1.lat.own_rows ho;rw[h1]at hk;cases hk
 ·obtain⟨es',g1,g2,g3⟩:=h.2.2 c b cap hc7 hc0
  by_cases e:c=c0
  ·subst e
   rw[h7]at hc7;injection hc7 with hc7;injection hc7 with e1 e2 e3 e4;have:=Aey e2;subst this;subst e4;rw[h1]at g1;injection g1 with g1;injection g1 with _ g1 _ _;subst g1;refine⟨_,Ab,by simp[g2],fun j hj'=>?_⟩;by_cases ej:j=j0
   ·subst ej
    refine⟨a,?_,.inr ⟨Xw h2 ha,hf⟩⟩;simp[List.getD_eq_getElem?_getD,List.getElem?_set,g2,hj]
   ·obtain⟨a',k1,k2⟩:=g3 j hj'
    refine⟨a',?_,?_⟩
    ·rw[List.getD_eq_getElem?_getD,List.getElem?_set_ne (Ne.symm ej),←List.getD_eq_getElem?_getD];exact k1
    ·rcases k2 with k2|k2
     ·exact .inl ⟨k2.1,fun hd=>(hD _ _ hd).elim k2.2 fun h=>ej h.2⟩
     ·exact .inr ⟨Xw h2 (k2.1.sub hs),k2.2⟩
  ·refine⟨es',by rw[Ag e];exact hs _ _ g1,g2,fun j hj'=>?_⟩
   obtain⟨a',k1,k2|k2⟩:=g3 j hj'
   ·exact⟨a',k1,.inl ⟨k2.1,fun hd=>(hD _ _ hd).elim k2.2 fun h=>e h.1⟩⟩
   ·exact⟨a',k1,.inr ⟨Xw h2 (k2.1.sub hs),k2.2⟩⟩
end
structure BV(β σ0:St) where
 bd:List Fa
 v:AV
 ow:Ow 4 β v (faC bd)
 sm:SmB bd
 fr:∀x,Own v x→σ0 x=none
instance(β σ0:St):Inhabited (BV β σ0):=⟨⟨[],A4,.inl ⟨rfl,.inl rfl⟩,⟨by simp,fun x hx=>by cases hx⟩,fun x hx=>absurd hx B4⟩⟩
def BV.en{β σ0:St}(x:BV β σ0):List AV:=[x.v]
theorem BV.one{β σ0:St}(x:BV β σ0):x.en.all AV.one=true:=by simp[BV.en,x.ow.lat.one]
theorem BV.cells{β σ0:St}(x:BV β σ0):(x.en.getD 0 (.v undef)).cells=x.en:=by simp[BV.en,x.ow.lat.cells]
def BV.cf{β σ0:St}(x y:BV β σ0):Int:=Et x.bd y.bd
def BV.eq{β σ0:St}(x y:BV β σ0):Bool:=decide (x.bd=y.bd)
theorem BV.swo{β σ0:St}:Go.Sort.SWO (ltc (BV.cf (β:=β) (σ0:=σ0))) where
 irrefl x:=Dm.swo.irrefl x.bd
 trans x y z:=Dm.swo.trans x.bd y.bd z.bd
 ntrans x y z:=Dm.swo.ntrans x.bd y.bd z.bd
theorem BV.ord_at{β σ0:St}(σ':St)(hs:∀x o,β x=some o→σ' x=some o)(x y:BV β σ0):AT Tryz.prog 103 [x.en.getD 0 (.v undef),y.en.getD 0 (.v undef)] σ' fun r σ''=>r=int (BV.cf x y)∧σ''=σ':=
 orderB_at (.of (x.ow.sub hs).lat) (.of (y.ow.sub hs).lat) x.sm y.sm
theorem BV.eq_at{β σ0:St}(σ':St)(hs:∀x o,β x=some o→σ' x=some o)(x y:BV β σ0):AT Tryz.prog 105 [x.en.getD 0 (.v undef),y.en.getD 0 (.v undef)] σ' fun r σ''=>r=boo (BV.eq x y)∧σ''=σ':=
 eqB_at (.of (x.ow.sub hs).lat) (.of (y.ow.sub hs).lat) x.sm y.sm
theorem BV.done{β σ0:St}{d:Array (BV β σ0)}{out:List (List Fa)}(hp:(d.toList.map BV.bd).Perm out)(hs:Go.Sort.SortedIn (ltc BV.cf) 0 d.size d):(Gm BV.eq d.toList).map BV.bd=Aw Et [] out:=by
 rw[Zc (e:=BV.eq) (f:=BV.bd) (e':=fun a b=>decide (a=b)) (fun x y=>by unfold BV.eq;simp) (fun x y=>by simp)];refine S2 Dm (fun x y=>by simp) hp ?_ (.refl _);rw[List.pairwise_map];exact Wa (c:=BV.cf) (fun x y=>Dm.anti x.bd y.bd) hs
section
variable{σ:St}
theorem Za(g:Nat):AT Tryz.prog 104 [A4,fnv g] σ fun r σ'=>r=A4∧σ'=σ:=by
 refine AT.ob Tryz.func104 rfl ?_;have d:decide ((0:Int)<2)=true:=rfl;simp only[go_sem,d];exact Ae (r:=A4) rfl ⟨rfl,rfl⟩
end
theorem PB.view{σ0 σ:St}{v:AV}{bods:List (List Fa)}(h:PB σ0 σ v bods):Hf σ v σ0 (.sl 1 (boC bods)):=by
 obtain⟨h1,h2,es,h3,h4,h5⟩:=h;refine view_of (Es fun x o hx=>.inl (h1 x o hx)) (h3.lat.vw h2 (by rw[Gc,h4]) fun i hi=>?_);obtain⟨w,k1,k2⟩:=h5 i (by omega);rw[Db (by omega),k1];refine vws_cons ?_ By;rcases k2 with⟨e,rfl|rfl⟩|⟨c,cap,rfl,k3,k4,es',k5,k6,k7⟩
 ·rw[e];exact .nil 4
 ·rw[e];exact LAt.full.vw_same fun x hx=>absurd hx A3
 ·have hL:LAt 4 σ (slv c bods[i].length cap) es':=.inr (.inr ⟨c,cap,by rw[k6],by omega,k5⟩)
  refine hL.vw (fun x hx=>by rw[B6.1 hx];exact k4) (by rw[Aj,k6]) fun j hj=>?_;rw[Aq (by omega)];obtain⟨a,g1,g2⟩:=k7 j (by omega);exact FrX.vws ⟨a,g1,(g2.resolve_left fun h=>h.2 trivial).1.lat|> .of,(g2.resolve_left fun h=>h.2 trivial).2⟩
open Go Go.Av Go.RowKit
section
variable{P:Program}{l:List Oper}{K:Fr→St→Prop}
abbrev Rf:=List (Nat×(St→Prop))
def aPre(P:Program)(l:List Oper)(C:Rf→Fr→St→Prop):List PS→Rf→Fr→St→Prop
 | [],S,fr,σ=>C S fr σ
 | .rd i keep::r,S,fr,σ=>match l[i]? with
  |none=>False
  |some o=>o.guard=none∧aOp P o.op fr σ fun v σ'=>aPre P l C r (if keep then(i,fun σ''=>Yl P o.op fr σ'' v)::S else S) (fr.put o.dst v) σ'
 | .ef _ _::_,_,_,_=>False
def brOk(P:Program)(ops:Array Oper)(i:Nat)(c1:List Nat)(r1:List PS)(j:Nat)(c2:List Nat)(r2:List PS):List PS→Array Bool→List Nat→Bool
 | [],L,N=>(Region.ready .any ops L== [i,j])&&(Hi P ops i==2)&&(Hi P ops j==2)&&(N.all fun p=>Eg ops ops.size i p||c1.contains p)&&(N.all fun p=>Eg ops ops.size j p||c2.contains p)
   &&Fj P ops r1 (L.setIfInBounds i true) N&&Fj P ops r2 (L.setIfInBounds j true) N
 | .rd k keep::r,L,N=>(Region.ready .any ops L).contains k&&(Hi P ops k==0||(Hi P ops k==1&&keep))&&Region.free .any ops L k&&brOk P ops i c1 r1 j c2 r2 r (L.setIfInBounds k true) (if keep then k::N else N)
 | .ef _ _::_,_,_=>false
theorem Ajj{i:Nat}{chk:List Nat}{r:List PS}{L:Array Bool}{N:List Nat}{Sl:Rf}{S:M0}{fr:Fr}{σ:St}(hri:i∈Region.ready .any l.toArray L)(hc:Hi P l.toArray i=2)(hn:(N.all fun p=>Eg l.toArray l.toArray.size i p||chk.contains p)=true)
  (hok:Fj P l.toArray r (L.setIfInBounds i true) N=true) (hL:Nb l.toArray L) (hS:∀p q,S p q→(∀σ',q σ')∨(p,q)∈Sl) (hN:∀x∈Sl,x.1∈N) (h:Cm P (Ie l.toArray) l K (.ef i chk::r) Sl fr σ):
  Sn P l.toArray i S (fun S' fr' σ'=>Rq P l.toArray K r.length (L.setIfInBounds i true) S' fr' σ') fr σ:=by
 simp only[Cm]at h;cases hi:l[i]? with
 |none=>rw[hi]at h;exact h.elim
 |some o=>
  rw[hi]at h;have hi':l.toArray[i]? =some o:=by simpa using hi
  have hcl:Hi P l.toArray i=cls P o.op:=by simp[Hi,hi]
  rw[hcl]at hc;unfold Sn;rw[hi'];refine H9 (fun h=>Kd _ _ (fun v σ' hv=>?_) h) (fun h=>?_) h
  ·rw[if_pos hc]
   refine⟨fun p q hpq hb=>?_,Is r _ N Sl S _ _ hok (Eb hL hri) hS hN hv.2⟩;rcases hS p q hpq with h|h
   ·exact h σ'
   ·have:=List.all_eq_true.1 hn p (hN _ h)
    rw[hb,Bool.false_or]at this;exact Acv h (Wz (by simpa using this) hv.1)
  ·exact Is r _ N Sl S _ _ hok (Eb hL hri) hS hN h
theorem Aft{i j:Nat}{c1 c2:List Nat}{r1 r2:List PS}(hlen:r1.length=r2.length):∀(pre:List PS) (L:Array Bool) (N:List Nat) (Sl:Rf) (S:M0) (fr:Fr) (σ:St),brOk P l.toArray i c1 r1 j c2 r2 pre L N=true→Nb l.toArray L→
  (∀p q,S p q→(∀σ',q σ')∨(p,q)∈Sl)→(∀x∈Sl,x.1∈N)→
  aPre P l (fun S fr σ=>Cm P (Ie l.toArray) l K (.ef i c1::r1) S fr σ∧Cm P (Ie l.toArray) l K (.ef j c2::r2) S fr σ) pre Sl fr σ→Rq P l.toArray K (pre.length+(r1.length+1)) L S fr σ
 | [],L,N,Sl,S,fr,σ,hok,hL,hS,hN,h=>by
  simp only[brOk,Bool.and_eq_true,beq_iff_eq]at hok;obtain⟨⟨⟨⟨⟨⟨hr,h1⟩,h2⟩,h3⟩,h4⟩,h5⟩,h6⟩:=hok;rw[List.length_nil,Nat.zero_add];refine⟨fun h=>(by rw[h]at hr;cases hr),fun k hk=>?_⟩;have hk':=hk;rw[hr]at hk';simp only[List.mem_cons,List.not_mem_nil,or_false]at hk';rcases hk' with rfl|rfl
  ·exact Ajj hk h1 h3 h5 hL hS hN h.1
  ·rw[hlen];exact Ajj hk h2 h4 h6 hL hS hN h.2
 | .ef _ _::r,L,N,Sl,S,fr,σ,hok,hL,hS,hN,h=>h.elim
 | .rd k keep::r,L,N,Sl,S,fr,σ,hok,hL,hS,hN,h=>by
  simp only[brOk,Bool.and_eq_true,Bool.or_eq_true,beq_iff_eq]at hok;obtain⟨⟨⟨hr,hc⟩,hf⟩,hok⟩:=hok;have hr:k∈Region.ready .any l.toArray L:=by simpa using hr
  simp only[aPre]at h;cases hi:l[k]? with
  |none=>rw[hi]at h;exact h.elim
  |some o=>
   rw[hi]at h;obtain⟨hg,h⟩:=h;have hi':l.toArray[k]? =some o:=by simpa using hi
   have hcl:Hi P l.toArray k=cls P o.op:=by simp[Hi,hi]
   rw[hcl]at hc;have hne:cls P o.op≠2:=by rcases hc with h|⟨h,_⟩<;>omega
   obtain⟨v,hk,hy⟩:=N4 hne h;rw[show(PS.rd k keep::r).length+(r1.length+1)=(r.length+(r1.length+1))+1 by simp only[List.length_cons];omega];refine Nn hi' hne _ L S fr σ hL (Region.free_spec hi' hf) hr (.inl ⟨fun A B hA=>by rw[hg];exact hA,hy,?_⟩);refine Aft hlen r _ _ _ _ _ _ hok (Eb hL hr) ?_ ?_ hk
   ·rintro p q (hp|⟨rfl,rfl⟩)
    ·rcases hS p q hp with h|h
     ·exact .inl h
     ·refine .inr ?_
      split
      ·exact List.mem_cons_of_mem _ h
      ·exact h
    ·rcases hc with h0|⟨_,h0⟩
     ·exact .inl fun σ'=>hy.any h0 σ'
     ·rw[if_pos h0]
      exact .inr (List.mem_cons_self ..)
   ·intro x hx
    cases keep with
    |true=>
     rcases List.mem_cons.1 hx with rfl|hx
     ·exact List.mem_cons_self ..
     ·exact List.mem_cons_of_mem _ (hN x hx)
    |false=>exact hN x hx
theorem Agl{fr:Fr}{σ:St}(pre:List PS)(i:Nat)(c1:List Nat)(r1:List PS)(j:Nat)(c2:List Nat)(r2:List PS)(hm:P.follows .mixedOrders=true)(hlen:(pre.length+(r1.length+1)==l.length)=true)(hl:(r1.length==r2.length)=true)(hok:brOk P l.toArray i c1 r1 j c2 r2 pre (Array.replicate l.length false) []=true)
  (h:aPre P l (fun S fr σ=>Cm P (l.map (·.dst)) l K (.ef i c1::r1) S fr σ∧Cm P (l.map (·.dst)) l K (.ef j c2::r2) S fr σ) pre (@hid _ ⟨[]⟩) fr σ):U1 P l.toArray K fr σ:=by
 refine N0 hm ?_;have e:pre.length+(r1.length+1)=l.toArray.size:=by simpa using hlen
 rw[←e];refine Aft (by simpa using hl) pre _ [] [] _ fr σ ?_ ?_ (fun _ _ h=>h.elim) (fun x hx=>by cases hx) h
 ·rw[e];simpa using hok
 ·intro i o hi
  rw[e]at hi;rcases Nat.lt_or_ge i l.length with h'|h'
  ·simp[Array.getElem?_replicate,h']at hi
  ·simp[Array.getElem?_replicate,Nat.not_lt.2 h']at hi
def aRdP(P:Program)(l:List Oper)(C:Rf→Fr→St→Prop)(keep:Bool)(i:Nat)(r:List PS)(S:Rf)(fr:Fr)(σ:St):Option Oper→Prop
 |none=>False
 |some o=>o.guard=none∧aOp P o.op fr σ fun v σ'=>aPre P l C r (if keep then(i,fun σ''=>Yl P o.op fr σ'' v)::S else S) (fr.put o.dst v) σ'
variable{C:Rf→Fr→St→Prop}{S:Rf}{fr:Fr}{σ:St}{r:List PS}{i:Nat}{d:Option Nat}{op:Op}{t:TypeId}{p:String}{e:Array Edge}
@[go_sem] theorem Awn:aPre P l C [] S fr σ=C S fr σ:=_root_.id rfl
@[go_sem] theorem Ayg{keep:Bool}:aPre P l C (.rd i keep::r) S fr σ=aRdP P l C keep i r S fr σ (l[i]?):=by
 unfold aPre aRdP;cases l[i]? <;>rfl
@[go_sem] theorem Bbe:aRdP P l C true i r S fr σ (some {dst:=d,op:=op,type:=t,pos:=p,after:=e,guard:=none})=aOp P op fr σ (@hid _ ⟨fun v σ'=>aPre P l C r (@hid _ ⟨(i,fun σ''=>Yl P op fr σ'' v)::S⟩) (fr.put d v) σ'⟩):=by
 simp only[aRdP,true_and];rfl
@[go_sem] theorem Bbf:aRdP P l C false i r S fr σ (some {dst:=d,op:=op,type:=t,pos:=p,after:=e,guard:=none})=aOp P op fr σ (@hid _ ⟨fun v σ'=>aPre P l C r S (fr.put d v) σ'⟩):=by
 simp only[aRdP,true_and];rfl
end
section
variable{σ:St}
theorem Aat(r:Rl)(first:Int)(hr:r.Ok):AT Tryz.prog 100 [.agg r.cs,int first] σ fun v σ'=>v= .sl 1 (inC (Iz (Ht r first)))∧σ'=σ:=by
 refine AT.ob Tryz.func100 rfl ?_;simp only[go_sem];refine Ay fun b hb hbn=>?_;obtain⟨β,hβ⟩:∃β,β=σ.set b (.cells r.cs):=⟨_,rfl⟩;have kb:β b=some (.cells r.cs):=by rw[hβ];exact Ab
 have ks:∀x o,σ x=some o→β x=some o:=by rw[hβ];exact B7 hb (fun _ _ h=>h)
 have hbl:=hr.1;rw[←hβ];clear hβ;simp only[go_sem];refine Ay fun o ho hon=>?_;have kb1:(β.set o (.cells [A4])) b=some (.cells r.cs):=B7 ho (fun _ _ h=>h) _ _ kb;simp only[go_sem,kb1];refine Ay fun v hv hvn=>?_;have hvo:o≠v:=hvn o _ Ab;have kb2:∀ob,((β.set o (.cells [A4])).set v ob) b=some (.cells r.cs):=fun ob=>B7 hv (fun _ _ h=>h) _ _ kb1;simp only[go_sem,kb2,Ab];simp only[Fq,C9];simp only[go_sem,kb2,Ab];apply Mk (fun fr σ'=>∃ou vs,PO β σ' o v (Iz ou) vs∧LO r first ou vs∧fr 2=ptr b∧fr 5=ptr o∧fr 6=ptr v∧fr 7= .v (.func (.func 158) #[] #[.pointer (some ⟨o,0,none⟩),.pointer (some ⟨b,0,none⟩),.pointer (some ⟨v,0,none⟩)]))
 case h1=>
  intro key;have no1:∀x,¬Own (.fsl 1 [[str r.ho.v]]) x:=fun x ⟨n,c,e⟩=>by cases e
  have no2:∀x,¬Own (.v (.slice none 0 0)) x:=fun x ⟨n,c,e⟩=>by cases e
  have r0:PO β ((β.set o (.cells [A4])).set v (.cells [.fsl 1 [[str r.ho.v]]])) o v (Iz []) [r.ho.v]:=by
   refine⟨A4,.fsl 1 [[str r.ho.v]],⟨by rw[Ag hvo];exact Ab,.none⟩,⟨Ab,.full⟩,fun x=>?_,fun x p hx=>?_⟩
   ·by_cases e:x=o
    ·subst e;exact .inr ⟨hvo,no1 x⟩
    ·exact .inl ⟨e,no2 x⟩
   ·have h1:x≠o:=hon x p hx
    have h2:x≠v:=hvn x p (by rw[Ag h1];exact hx);exact⟨by rw[Ag h2,Ag h1];exact hx,⟨h1,no2 x⟩,h2,no1 x⟩
  by_cases h0:0≤first
  ·by_cases h1:first<r.bo.length
   ·have hk:first.toNat<r.bo.length:=by omega
    simp only[go_sem,kb2,decide_eq_true h0,decide_eq_true h1];have e0:int first=int (first.toNat:Nat):=by rw[Int.toNat_of_nonneg h0]
    rw[e0];refine(Agc r hk kb r0 (by simp) (by simp) (by have:=hr.2 _ (List.getElem_mem hk);omega)).mono ?_;rintro _ σ1 h2;simp only[go_sem];refine key _ _ ?_;exact⟨_,_,h2,.first hr h0 hk,rfl,rfl,rfl,rfl⟩
   ·simp only[go_sem,kb2,decide_eq_true h0,decide_eq_false h1]
    refine key _ _ ?_;exact⟨_,_,r0,.start fun h=>h1 h.2,rfl,rfl,rfl,rfl⟩
  ·simp only[go_sem,kb2,decide_eq_false h0]
   refine key _ _ ?_;exact⟨_,_,r0,.start fun h=>h0 h.1,rfl,rfl,rfl,rfl⟩
 case h2=>
  rintro fr σ1 ⟨ou,vs,h,hL,f2,f5,f6,f7⟩;simp only[go_sem,Aa];refine⟨fun m fr σ1=>∃ou vs,m=r.bo.length-ou.length∧PO β σ1 o v (Iz ou) vs∧LO r first ou vs∧fr 2=ptr b∧fr 5=ptr o∧fr 6=ptr v∧fr 7= .v (.func (.func 158) #[] #[.pointer (some ⟨o,0,none⟩),.pointer (some ⟨b,0,none⟩),.pointer (some ⟨v,0,none⟩)]),⟨_,ou,vs,rfl,h,hL,f2,f5,f6,f7⟩,?_⟩;clear h hL f2 f5 f6 f7 ou vs fr σ1;rintro m fr σ1 ⟨ou,vs,rfl,h,hL,f2,f5,f6,f7⟩;have kb1:=h.sub _ _ kb;have hlen:=hL.len hr;obtain⟨lo,c1,c2,c3⟩:=h.num;simp only[go_sem,f2,f5,f6,f7,c1,c2.len,kb1];refine aIf_by (fun hlt=>?_) (fun hlt=>?_)
  ·simp only[go_sem,Aa,f2,f5,f6,f7,kb1]
   refine⟨fun m fr σ'=>∃k:Nat,m=r.bo.length-k∧k≤r.bo.length∧PO β σ' o v (Iz ou) vs∧fr 2=ptr b∧fr 5=ptr o∧fr 6=ptr v∧fr 7= .v (.func (.func 158) #[] #[.pointer (some ⟨o,0,none⟩),.pointer (some ⟨b,0,none⟩),.pointer (some ⟨v,0,none⟩)])∧fr 8=int (bst r.bo ou vs k).1∧fr 9=int (bst r.bo ou vs k).2∧fr 39= .sl 10 (liC r.bo)∧fr 40=int r.bo.length∧fr 41=int k,⟨_,0,rfl,by omega,h,f2,f5,f6,f7,rfl,rfl,rfl,rfl,rfl⟩,?_⟩;clear f2 f5 f6 f7 fr h kb1 c1 c2 c3 lo σ1;rintro m fr σ1 ⟨k,rfl,hk,h,f2,f5,f6,f7,f8,f9,f39,f40,f41⟩;simp only[go_sem,f40,f41];refine aIf_by (fun hlt2=>?_) (fun hlt2=>?_)
   ·have hkl:k<r.bo.length:=by omega
    have hal:=hr.2 _ (List.getElem_mem hkl);simp only[go_sem,Aa,f39,f41,D6 hkl];refine⟨by omega,Ay fun c hc hcn=>?_⟩;have h':=h.new (ob:=.cells r.bo[k].cs) hc;obtain⟨lo,c1,c2,c3⟩:=h'.num;obtain⟨γ,g1,g2,g3⟩:=h'.base;have hcc:γ c=some (.cells r.bo[k].cs):=g3 c _ Ab (fun a e=>by injection e with e;exact absurd (congrArg List.length e) (by rw[Li.len];simp)) (fun _ _ _ e=>by cases e);simp only[go_sem,Aa,f39,f41,D6 hkl,Ab,f5,c1,c2.len];revert h' c1 c2 c3 g1 g2 g3 hcc;generalize σ1.set c (.cells r.bo[k].cs)=σ2;intro h' c1 c2 c3 g1 g2 g3 hcc;obtain⟨l,hl⟩:∃l,l=r.bo[k]:=⟨_,rfl⟩;have hg:r.bo.getD k .zero=l:=by rw[hl,Xo hkl]
    rw[←hl]at hal hcc;have hst:bst r.bo ou vs (k+1)=if k∉ou∧(bst r.bo ou vs k).2<(knL l vs:Int)then((k:Int),(knL l vs:Int))else bst r.bo ou vs k:=by
     rw[←hg];rfl
    refine⟨fun m fr σ'=>∃j:Nat,m=ou.length-j∧j≤ou.length∧σ'=σ2∧k∉ou.take j∧fr 2=ptr b∧fr 5=ptr o∧fr 6=ptr v∧fr 7= .v (.func (.func 158) #[] #[.pointer (some ⟨o,0,none⟩),.pointer (some ⟨b,0,none⟩),.pointer (some ⟨v,0,none⟩)])∧fr 8=int (bst r.bo ou vs k).1∧fr 9=int (bst r.bo ou vs k).2∧fr 39= .sl 10 (liC r.bo)∧fr 40=int r.bo.length∧fr 41=int k∧fr 10=int k∧fr 11=ptr c∧fr 46=lo∧fr 47=int ou.length∧fr 48=int j,⟨_,0,rfl,by omega,rfl,by simp,f2,f5,f6,f7,f8,f9,f39,f40,f41,rfl,rfl,rfl,by rw[←Ip ou,←Xk];rfl,rfl⟩,?_⟩;clear f2 f5 f6 f7 f8 f9 f39 f40 f41 fr;rintro m fr σ' ⟨j,rfl,hj,rfl,hn,f2,f5,f6,f7,f8,f9,f39,f40,f41,f10,f11,f46,f47,f48⟩;simp only[go_sem,f47,f48];refine aIf_by (fun hlt3=>?_) (fun hlt3=>?_)
    ·have hjl:j<ou.length:=by omega
     have ej:(inC (Iz ou)).getD j []=[int (ou[j]:Nat)]:=by
      rw[Xj (by rw[Ip];exact hjl)];simp[Iz]
     simp only[go_sem,Aa,f46,f48];refine c2.elem (by omega) (by rw[Xk,Ip];omega) fun p hp=>?_;simp only[go_sem,Aa];refine hp.load1 (by omega) (by rw[Int.toNat_natCast,ej];simp) ?_;simp only[go_sem,Aa,ej,f10];refine aIf_by (fun he=>?_) (fun he=>?_)
     ·have hm:k∈ou:=by
       have:ou[j]=k:=by omega
       exact this▸List.getElem_mem hjl
      have e:bst r.bo ou vs (k+1)=bst r.bo ou vs k:=by rw[hst,if_neg fun h=>h.1 hm]
      simp only[go_sem,Aa,f2,f5,f6,f7,f8,f9,f39,f40,f41,As k (by omega)];exact⟨r.bo.length-(k+1),by omega,k+1,rfl,by omega,h',by rw[e],by rw[e],rfl⟩
     ·simp only[go_sem,Aa,f2,f5,f6,f7,f8,f9,f39,f40,f41,f10,f11,f46,f47,f48,As j (by omega)]
      refine⟨ou.length-(j+1),by omega,j+1,rfl,by omega,?_,rfl⟩;rw[List.take_add_one,List.getElem?_eq_getElem hjl];simp only[Option.toList,List.mem_append,List.mem_singleton,not_or];exact⟨hn,fun e=>he (by rw[←e])⟩
    ·have hn:k∉ou:=by
      rw[List.take_of_length_le (by omega)]at hn;exact hn
     obtain⟨lw,d1,d2,d3⟩:=h'.var;simp only[go_sem,Aa,f2,f5,f6,f10,f11,g1.sub _ _ hcc,Li.len,d1];refine(Akd l (by omega) (by omega) (.of d2)).p ?_;simp only[go_sem,Aa,f9];refine aIf_by (fun g2=>?_) (fun g2=>?_)
     ·have e:bst r.bo ou vs (k+1)=((k:Int),(knL l vs:Int)):=by rw[hst,if_pos ⟨hn,g2⟩]
      simp only[go_sem,Aa,f2,f5,f6,f7,f8,f9,f39,f40,f41,f10,As k (by omega)];exact⟨r.bo.length-(k+1),by omega,k+1,rfl,by omega,h',by rw[e],by rw[e],rfl⟩
     ·have e:bst r.bo ou vs (k+1)=bst r.bo ou vs k:=by rw[hst,if_neg fun h=>g2 h.2]
      simp only[go_sem,Aa,f2,f5,f6,f7,f8,f9,f39,f40,f41,f10,As k (by omega)];exact⟨r.bo.length-(k+1),by omega,k+1,rfl,by omega,h',by rw[e],by rw[e],rfl⟩
   ·obtain rfl:k=r.bo.length:=by omega
    obtain⟨c,hc,e,hN⟩:=hL.next hr (by omega);rw[e]at f8;simp only[go_sem,Aa,f7,f8];refine(Agc r hc kb h (by omega) (by omega) (by have:=hr.2 _ (List.getElem_mem hc);omega)).mono ?_;rintro _ σ2 h2;simp only[go_sem,Aa,f2,f5,f6,f7];have:=J0 _ _ hN.1;simp only[List.length_append,List.length_cons,List.length_nil]at this;exact⟨_,by simp only[List.length_append,List.length_cons,List.length_nil];omega,_,_,rfl,h2,hN,f2,f5,f6,f7⟩
  ·simp only[go_sem,Aa,f5,c1]
   obtain rfl:=hL.done (by omega);obtain⟨lo',lw,q1,q2,q3,q4⟩:=h;obtain rfl:lo'=lo:=by
    have:=q1.cell.symm.trans c1;injection this with this;injection this with this;injection this
   exact Ad (r:=lo') rfl _ σ (view_of (Es fun x o hx=>.inl (q4 x o (ks x o hx)).1) (q1.lat.vw_same fun x hx=>Classical.byContradiction fun hn=>by
    obtain⟨o,ho⟩:=Option.ne_none_iff_exists'.1 hn;exact(q4 x o (ks x o ho)).2.1.2 hx)) ⟨rfl,rfl⟩
end
def Fa.zero:Fa:=⟨emp,emp,emp,[]⟩
def Je(r:Rl)(me:ByteArray)(first:Int)(f:Fa)(l:List Fa):List (List Fa):=
 match Bd r.ho (nmC me) []with
 |some env=>Ce r.ho r.bo (Ca first f l) (Ht r first) env (List.replicate r.bo.length .zero)
 |none=>[]
def Ea(r:Rl)(me:ByteArray)(first:Int)(f:Fa)(l:List Fa):List (List Fa):=Aw Et [] (Je r me first f l)
theorem Kp(r:Rl)(first:Int):(Ht r first).Nodup:=(Pm r first).1.1
theorem Xb(ho:Tm)(bo:List Li)(cand:Nat→List Fa)(hc:∀k,∀x∈cand k,x.Sm):∀(o:List Nat) (env:List Bi) (got:List Fa),(∀x∈got,x.Sm)→∀b∈Ce ho bo cand o env got,b.length=got.length∧∀x∈b,x.Sm
 | [],env,got,hg,b,hb=>by rw[List.mem_singleton.1 hb];exact⟨rfl,hg⟩
 |k::o,env,got,hg,b,hb=>by
  rw[Ce]at hb;obtain⟨x,hx,hb⟩:=List.mem_flatMap.1 hb;split at hb
  ·have:=Xb ho bo cand hc o _ (got.set k x) (fun y hy=>by
    rcases List.mem_or_eq_of_mem_set hy with hy|rfl
    ·exact hg y hy
    ·exact hc k _ hx) b hb
   exact⟨by rw[this.1,List.length_set],this.2⟩
  ·cases hb
section
variable{σ:St}
set_option maxHeartbeats 2000000 in
theorem Agq(r:Rl)(me:ByteArray)(first:Int)(f:Fa)(l:List Fa)(hr:r.S3)(hf:f.Sm)(hl:l.length≤1000000)(hls:∀y∈l,y.Sm)(hn:(Je r me first f l).length≤1000000):
  AT Tryz.prog 53 [.agg r.cs,str me,int first,.agg f.cs,.sl 4 (faC l)] σ fun v σ'=>PB σ σ' v (Ea r me first f l):=by
 refine AT.ob Tryz.func53 rfl ?_;simp only[go_sem];refine Ctx.nil.alloc fun p σ1 c1=>?_;simp only[go_sem];refine c1.alloc fun q σ2 c2=>?_;simp only[go_sem,c2.g1];refine(AT.weak (L5 r.ho (nmC me) [] (by simp)) (vws_same (vws_same (vws_cons (.nil 4) By)))).p ?_;simp only[go_sem];cases hu:Bd r.ho (nmC me) []with
 |none=>
  have e:Ea r me first f l=[]:=by unfold Ea Je;rw[hu];rfl
  rw[e];simp only[go_sem];exact Ad (r:=A4) rfl _ σ (c2.view _) ⟨fun _ _ h=>h,fun x hx=>absurd hx B4,[],.inl ⟨rfl,.inl rfl⟩,rfl,fun i hi=>by simp at hi⟩
 |some env=>
  have ef:Je r me first f l=Ce r.ho r.bo (Ca first f l) (Ht r first) env (List.replicate r.bo.length .zero):=by unfold Je;rw[hu]
  have hel:=Gi hu;simp only[List.length_nil]at hel;have hr1:=hr.1;simp only[go_sem];refine Agl [.rd 0 true,.rd 1 true,.rd 2 false,.rd 4 true,.rd 5 false,.rd 6 false,.rd 7 true,.rd 8 false,.rd 10 false] 3 [0,4,7] [.ef 9 [0,1,4],.rd 11 false,.ef 12 [],.rd 13 false] 9 [0,1,4] [.ef 3 [0,4,7],.rd 11 false,.ef 12 [],.rd 13 false] (by kernel_rfl) (by kernel_rfl) (by kernel_rfl) (by kernel_rfl) ?_;simp only[go_sem,c2.g1];constructor
  case' left=>
   refine(Aat r first hr).mono ?_;rintro _ σ2 ⟨rfl,rfl⟩;simp only[go_sem,c2.g1];refine⟨by omega,by omega,N2 fun gb hgb hgn=>?_⟩;have c3:=c2.new (o:=.rows 4 (List.replicate r.bo.length [str emp,str emp,str emp,A4]) false r.bo.length) hgb;obtain⟨σ3,e3⟩:∃s,s=σ2.set gb (.rows 4 (List.replicate r.bo.length [str emp,str emp,str emp,A4]) false r.bo.length):=⟨_,rfl⟩;rw[←e3]at c3⊢;simp only[go_sem,c3.g2]
  case' right=>
   refine⟨by omega,by omega,N2 fun gb hgb hgn=>?_⟩;have c3:=c2.new (o:=.rows 4 (List.replicate r.bo.length [str emp,str emp,str emp,A4]) false r.bo.length) hgb;obtain⟨σ3,e3⟩:∃s,s=σ2.set gb (.rows 4 (List.replicate r.bo.length [str emp,str emp,str emp,A4]) false r.bo.length):=⟨_,rfl⟩;rw[←e3]at c3⊢;simp only[go_sem,c3.g2];refine(Aat r first hr).p ?_;simp only[go_sem,c3.g2]
  all_goals
   repeat' refine And.intro (Nat.le_of_ble_eq_true (by kernel_rfl)) ?_
   refine And.intro (by kernel_rfl) ?_;refine c3.alloc (o:=.cells (fiC r (.sl 1 (inC (Iz (Ht r first)))) f (.sl 4 (faC l)) (slv gb r.bo.length r.bo.length) A4 first)) fun x σ4 c4=>?_;simp only[go_sem];obtain⟨σ5,e5⟩:∃s,s=σ4.set gb (.rows 4 (faC (List.replicate r.bo.length Fa.zero)) false r.bo.length):=⟨_,rfl⟩;have k4:=c4.g3;have hE0:EI σ σ5 x r (Ht r first) f l first (List.replicate r.bo.length .zero) []:=by
    rw[e5];refine⟨gb,A4,[],?_,?_,.inl ⟨rfl,.inl rfl⟩,rfl,fun i hi=>by simp at hi,fun y o hy=>⟨?_,fun e=>?_,fun e=>?_,B4⟩,fun e=>by cases e⟩
    ·rw[Ag k4.2.1,List.length_replicate];exact k4.1.1
    ·rw[Ab,List.length_replicate]
    ·have h1:=c4.f1
     rw[Ag (fun e=>by rw[e]at hy;rw[hy]at h1;cases h1)];exact c4.sub _ _ hy
    ·have h1:=c4.f0
     rw[e]at hy;rw[hy]at h1;cases h1
    ·have h1:=c4.f1
     rw[e]at hy;rw[hy]at h1;cases h1
   have hSV:SV σ4 σ5:=by
    rw[e5];refine Ks k4.1.2.1 ⟨rfl,rfl,rfl,by simp[faC],fun i hi=>?_⟩ fun y o hne hy=>hy;have hi':i<r.bo.length:=by simpa using hi
    have g1:(List.replicate r.bo.length [str emp,str emp,str emp,A4]).getD i []=[str emp,str emp,str emp,A4]:=by
     simp[List.getD_eq_getElem?_getD,hi']
    have g2:(faC (List.replicate r.bo.length Fa.zero)).getD i []=[str emp,str emp,str emp,.sl 3 []]:=by
     rw[Aq (by simpa using hi')];simp[Fa.cs,Fa.zero,cnC]
    rw[g1,g2];exact vws_same (vws_same (vws_same (vws_cons (.nil 3) By)))
   refine AT.pre (args':=[ptr x,int 0,.sl 4 (biC env)]) ((An0 r (Ht r first) first f l hr hf hl hls (by rw[(Pm r first).2.1];exact hr1) (Kp r first) (Pm r first).1.2 (Ht r first).length 0 (by omega) (by simp) (by omega) hE0 (by rw[List.drop_zero,←ef];simpa using hn)).mono ?_) (by kernel_rfl) hSV (Bu _);rintro _ σ6 ⟨got',_,_,hE⟩;rw[List.drop_zero,←ef,List.nil_append]at hE;obtain⟨gb',lo,es,h1,h2,h3,h4,h5,h6,h7⟩:=hE;simp only[go_sem,h1];rcases h3 with⟨rfl,hlo|hlo⟩|⟨b,cap,rfl,hcap,hb⟩
   case' inl.inr=>exact absurd hlo h7
   case' inl.inl=>
    subst hlo;refine(Aa9 _).mono ?_;rintro _ σ6 rfl;simp only[go_sem,h1];refine(Za _).mono ?_;rintro _ σ7 ⟨rfl,rfl⟩;have e0:Je r me first f l=[]:=List.eq_nil_of_length_eq_zero (by simpa using h4.symm);obtain⟨v7,hv7⟩:∃v,v=A4:=⟨_,rfl⟩;obtain⟨β',L,hM⟩:∃(β':St) (L:List (BV β' σ)),Ow 1 σ7 v7 (L.map BV.en)∧(∀c o,β' c=some o→σ7 c=some o)∧L.map BV.bd=Ea r me first f l∧(∀y o,σ y=some o→σ7 y=some o)∧(∀y,Own v7 y→σ y=none)∧L.length≤1000000:=
     ⟨fun _=>none,[],.inl ⟨rfl,.inl hv7⟩,fun c o h=>(by cases h),by unfold Ea;rw[e0];rfl,fun y o hy=>(h6 y o hy).1,fun y hy=>by rw[hv7]at hy;exact absurd hy B4,by simp⟩
    rw[←hv7]
   case' inr=>
    have hxb:x≠b:=fun e=>by subst e;rw[h1]at hb;cases hb
    obtain⟨β',hβ⟩:∃β':St,β'=fun y=>if y=b∨y=x then none else σ6 y:=⟨_,rfl⟩
    have hbb:β' b=none:=by rw[hβ];simp
    have hsub:∀y o,β' y=some o→σ6 y=some o∧y≠b∧y≠x:=fun y o hy=>by
     rw[hβ]at hy;simp only at hy;split at hy
     ·cases hy
     ·rename_i hn;exact⟨hy,fun e=>hn (.inl e),fun e=>hn (.inr e)⟩
    have hin:∀y o,σ6 y=some o→y≠b→y≠x→β' y=some o:=fun y o hy n1 n2=>by
     rw[hβ];simp only;rw[if_neg (by rintro(e|e);exact n1 e;exact n2 e)];exact hy
    have hsm:=Xb r.ho r.bo (Ca first f l) (fun k y hy=>by
     unfold Ca at hy;split at hy
     ·rw[List.mem_singleton.1 hy];exact hf
     ·exact hls y hy) (Ht r first) env (List.replicate r.bo.length .zero) (fun y hy=>by rw[(List.mem_replicate.1 hy).2];simp[Fa.zero,Fa.Sm])
    rw[←ef]at hsm;obtain⟨L0,hL1,hL2⟩:∃L0:List (BV β' σ),L0.map BV.en=es∧L0.map BV.bd=Je r me first f l:=V1 es _ h4 fun i hi=>by
     obtain⟨v,v1,v2,v3,v4⟩:=h5 i hi;have sm:=hsm _ (List.getElem_mem hi);refine⟨⟨_,v,v2.keep fun y o hy ho=>hin y o hy (fun e=>?_) (fun e=>?_),⟨?_,sm.2⟩,v4⟩,v1,rfl⟩
     ·subst e
      obtain⟨c,hc⟩:=v2.lat.own_rows ho;rw[hb]at hc;cases hc
     ·subst e
      obtain⟨c,hc⟩:=v2.lat.own_rows ho;rw[h1]at hc;cases hc
     ·rw[sm.1];simp;omega
    have hb0:σ6 b=some (.rows 1 (rw' BV.en L0.toArray) false cap):=by rw[hb,←hL1];simp[rw']
    have hlen:es.length=L0.length:=by rw[←hL1,List.length_map]
    refine(L.sort_at (fun _=>rfl) BV.one BV.cells BV.ord_at hbb (n:=es.length) (by omega) BV.swo hb0 (fun y o hy=>(hsub y o hy).1) (by simpa using hlen.symm)).mono ?_;rintro _ _ ⟨d',rfl,hp,hsd⟩;have hdl:es.length=d'.toList.length:=by rw[hp.length_eq,hlen]
    have hx7:(σ6.set b (.rows 1 (rw' BV.en d') false cap)) x=some (.cells (fiC r (.sl 1 (inC (Iz (Ht r first)))) f (.sl 4 (faC l)) (slv gb' got'.length got'.length) (slv b es.length cap) first)):=by rw[Ag hxb];exact h1
    simp only[go_sem,hx7];rw[hdl];refine(L.compact_at (fun _=>rfl) BV.one BV.cells BV.eq_at hbb (l:=d'.toList) Ab (A0 hbb fun y o hy=>(hsub y o hy).1) (by omega) (by omega)).p ?_;rw[Ct];obtain⟨σ7,hσ7⟩:∃s,s=σ6.set b (.rows 1 ((Gm BV.eq d'.toList).map BV.en) false cap):=⟨_,rfl⟩;rw[←hσ7];obtain⟨v7,hv7⟩:∃v,v=slv b (Gm BV.eq d'.toList).length cap:=⟨_,rfl⟩;have hsz:d'.size=es.length:=by simpa using hdl.symm
    obtain⟨β',L,hM⟩:∃(β':St) (L:List (BV β' σ)),Ow 1 σ7 v7 (L.map BV.en)∧(∀c o,β' c=some o→σ7 c=some o)∧L.map BV.bd=Ea r me first f l∧(∀y o,σ y=some o→σ7 y=some o)∧(∀y,Own v7 y→σ y=none)∧L.length≤1000000:=by
     refine⟨β',Gm BV.eq d'.toList,.inr ⟨b,cap,by rw[List.length_map];exact hv7,?_,by rw[hσ7];exact Ab⟩,fun c o hc=>?_,?_,fun y o hy=>?_,fun y hy=>?_,by have:=S1 BV.eq d'.toList;omega⟩
     ·have:=S1 BV.eq d'.toList
      rw[List.length_map];omega
     ·rw[hσ7,Ag (hsub c o hc).2.1];exact(hsub c o hc).1
     ·unfold Ea
      refine BV.done ?_ (by rw[hsz];exact hsd);rw[←hL2];exact(hp.map BV.bd)
     ·have:=h6 y o hy
      rw[hσ7,Ag fun e=>this.2.2.2 (B6.2 e)];exact this.1
     ·rw[hv7]at hy
      have e:=B6.1 hy;subst e;cases h:σ y with
      |none=>rfl
      |some o=>exact absurd (B6.2 rfl) (h6 y o h).2.2.2
    rw[←hv7]
   all_goals
    clear h1 h4 h5 h6 h7 hE0 hSV e5 k4 c4 c3 e3;obtain⟨q1,q2,q3,q4,q5,q6⟩:=hM;have hJ0:JB σ σ7 σ7 v7 (L.map BV.en) (fun _ _=>False):=⟨q4,q1,fun c b cap h7 h0=>⟨_,h7,by simp[faC],fun j hj=>⟨.sl 3 (cnC b[j].ar),by rw[Aq hj];rfl,.inl ⟨rfl,fun h=>h⟩⟩⟩⟩;simp only[go_sem,Aa,q1.lat.len];refine⟨fun m fr σ'=>∃i:Nat,m=L.length-i∧i≤L.length∧JB σ σ7 σ' v7 (L.map BV.en) (fun c _=>∃k,∃h:k<L.length,k<i∧Own L[k].v c)∧fr 14=v7∧fr 54=v7∧fr 55=int L.length∧fr 56=int i,⟨_,0,rfl,by omega,hJ0.weak (fun c b cap j h1 h2 ⟨k,_,h3,_⟩=>by omega),rfl,rfl,rfl,rfl⟩,?_⟩;rintro m fr σ8 ⟨i,rfl,hi,hJ,f14,f54,f55,f56⟩;simp only[go_sem,f55,f56];refine aIf_by (fun hlt=>?_) (fun hlt=>?_)
    ·have hil:i<L.length:=by omega
     obtain⟨X,hX⟩:∃X,X=L[i]:=⟨_,rfl⟩;have eg:(L.map BV.en).getD i []=[X.v]:=by rw[hX];simp[List.getD_eq_getElem?_getD,hil,BV.en]
     simp only[go_sem,Aa,f54,f56];refine hJ.2.1.lat.elem (by omega) (by rw[List.length_map];omega) fun e he=>?_;simp only[go_sem,Aa];refine he.load1 (by decide) (by rw[Int.toNat_natCast,eg];exact Nat.le_refl 1) ?_;simp only[go_sem,Aa,eg,X.ow.lat.len,Aj];refine⟨fun mm fr σ9=>∃j:Nat,mm=X.bd.length-j∧j≤X.bd.length∧JB σ σ7 σ9 v7 (L.map BV.en) (fun c j'=>(∃k,∃h:k<L.length,k<i∧Own L[k].v c)∨(Own X.v c∧j'<j))∧fr 14=v7∧fr 16=X.v∧fr 54=v7∧fr 55=int L.length∧fr 56=int i∧fr 61=int X.bd.length∧fr 62=int j,⟨_,0,rfl,by omega,hJ.weak (fun c b cap j h1 h2 h3=>h3.resolve_right fun h=>by omega),f14,rfl,f54,f55,f56,rfl,rfl⟩,?_⟩;clear f14 f54 f55 f56 hJ fr he e;rintro mm fr σ9 ⟨j,rfl,hj,hJ,f14,f16,f54,f55,f56,f61,f62⟩;simp only[go_sem,f61,f62];refine aIf_by (fun hlt2=>?_) (fun hlt2=>?_)
     ·have hjl:j<X.bd.length:=by omega
      have hsl:=X.sm.1;have hsj:=X.sm.2 _ (List.getElem_mem hjl);rcases X.ow with⟨h0,_⟩|⟨c,cap,hv,hcap,hc⟩
      ·have:=congrArg List.length h0
       rw[Aj,List.length_nil]at this;omega
      ·have hown:∀y,Own X.v y↔y=c:=fun y=>by rw[hv];exact B6
       have h0:=X.fr c ((hown c).2 rfl);have h7:=q2 _ _ hc;obtain⟨es9,g1,g2,g3⟩:=hJ.2.2 c _ cap h7 h0;obtain⟨a,ga,gb2⟩:=g3 j hjl;have hR:Rd 3 σ9 a (cnC X.bd[j].ar):=by
        rcases gb2 with⟨rfl,_⟩|⟨h,_⟩
        ·exact .sl
        ·exact .of h.lat
       rw[Aj]at hv;simp only[go_sem,Aa,f16,f62,hv,g1,ga];refine⟨by omega,by omega,(Qe X.bd[j].ar hsj hR).mono ?_⟩;rintro lv σ10 ⟨hO,hG⟩;have g10:=hG.sub _ _ g1;simp only[go_sem,Aa,f16,f62,hv,g10,ga,hO.lat.one,hO.lat.cells,As j (by omega)];refine⟨by omega,by omega,?_⟩;have hJ':JB σ σ7 (σ10.set c (.rows 4 (es9.set j (faX X.bd[j] lv)) false cap)) v7 (L.map BV.en) (fun c j'=>(∃k,∃h:k<L.length,k<i∧Own L[k].v c)∨(Own X.v c∧j'<j+1)):=hJ.put hG.sub h7 h0 g1 hjl hO (fun y hy=>Df hJ.1 (hG.own hy)) fun c' j' h=>by
        rcases h with h|⟨h,hlt3⟩
        ·exact .inl (.inl h)
        ·have e:=(hown c').1 h
         by_cases ej:j'=j
         ·exact .inr ⟨e,ej⟩
         ·exact .inl (.inr ⟨h,by omega⟩)
       rw[hv]at hJ';refine⟨X.bd.length-(j+1),by omega,j+1,rfl,by omega,hJ',?_⟩
       (and_intros<;>first|assumption|rfl|omega)
     ·simp only[go_sem,Aa,f14,f54,f55,f56,As i (by omega)]
      have hJ':JB σ σ7 σ9 v7 (L.map BV.en) (fun c _=>∃k,∃h:k<L.length,k<i+1∧Own L[k].v c):=?_
      ·refine⟨L.length-(i+1),by omega,i+1,rfl,by omega,hJ',?_⟩
       (and_intros<;>first|assumption|rfl|omega)
      refine hJ.weak fun c b cap j' h7 hj' ⟨k,hk,hki,ho⟩=>?_;by_cases e:k=i
      ·subst e
       rw[←hX]at ho;refine .inr ⟨ho,?_⟩;rcases X.ow with⟨_,h|h⟩|⟨c',cap',hv,hcap,hc⟩
       ·rw[h]at ho;exact absurd ho B4
       ·rw[h]at ho;exact absurd ho A3
       ·rw[hv]at ho
        have e:=B6.1 ho;subst e;rw[q2 _ _ hc]at h7;injection h7 with h7;injection h7 with _ h7 _ _;rw[←Aey h7]at hj';omega
      ·exact .inl ⟨k,hk,by omega,ho⟩
    ·obtain rfl:i=L.length:=by omega
     simp only[go_sem,Aa,f14];refine Ae (r:=v7) rfl ⟨hJ.1,q5,L.map BV.en,hJ.2.1,by rw[←q3];simp,fun k hk=>?_⟩;have hkl:k<L.length:=by rw[←q3]at hk;simpa using hk
     have ek:(Ea r me first f l)[k]=L[k].bd:=by
      have:=List.getElem_of_eq q3.symm hk;rw[this,List.getElem_map]
     rw[ek];refine⟨L[k].v,by simp[List.getD_eq_getElem?_getD,hkl,BV.en],?_⟩;rcases L[k].ow with⟨h0,h⟩|⟨c,cap,hv,hcap,hc⟩
     ·exact .inl ⟨List.map_eq_nil_iff.1 h0,h⟩
     ·rw[Aj]at hv hcap
      have hown:Own L[k].v c:=by rw[hv];exact B6.2 rfl
      obtain⟨es9,g1,g2,g3⟩:=hJ.2.2 c _ cap (q2 _ _ hc) (L[k].fr c hown);refine .inr ⟨c,cap,hv,hcap,L[k].fr c hown,es9,g1,g2,fun j hj=>?_⟩;obtain⟨a,ga,gb2⟩:=g3 j hj;exact⟨a,ga,.inr (gb2.resolve_left fun h=>h.2 ⟨k,hkl,hkl,hown⟩)⟩
end
theorem Abj{n:Nat}{cs:List AV}(h:Ty Tryz.prog (n+3) 88 cs):∃t:Tm,cs=t.cs:=by
 have hx:=Ul Tryz.underlying88 h;obtain⟨x1,y1,rfl,h1,x2,y2,rfl,h2,rfl⟩:=hx;obtain⟨v,rfl,_⟩:=Jh Tryz.underlying9 h1;have hc:=Ul Tryz.underlying86 h2;obtain⟨x3,y3,rfl,h3,x4,y4,rfl,h4,x5,y5,rfl,h5,rfl⟩:=hc;obtain⟨b,rfl⟩:=Agf Tryz.underlying4 h3;obtain⟨k,rfl,_⟩:=Adx Tryz.underlying3 h4;obtain⟨s,rfl,_⟩:=Jh Tryz.underlying9 h5;exact⟨⟨v,b,k,s⟩,rfl⟩
theorem Adw{n:Nat}:∀(es:List (List AV)),(∀x∈es,Ty Tryz.prog (n+3) 88 x)→∃l:List Tm,es=tmC l
 | [],_=>⟨[],rfl⟩
 |x::es,h=>by
  obtain⟨l,rfl⟩:=Adw es fun y hy=>h y (by simp[hy]);obtain⟨t,rfl⟩:=Abj (h x (by simp));exact⟨t::l,rfl⟩
theorem Auc{n:Nat}{cs:List AV}(h:Ty Tryz.prog (n+5) 104 cs):∃l:Li,cs=l.cs∧l.Wf:=by
 have hx:=Ul Tryz.underlying104 h;obtain⟨x1,y1,rfl,h1,x2,y2,rfl,h2,x3,y3,rfl,h3,x4,y4,rfl,h4,rfl⟩:=hx;obtain⟨a,rfl⟩:=Abj h1;obtain⟨nm,rfl,hn⟩:=Jh Tryz.underlying9 h2;obtain⟨es,rfl,hl,he⟩:=Uk Tryz.underlying89 h3;obtain⟨ts,rfl⟩:=Adw es he;obtain⟨c,rfl⟩:=Abj h4;have e1:Tryz.prog.cellsOf 88=4:=by kernel_rfl
 have e2:Tryz.prog.bytesOf 88=48:=by kernel_rfl
 rw[e1];rw[e2,Ku]at hl;exact⟨⟨a,nm,ts,c⟩,rfl,by show ts.length≤_;omega,hn⟩
theorem Akk{n:Nat}:∀(es:List (List AV)),(∀x∈es,Ty Tryz.prog (n+5) 104 x)→∃l:List Li,es=liC l∧∀x∈l,x.Wf
 | [],_=>⟨[],rfl,fun x hx=>by cases hx⟩
 |x::es,h=>by
  obtain⟨l,rfl,hl⟩:=Akk es fun y hy=>h y (by simp[hy]);obtain⟨t,rfl,ht⟩:=Auc (h x (by simp));exact⟨t::l,rfl,fun y hy=>by rcases List.mem_cons.1 hy with rfl|hy;exact ht;exact hl y hy⟩
theorem Auo{n:Nat}{cs:List AV}(h:Ty Tryz.prog (n+7) 92 cs):∃r:Rl,cs=r.cs∧r.Wf:=by
 have hx:=Ul Tryz.underlying92 h;obtain⟨x1,y1,rfl,h1,x2,y2,rfl,h2,x3,y3,rfl,h3,x4,y4,rfl,h4,x5,y5,rfl,h5,rfl⟩:=hx;obtain⟨a,rfl⟩:=Abj h1;obtain⟨nm,rfl,hn⟩:=Jh Tryz.underlying9 h2;obtain⟨es,rfl,hl,he⟩:=Uk Tryz.underlying89 h3;obtain⟨ts,rfl⟩:=Adw es he;obtain⟨c,rfl⟩:=Abj h4;obtain⟨es,rfl,hl2,he⟩:=Uk Tryz.underlying90 h5;obtain⟨ls,rfl,hls⟩:=Akk es he;have e1:Tryz.prog.cellsOf 88=4:=by kernel_rfl
 have e2:Tryz.prog.bytesOf 88=48:=by kernel_rfl
 have e3:Tryz.prog.cellsOf 104=10:=by kernel_rfl
 have e4:Tryz.prog.bytesOf 104=136:=by kernel_rfl
 rw[e1,e3];rw[e2,Ku]at hl;rw[e4,D7]at hl2;exact⟨⟨a,nm,ts,c,ls⟩,rfl,by show ts.length≤_;omega,hn,by show ls.length≤_;omega,hls⟩
def Kh(r:Rl)(me:ByteArray)(first:Int)(f:Fa)(l:List Fa):List (List Fa)×Nat:=
 match Bd r.ho (nmC me) []with
 |some env=>frm r.ho (lsF r first f l 0 r.bo.length) env [] ([],0)
 |none=>([],0)
theorem Vz(r:Rl)(first:Int):(Ht r first).Perm (List.range' 0 r.bo.length):=by
 obtain⟨h1,h2,_⟩:=Pm r first;refine(List.perm_ext_iff_of_nodup h1.1 (by simp[List.nodup_range'])).2 fun k=>?_;rw[List.mem_range'_1];constructor
 ·intro hk;have:=h1.2 k hk;omega
 ·intro hk
  refine Classical.byContradiction fun hn=>?_
  have:Perm r.bo.length (k::Ht r first):=⟨List.nodup_cons.2 ⟨hn,h1.1⟩,fun j hj=>by
   rcases List.mem_cons.1 hj with rfl|hj
   ·omega
   ·exact h1.2 j hj⟩
  have:=J0 _ _ this;simp only[List.length_cons]at this;omega
theorem Ahc{α:Type}{c:α→α→Int}(h:Gp c){l m:List α}(hp:∀y,y∈l↔y∈m):Aw c [] l=Aw c [] m:=
 D2 h (Bh h .nil) (Bh h .nil) fun y=>by rw[Ar h,Ar h,hp]
theorem Am7{r:Rl}{me:ByteArray}{first:Int}{f:Fa}{l:List Fa}(h:(Kh r me first f l).2≤30000):(Kh r me first f l).1=Ea r me first f l∧(Je r me first f l).length≤30001:=by
 unfold Kh Ea Je at*;cases hu:Bd r.ho (nmC me) []with
 |none=>exact⟨rfl,by simp⟩
 |some env=>
  rw[hu]at h;simp only at h⊢;obtain⟨h1,h2⟩:=Ajz r.ho (lsF r first f l 0 r.bo.length) env [] ([],0) h;have e1:=Xa r.ho r.bo (Ca first f l) r.bo.length 0 env (List.replicate r.bo.length .zero) (by simp);rw[List.take_zero]at e1;have hp:=Vh (ho:=r.ho) (bo:=r.bo) (cand:=Ca first f l) (Vz r first) (Kp r first) env (List.replicate r.bo.length .zero);rw[e1]at hp;have e2:lvF r.ho (lsF r first f l 0 r.bo.length) env []=lvF r.ho ((List.range' 0 r.bo.length).map fun i=>(r.bo.getD i .zero,Ca first f l i)) env []:=rfl;refine⟨by rw[h1,e2];exact Ahc Dm fun y=>hp.mem_iff.symm,?_⟩;rw[hp.length_eq,←e2];simp only at h2;split at h2<;>omega
section
variable{β σ:St}{x:Nat}
theorem Adb(r:Rl)(me:ByteArray)(first:Int)(f:Fa)(l:List Fa)(hr:r.S3)(hf:f.Sm)(hl:l.length≤1000000)(hls:∀y∈l,y.Sm)(h:FI β σ x [] 0):AT Tryz.prog 122 [ptr x,.agg r.cs,str me,int first,.agg f.cs,.sl 4 (faC l)] σ fun _ σ'=>FI β σ' x (Kh r me first f l).1 (Kh r me first f l).2:=by
 refine AT.ob Tryz.func122 rfl ?_;simp only[go_sem];refine Ctx.nil.alloc fun p σ1 c1=>?_;simp only[go_sem];refine c1.alloc fun q σ2 c2=>?_;simp only[go_sem];refine Af [.rd 0 false,.rd 1 true,.rd 2 false,.ef 3 [1],.ef 4 [],.rd 5 false,.rd 6 false,.rd 7 false,.rd 8 false,.rd 9 false] ?_;simp only[go_sem,c2.g1];refine(Ml me).p ?_;simp only[go_sem,c2.g1];refine(AT.weak (H6 r.ho (nmC me) [] (by simp)) (vws_same (vws_same (vws_cons (.nil 4) By)))).p ?_;have h2:=h.mono c2.sub;cases hu:Bd r.ho (nmC me) []with
 |none=>
  have e:Kh r me first f l=([],0):=by unfold Kh;rw[hu]
  rw[e];simp only[go_sem];exact Ae (r:=.tup []) rfl h2
 |some env=>
  have e:Kh r me first f l=frm r.ho (lsF r first f l 0 r.bo.length) env [] ([],0):=by unfold Kh;rw[hu]
  rw[e];have hel:=Gi hu;simp only[List.length_nil]at hel;simp only[go_sem,c2.g1];refine(AT.weak (Aot r first f l hr hf hl hls r.bo.length 0 (env:=env) (got:=[]) (by omega) rfl (by omega) (fun y hy=>by cases hy) h2 (by simp) (by omega) (fun a ha=>by cases ha)) (vws_same (vws_same (vws_same (vws_same (vws_same (vws_same (vws_cons (.nil 4) By)))))))).mono ?_;intro _ σ3 h3;simp only[go_sem];exact Ae (r:=.tup []) rfl h3
end
def Cy(ho:Tm):List Li→List Fa→List Bi→Option (List Bi)
 | [],[],e=>some e
 |l::ls,x::xs,e=>(Be ho l x e).bind (Cy ho ls xs)
 |_,_,_=>none
theorem Rx{ho:Tm}:∀{ls:List Li} {xs:List Fa} {e e':List Bi},Cy ho ls xs e=some e'→xs.length=ls.length
 | [],[],_,_,_=>rfl
 |l::ls,x::xs,e,e',h=>by
  obtain⟨m,_,h2⟩:=Option.bind_eq_some_iff.1 h;rw[List.length_cons,List.length_cons,Rx h2]
 | [],_::_,_,_,h=>by cases h
 |_::_,[],_,_,h=>by cases h
theorem Acw{ho:Tm}{b:List Fa}:∀{ls:List (Li×List Fa)} {env:List Bi} {got:List Fa},b∈lvF ho ls env got↔∃t,b=got++t∧(Cy ho (ls.map Prod.fst) t env).isSome=true∧∀i (h1:i<ls.length) (h2:i<t.length),t[i]∈ls[i].2
 | [],env,got=>by
  simp only[lvF,List.mem_singleton,List.map_nil];constructor
  ·rintro rfl
   exact⟨[],by simp,rfl,fun i h1=>by simp at h1⟩
  ·rintro⟨t,rfl,h,_⟩
   cases t with
   |nil=>simp
   |cons x t=>simp[Cy]at h
 |p::ls,env,got=>by
  simp only[lvF,List.mem_flatMap,List.map_cons];constructor
  ·rintro⟨x,hx,h⟩
   cases hl:Be ho p.1 x env with
   |none=>rw[hl]at h;cases h
   |some e=>
    rw[hl]at h;obtain⟨t,rfl,h1,h2⟩:=Acw.1 h;refine⟨x::t,by simp,?_,fun i k1 k2=>?_⟩
    ·show((Be ho p.1 x env).bind _).isSome=true
     rw[hl];exact h1
    ·cases i with
     |zero=>exact hx
     |succ i=>exact h2 i (by simpa using k1) (by simpa using k2)
  ·rintro⟨t,rfl,h,h2⟩
   cases t with
   |nil=>simp[Cy]at h
   |cons x t=>
    have h:((Be ho p.1 x env).bind (Cy ho (ls.map Prod.fst) t)).isSome=true:=h;cases hl:Be ho p.1 x env with
    |none=>rw[hl]at h;cases h
    |some e=>
     rw[hl]at h;refine⟨x,h2 0 (by simp) (by simp),?_⟩;rw[hl];exact Acw.2 ⟨t,by simp,h,fun i k1 k2=>h2 (i+1) (by simpa using k1) (by simpa using k2)⟩
theorem Asn(r:Rl)(first:Int)(f:Fa)(l:List Fa):(lsF r first f l 0 r.bo.length).map Prod.fst=r.bo:=by
 unfold lsF;rw[List.map_map];refine List.ext_getElem (by simp) fun i h1 h2=>?_;simp[List.getD_eq_getElem?_getD,h2]
theorem Akz{r:Rl}{first:Int}{f:Fa}{l:List Fa}{env:List Bi}{b:List Fa}:b∈Ce r.ho r.bo (Ca first f l) (Ht r first) env (List.replicate r.bo.length .zero)↔(Cy r.ho r.bo b env).isSome=true∧∀i (h:i<b.length),b[i]∈Ca first f l i:=by
 rw[(Vh (Vz r first) (Kp r first) env _).mem_iff,Xa r.ho r.bo _ r.bo.length 0 env _ (by simp),List.take_zero];have e2:lvF r.ho ((List.range' 0 r.bo.length).map fun i=>(r.bo.getD i .zero,Ca first f l i)) env []=lvF r.ho (lsF r first f l 0 r.bo.length) env []:=rfl;rw[e2,Acw,Asn];have hl:(lsF r first f l 0 r.bo.length).length=r.bo.length:=by simp[lsF]
 have hg:∀i (h:i<(lsF r first f l 0 r.bo.length).length),(lsF r first f l 0 r.bo.length)[i].2=Ca first f l i:=fun i h=>by simp[lsF]
 constructor
 ·rintro⟨t,rfl,h1,h2⟩
  obtain⟨e',he⟩:=Option.isSome_iff_exists.1 h1;have:=Rx he
  exact⟨h1,fun i h=>by
   have h3:=h2 i (by rw[hl];omega) h;rw[hg]at h3;exact h3⟩
 ·rintro⟨h1,h2⟩
  exact⟨b,rfl,h1,fun i k1 k2=>by rw[hg];exact h2 i k2⟩
theorem Xq{r:Rl}{me:ByteArray}{first:Int}{f:Fa}{l:List Fa}{b:List Fa}:b∈Ea r me first f l↔∃env,Bd r.ho (nmC me) []=some env∧(Cy r.ho r.bo b env).isSome=true∧∀i (h:i<b.length),b[i]∈Ca first f l i:=by
 unfold Ea Je;rw[Ar Dm];cases hu:Bd r.ho (nmC me) []with
 |none=>simp
 |some env=>simp only[Akz,List.not_mem_nil,or_false,Option.some.injEq,exists_eq_left']
theorem Amu{r:Rl}{me:ByteArray}{first:Int}{f:Fa}{l:List Fa}{b:List Fa}(h:b∈Ea r me first f l):b.length=r.bo.length:=by
 obtain⟨env,_,h2,_⟩:=Xq.1 h;obtain⟨e,he⟩:=Option.isSome_iff_exists.1 h2;exact Rx he
theorem V5{α:Type}{c:α→α→Int}(h:Gp c):∀{k l:List α},B5 c l→B5 c k→(∀y,y∈l→y∈k)→l.length≤k.length
 |k,[],_,_,_=>by simp
 | [],x::l,_,_,hs=>by have:=hs x (by simp);cases this
 |y::k,x::l,hl,hk,hs=>by
  obtain⟨h1,h2⟩:=List.pairwise_cons.1 hl;obtain⟨k1,k2⟩:=List.pairwise_cons.1 hk;have irr:∀z,¬c z z<0:=fun z hz=>by rw[h.self]at hz;omega
  have:l.length≤k.length:=by
   refine V5 h h2 k2 fun z hz=>?_;rcases List.mem_cons.1 (hs z (by simp[hz]))with e|hz'
   ·exfalso
    subst e;have hx:=h1 z hz;rcases List.mem_cons.1 (hs x (by simp))with e|hx'
    ·subst e;exact irr _ hx
    ·exact irr _ (h.trans _ _ _ hx (k1 x hx'))
   ·exact hz'
  simp only[List.length_cons];omega
def InC(σ0 σ:St)(c:Nat)(out:List Fa):Prop:=∃lv,σ c=some (.cells [lv])∧Ow 4 σ lv (faC out)∧∀y o,σ0 y=some o→σ y=some o∧¬Own lv y∧y≠c
theorem InC.more{σ0 σ σ':St}{c:Nat}{out:List Fa}(h:InC σ0 σ c out)(hs:∀y o,σ y=some o→σ' y=some o):InC σ0 σ' c out:=by
 obtain⟨lv,h1,h2,h3⟩:=h;exact⟨lv,hs _ _ h1,h2.sub hs,fun y o hy=>⟨hs _ _ (h3 y o hy).1,(h3 y o hy).2⟩⟩
structure LyF(B:List De)(base out:List Fa):Prop where
 ris:B5 Ai out
 own:∀x∈out,x∈base∨∃d∈B,d.hd=x
theorem LyF.len{B:List De}{base out:List Fa}(h:LyF B base out):out.length≤base.length+B.length:=by
 have h1:=V5 Ah h.ris (Bh (l:=B.map De.hd) Ah (Bh (l:=base) Ah .nil)) fun y hy=>by
  rw[Ar Ah,Ar Ah];rcases h.own y hy with h|⟨d,hd,e⟩
  ·exact .inr (.inl h)
  ·exact .inl (List.mem_map.2 ⟨d,hd,e⟩)
 have h2:=Bn (c:=Ai) (s:=Aw Ai [] base) (l:=B.map De.hd);have h3:=Bn (c:=Ai) (s:=[]) (l:=base);simp only[List.length_map,List.length_nil]at h2 h3;omega
theorem LyF.step{B:List De}{base out:List Fa}{d:De}(hd:d∈B)(h:LyF B base out):LyF B base (A1 Ai d.hd out):=⟨Fu Ah h.ris,fun x hx=>by
 rcases(Cs Ah).1 hx with rfl|hx
 ·exact .inr ⟨d,hd,rfl⟩
 ·exact h.own x hx⟩
section
variable{σ:St}{t c:Nat}{B:List De}
theorem Aj5{σ0:St}{out:List Fa}(h:InC σ0 σ c out)(hr:B5 Ai out)(hl:out.length≤4000000000000)(hs:∀y∈out,y.Sm)(f:Fa)(hf:f.Sm):AT Tryz.prog 178 [.agg f.cs,ptr c] σ fun r σ'=>r=boo (decide (f∈out))∧σ'=σ:=by
 refine AT.ob Tryz.func178 rfl ?_;obtain⟨lv,h1,h2,h3⟩:=h;simp only[go_sem];refine Ctx.nil.alloc fun p σ1 c1=>?_;have hp:=c1.g0;have hsb:=c1.sub;clear c1;simp only[go_sem,hp,hsb _ _ h1];refine(BF.bsearch_at out f hl hs hf hr (.of (h2.sub hsb).lat)).mono ?_;rintro _ σ1 ⟨⟨k,rfl,hk⟩,rfl⟩;simp only[go_sem];exact Ad (r:=boo _) rfl _ σ (An hsb) ⟨rfl,rfl⟩
theorem Ace{v0:AV}(h:BK σ t B)(hB:BOk B)(base:List Fa)(h0:Rd 4 σ v0 (faC base))(hl:base.length≤50000000000)(hls:∀f∈base,f.Sm):AT Tryz.prog 130 [ptr t,v0] σ fun v σ'=>Made σ σ' v (Cb B base):=by
 refine AT.ob Tryz.func130 rfl ?_;have hbs:=hB.sm;have hbl:=hB.len;have sm:∀{out:List Fa},LyF B base out→∀y∈out,y.Sm:=fun h y hy=>by
  rcases h.own y hy with h|⟨d,hd,rfl⟩
  ·exact hls y h
  ·exact(hbs d hd).1
 simp only[go_sem];refine(N9 h).p ?_;simp only[go_sem];refine(Kq base h0 (by omega) hls).mono ?_;rintro lv σ1 ⟨hO,hs1,hn1⟩;simp only[go_sem];refine Ay fun c hc hcn=>?_;simp only[go_sem,hO.lat.one,hO.lat.cells,Ab];simp only[Fq,C9];have hcσ:σ c=none:=Df hs1 hc
 have hI0:InC σ (σ1.set c (.cells [lv])) c (Aw Ai [] base):=⟨lv,Ab,hO.sub fun y o hy=>by rw[Ag (fun e=>by rw[e,hc]at hy;cases hy)];exact hy,fun y o hy=>by
  have hyc:y≠c:=fun e=>by rw[e,hcσ]at hy;cases hy
  exact⟨by rw[Ag hyc];exact hs1 _ _ hy,(fun ho=>by rw[hn1 y ho]at hy;cases hy),hyc⟩⟩
 have hY0:LyF B base (Aw Ai [] base):=⟨Bh Ah .nil,fun x hx=>by
  rcases(Ar Ah).1 hx with h|h
  ·exact .inl h
  ·cases h⟩
 have hk0:O4 B (Aw Ai [] base)<B.length+1:=Nat.lt_succ_of_le (List.length_filter_le _ _);obtain⟨fin,hfin⟩:∃fin,fin=Cb B base:=⟨_,rfl⟩;have hf0:Jx B (B.length+1) (Aw Ai [] base)=fin:=by rw[hfin];rfl
 rw[←hfin];generalize σ1.set c (.cells [lv])=σ2 at hI0;generalize Aw Ai [] base=out0 at hI0 hY0 hk0 hf0;simp only[go_sem,Aa];refine⟨fun m fr σ'=>∃(out:List Fa) (mr:Bool),InC σ σ' c out∧LyF B base out∧(mr=true→O4 B out<m∧Jx B m out=fin)∧(mr=false→out=fin)∧fr 0=ptr t∧fr 5=ptr c∧fr 6=clo 178 c∧fr 7=boo mr,⟨B.length+1,out0,true,hI0,hY0,fun _=>⟨hk0,hf0⟩,fun e=>(by cases e),rfl,rfl,rfl,rfl⟩,?_⟩;clear hI0 hY0 hk0 hf0 hfin hO hs1 hn1 hc hcn;rintro m fr σ2 ⟨out,mr,hI,hY,hm1,hm2,f0,f5,f6,f7⟩;simp only[go_sem,f7];refine aIf_bool (fun hmr=>?_) (fun hmr=>?_)
 ·obtain⟨hlk,hfu⟩:=hm1 hmr
  obtain⟨n,rfl⟩:∃n,m=n+1:=⟨m-1,by omega⟩;have hBK:BK σ2 t B:=by
   obtain⟨lv,_,_,h3⟩:=hI;exact(h3 _ _ h).1
  have h0:=hBK;unfold BK at h0;simp only[go_sem,Aa,f0,h0,Au];refine⟨fun mm fr σ'=>∃(i:Nat) (o:List Fa) (more:Bool),mm=B.length-i∧i≤B.length∧(B.take i).foldl C5 (out,false)=(o,more)∧InC σ σ' c o∧LyF B base o∧fr 0=ptr t∧fr 5=ptr c∧fr 6=clo 178 c∧fr 7=boo more∧fr 23= .sl 6 (deC B)∧fr 24=int B.length∧fr 25=int i,⟨_,0,out,false,rfl,by omega,rfl,hI,hY,f0,f5,f6,rfl,rfl,rfl,rfl⟩,?_⟩;clear hI hY hm1 hm2 h0 hBK f0 f5 f6 f7 fr;rintro mm fr σ3 ⟨i,o,more,rfl,hi,hfo,hI,hY,f0,f5,f6,f7,f23,f24,f25⟩;simp only[go_sem,f24,f25];refine aIf_by (fun hlt=>?_) (fun hlt=>?_)
  ·have hil:i<B.length:=by omega
   obtain⟨d,hd⟩:∃d,d=B[i]:=⟨_,rfl⟩;have hdm:d∈B:=by rw[hd];exact List.getElem_mem hil
   have hds:=hbs d hdm;have hol:=hY.len;have nx:=As i (by omega);have hfo':(B.take (i+1)).foldl C5 (out,false)=C5 (o,more) d:=by
    rw[List.take_add_one,List.getElem?_eq_getElem hil,List.foldl_append,hfo,hd];rfl
   have dg:(deC B).getD i []=d.cs:=by rw[hd];exact Co hil
   simp only[go_sem,Aa,f23,f25,dg,Au];refine⟨by omega,Ctx.nil.alloc fun q σ4 c4=>?_⟩;obtain⟨σ5,e5,c5⟩:=c4.abs 0 rfl (.cells d.cs);have hq:=c5.g0;have hI5:=hI.more c5.sub;simp only at hq;simp only[go_sem,Aa,c4.g0,e5,f6,hq];clear e5 c5 c4;refine(Aj5 hI5 hY.ris (by omega) (sm hY) d.hd hds.1).p ?_;by_cases hin:d.hd∈o
   ·have d1:=decide_eq_true hin
    have er:C5 (o,more) d=(o,more):=by unfold C5;rw[if_pos hin]
    rw[er]at hfo';simp only[go_sem,Aa,d1,f0,f5,f6,f7,f23,f24,f25,nx];refine⟨B.length-(i+1),by omega,i+1,o,more,?_⟩
    (and_intros<;>first|assumption|rfl|omega)
   ·have d1:=decide_eq_false hin
    have bl:=Aj d.bo;have hbol:=hds.2.1;simp only[go_sem,Aa,d1,hq,bl];refine⟨fun m5 fr σ'=>∃j:Nat,m5=d.bo.length-j∧j≤d.bo.length∧(∀x∈d.bo.take j,x∈o)∧InC σ σ' c o∧σ' q=some (.cells d.cs)∧fr 0=ptr t∧fr 5=ptr c∧fr 6=clo 178 c∧fr 7=boo more∧fr 9=ptr q∧fr 23= .sl 6 (deC B)∧fr 24=int B.length∧fr 25=int i∧fr 34= .sl 4 (faC d.bo)∧fr 35=int d.bo.length∧fr 36=int j,⟨_,0,rfl,by omega,fun x hx=>by simp at hx,hI5,hq,f0,f5,f6,f7,rfl,f23,f24,f25,rfl,rfl,rfl⟩,?_⟩;clear hI hI5 hq f0 f5 f6 f7 f23 f24 f25 fr;rintro m5 fr σ6 ⟨j,rfl,hj,hall,hI,hq,f0,f5,f6,f7,f9,f23,f24,f25,f34,f35,f36⟩;simp only[go_sem,f35,f36];refine aIf_by (fun hltj=>?_) (fun hltj=>?_)
    ·have hjl:j<d.bo.length:=by omega
     have bg:=Aq hjl;have hxs:=hds.2.2 _ (List.getElem_mem hjl);simp only[go_sem,Aa,f34,f36,bg,bl];refine⟨by omega,Ctx.nil.alloc fun u σ7 c7=>?_⟩;obtain⟨σ8,e8,c8⟩:=c7.abs 0 rfl (.cells d.bo[j].cs);have hu:=c8.g0;have hI8:=hI.more c8.sub;have hq8:=c8.sub _ _ hq;simp only at hu;simp only[go_sem,Aa,c7.g0,e8,f6,hu];clear e8 c8 c7;refine(Aj5 hI8 hY.ris (by omega) (sm hY) d.bo[j] hxs).p ?_;by_cases hjn:d.bo[j]∈o
     ·have d2:=decide_eq_true hjn
      have hall':∀x∈d.bo.take (j+1),x∈o:=fun x hx=>by
       rw[List.take_add_one,List.getElem?_eq_getElem hjl]at hx;rcases List.mem_append.1 hx with h|h
       ·exact hall x h
       ·simp at h;subst h;exact hjn
      simp only[go_sem,Aa,d2,Bool.not_true,f0,f5,f6,f7,f9,f23,f24,f25,f34,f35,f36,As j (by omega)];refine⟨d.bo.length-(j+1),by omega,j+1,?_⟩
      (and_intros<;>first|assumption|rfl|omega)
     ·have d2:=decide_eq_false hjn
      have er:C5 (o,more) d=(o,more):=by
       unfold C5;rw[if_neg hin,if_neg fun h=>hjn (h _ (List.getElem_mem hjl))]
      rw[er]at hfo';simp only[go_sem,Aa,d2,Bool.not_false,f0,f5,f6,f7,f23,f24,f25,nx];refine⟨B.length-(i+1),by omega,i+1,o,more,?_⟩
      (and_intros<;>first|assumption|rfl|omega)
    ·rw[List.take_of_length_le (by omega)]at hall
     have er:C5 (o,more) d=(A1 Ai d.hd o,true):=by
      unfold C5;rw[if_neg hin,if_pos hall]
     rw[er]at hfo';obtain⟨lv,h1,h2,h3⟩:=hI;simp only[go_sem,Aa,f5,f9,h1,hq];refine(BF.bsearch_at o d.hd (by omega) (sm hY) hds.1 hY.ris (.of h2.lat)).mono ?_;rintro _ σ6 ⟨⟨k,rfl,hk1,hk2,hk3⟩,rfl⟩;simp only[go_sem,Aa];refine Af [.rd 0 true,.rd 1 false,.rd 2 true,.ef 3 [0],.rd 4 false,.rd 5 false,.ef 6 [],.ef 7 []] ?_;simp only[go_sem,Aa,f5,f9,h1,hq];refine(Ac7 d hds).p ?_;simp only[go_sem,Aa,f5,h1];refine(BF.insert_at o d.hd k hk1 (by omega) h2).mono ?_;rintro r σ7 ⟨hO3,hK⟩;have hins:=Ih (c:=Ai) hk1 hk2 hk3;rw[if_neg (fun⟨h,e⟩=>hin (by rw[←(Ah.zero _ _).1 e];exact List.getElem_mem h))]at hins;rw[←hins]at hO3;have hL:=hO3.lat;have hc7:=hK _ _ h1 (h2.lat.not_own h1)
     have hI7:InC σ (σ7.set c (.cells [r])) c (A1 Ai d.hd o):=⟨r,Ab,hO3.keep fun y o hy ho=>by rw[Ag (fun e=>by rw[e]at ho;exact hc7.2 ho)];exact hy,fun y o hy=>by
      obtain⟨y1,y2,y3⟩:=h3 y o hy;have y4:=hK _ _ y1 y2;exact⟨by rw[Ag y3];exact y4.1,y4.2,y3⟩⟩
     have hY7:=hY.step hdm;simp only[go_sem,Aa,f0,f5,f6,f7,f23,f24,f25,hc7.1,hL.one,hL.cells,nx];refine⟨B.length-(i+1),by omega,i+1,A1 Ai d.hd o,true,?_⟩
     (and_intros<;>first|assumption|rfl|omega)
  ·rw[List.take_of_length_le (by omega)]at hfo
   have hfo:rnd B out=(o,more):=hfo;have hlk2:more=true→O4 B o<n:=fun e=>by
    have:=Xl (B:=B) (out:=out) (by rw[hfo];exact e);rw[hfo]at this;simp only at this;omega
   have hfu2:(if more=true then Jx B n o else o)=fin:=by
    rw[←hfu];show _=if(rnd B out).2=true then Jx B n (rnd B out).1 else(rnd B out).1
    rw[hfo]
   have hm1':more=true→O4 B o<n∧Jx B n o=fin:=fun e=>⟨hlk2 e,by rw[if_pos e]at hfu2;exact hfu2⟩;have hm2':more=false→o=fin:=fun e=>by rw[e]at hfu2;exact hfu2
   simp only[go_sem,Aa,f0,f5,f6,f7];refine⟨n,by omega,o,more,?_⟩
   (and_intros<;>first|assumption|rfl|omega)
 ·obtain⟨lv,h1,h2,h3⟩:=hI
  have e:=hm2 hmr;subst e;simp only[go_sem,Aa,f5,h1]
  exact Ae (r:=lv) rfl ⟨h2,fun y o hy=>(h3 y o hy).1,fun x hx=>by
   cases hs:σ x with
   |none=>rfl
   |some o=>exact absurd hx (h3 x o hs).2.1⟩
end
abbrev Amh(l:Nat):AV:=.v (.func (.yield l) #[] #[])
theorem X5{l n:Nat}{fr fr1:Fr}{σ1:St}{ps:List Nat}{assign body:Code}{k:AV→St→Prop}:AK.round l fr n ps assign body k .normal fr1 σ1=((∃p,σ1 l=some (.loop fr n ps assign body .busy p))∧k (.v (.bool true)) (σ1.set l (.loop fr n ps assign body .ready none))):=_root_.id rfl
theorem Ww{P:Program}{l n:Nat}{fr fr1:Fr}{σ1:St}{ps:List Nat}{assign body B:Code}{k:AV→St→Prop}(hB:body=B):AK.begun P l fr n ps assign body k .normal fr1 σ1=(σ1 l=some (.loop fr n ps assign body .ready none)∧A7 P B (@hid _ ⟨AK.round l fr n ps assign body k⟩) fr1 (σ1.set l (.loop fr n ps assign body .busy none))):=by subst hB;rfl
theorem Uw{P:Program}{l n:Nat}{args:List AV}{σ:St}{k:AV→St→Prop}{fr:Fr}{ps:List Nat}{assign body A:Code}{pend:Option Code}(hA:assign=A)(hl:σ l=some (.loop fr n ps assign body .ready pend))(hn:args.length=ps.length)(hfl:(Qq assign&&Qq body)=true)
  (h:A7 P A (@hid _ ⟨AK.begun P l fr n ps assign body k⟩) (Pn fr ps args) σ):YC P l args σ k:=Abt hl hn hfl (by subst hA;exact h)
theorem Qs{P:Program}{g:AV}{ps:List Nat}{A B:Code}{K:AK}{fr:Fr}{σ:St}(F:Fr→Prop)(hF:F fr)(h:∀assign body fr,assign=A→body=B→F fr→K7 P g ps assign body K fr σ):K7 P g ps A B K fr σ:=h A B fr rfl rfl hF
def OnI(τ:St)(d:Nat)(acc:List Fa)(σ:St):Prop:=τ d=none∧∃lv,σ d=some (.cells [lv])∧LAt 4 σ lv (faC acc)∧Cg τ σ lv
section
variable{τ σ σ':St}{d c e l:Nat}{acc:List Fa}{o o':Cj}
theorem OnI.start(hd:σ d=none):OnI σ d [] (σ.set d (.cells [A4])):=⟨hd,A4,Ab,.none,fun y o hy=>⟨B7 hd (fun _ _ h=>h) y o hy,B4⟩⟩
theorem OnI.sub(h:OnI τ d acc σ){x:Nat}(hx:τ x=some o):σ x=some o:=by
 obtain⟨_,lv,_,_,h3⟩:=h;exact h3.sub x o hx
theorem OnI.ne(h:OnI τ d acc σ)(hc:σ c=none):c≠d:=fun e=>by
 obtain⟨_,lv,h1,_⟩:=h;rw[←e,hc]at h1;cases h1
theorem OnI.none(h:OnI τ d acc σ)(hc:σ c=none):τ c=none:=by
 cases hx:τ c with
 |none=>rfl
 |some o=>rw[h.sub hx]at hc;cases hc
theorem OnI.more(h:OnI τ d acc σ)(hs:∀x o,σ x=some o→σ' x=some o):OnI τ d acc σ':=by
 obtain⟨h0,lv,h1,h2,h3⟩:=h;exact⟨h0,lv,hs _ _ h1,h2.keep fun x o hx _=>hs x o hx,fun y o hy=>⟨hs _ _ (h3 y o hy).1,(h3 y o hy).2⟩⟩
theorem OnI.loop{fr:Fr}{n:Nat}{ps:List Nat}{A B:Code}{st:LoopState}{pend:Option Code}(h:OnI τ d acc σ)(hl:σ l=some (.loop fr n ps A B st pend))(ht:τ l=Option.none)(hs:∀y,y≠l→σ' y=σ y):OnI τ d acc σ':=by
 obtain⟨h0,lv,h1,h2,h3⟩:=h;have nl:¬Own lv l:=fun ho=>by obtain⟨cap,h⟩:=h2.own_rows ho;rw[hl]at h;cases h
 refine⟨h0,lv,?_,h2.keep fun x o hx ho=>?_,fun y o hy=>⟨?_,(h3 y o hy).2⟩⟩
 ·rw[hs d (fun e=>by rw[←e,h1]at hl;cases hl)];exact h1
 ·rw[hs x (by rintro rfl;exact nl ho)];exact hx
 ·rw[hs y (fun e=>by rw[e,ht]at hy;cases hy)];exact(h3 y o hy).1
theorem OnI.app{lv lv':AV}{σ8:St}{f:Fa}(hd0:τ d=Option.none)(h1:σ d=some (.cells [lv]))(h2:LAt 4 σ lv (faC acc))(h3:Cg τ σ lv)(hL4:LAt 4 σ8 lv' (faC acc++[f.cs]))(hs4:∀x o,σ x=some o→¬Own lv x→σ8 x=some o∧¬Own lv' x):
  OnI τ d (acc++[f]) (σ8.set d (.cells [lv']))∧σ8 d=some (.cells [lv]):=by
 have m1:=hs4 _ _ h1 (h2.not_own h1);have h3':=h3.step hs4;refine⟨⟨hd0,lv',Ab,?_,fun y o hy=>⟨?_,(h3' y o hy).2⟩⟩,m1.1⟩
 ·rw[show faC (acc++[f])=faC acc++[f.cs] by simp[faC]]
  exact hL4.keep fun y o hy ho=>by rw[Ag (by rintro rfl;exact m1.2 ho)];exact hy
 ·rw[Ag (fun e=>by rw[e,hd0]at hy;cases hy)]
  exact(h3' y o hy).1
end
abbrev Sp(b1 b2:Nat):AV:=.v (.func (.func 172) #[] #[.pointer (some ⟨b1,0,none⟩),.pointer (some ⟨b2,0,none⟩)])
section
variable{σ:St}{t l:Nat}{T:List Fa}{lim:Int}
theorem Amq(f:Fa):AT Tryz.prog 117 [.agg f.cs] σ fun r σ'=>r=boo true∧σ'=σ:=by
 refine AT.ob Tryz.func117 rfl ?_;simp only[go_sem];refine Ctx.nil.alloc fun p σ1 c1=>?_;simp only[go_sem];exact Ad (r:=boo true) rfl _ σ (c1.view _) ⟨rfl,rfl⟩
theorem Yj:AT Tryz.prog 61 [ptr t] σ fun v σ'=>∃b1 b2,v=Sp b1 b2∧Ctx σ [(b2,.cells [fnv 117]),(b1,.cells [ptr t])] σ':=by
 have hs:AT Tryz.prog 116 [ptr t,fnv 117] σ fun v σ'=>∃b1 b2,v=Sp b1 b2∧Ctx σ [(b2,.cells [fnv 117]),(b1,.cells [ptr t])] σ':=by
  refine AT.ob Tryz.func116 rfl ?_;simp only[go_sem];refine Ctx.nil.alloc fun b1 σ1 c1=>?_;simp only[go_sem];refine c1.alloc fun b2 σ2 c2=>?_;simp only[go_sem];simp only[Fq,C9];simp only[go_sem];exact Ae (r:=Sp b1 b2) rfl ⟨b1,b2,rfl,c2⟩
 refine AT.ob Tryz.func61 rfl ?_;simp only[go_sem];refine hs.mono ?_;rintro _ σ1 ⟨b1,b2,rfl,c⟩;simp only[go_sem];exact Ae (r:=Sp b1 b2) rfl ⟨b1,b2,rfl,c⟩
theorem Q8{b1 b2:Nat}(hT:TOk T lim)(Inv:Nat→St→Prop)(h0:∀i σ',Inv i σ'→TB σ' t T lim∧σ' b1=some (.cells [ptr t])∧σ' b2=some (.cells [fnv 117]))
  (hmore:∀i σ' σ'',Inv i σ'→(∀y o,σ' y=some o→σ'' y=some o)→Inv i σ'') (step:∀i σ' (h:i<T.length),Inv i σ'→YC Tryz.prog l [.agg T[i].cs] σ' fun v σ''=>v=boo true∧Inv (i+1) σ'') (hI:Inv 0 σ):
  AT Tryz.prog 172 [Amh l,ptr b1,ptr b2] σ fun _ σ'=>Inv T.length σ':=by
 refine AT.ob Tryz.func172 rfl ?_;obtain⟨g1,g2,g3⟩:=h0 _ _ hI;have tl:=Aj T;have tlen:=hT.len;simp only[go_sem,g2];refine(Px g1).p ?_;have d1:=decide_eq_false hT.lim;have g1':=g1;unfold TB at g1';simp only[go_sem,Aa,d1,g2,g1',tl];refine⟨fun m fr σ'=>∃i:Nat,m=T.length-i∧i≤T.length∧Inv i σ'∧fr 0=Amh l∧fr 1=ptr b1∧fr 2=ptr b2∧fr 11= .sl 4 (faC T)∧fr 12=int T.length∧fr 13=int i,⟨_,0,rfl,by omega,hI,rfl,rfl,rfl,rfl,rfl,rfl⟩,?_⟩;clear g1 g2 g3 g1' hI;rintro m fr σ1 ⟨i,rfl,hi,hI,f0,f1,f2,f11,f12,f13⟩;simp only[go_sem,f12,f13];refine aIf_by (fun hlt=>?_) (fun hlt=>?_)
 ·have hil:i<T.length:=by omega
  have sx:=hT.sm _ (List.getElem_mem hil);simp only[go_sem,Aa,f11,f13,Aq hil,tl];refine⟨by omega,Ctx.nil.alloc fun q σ2 c2=>?_⟩;obtain⟨σ3,e3,c3⟩:=c2.abs 0 rfl (.cells T[i].cs);have hq:=c3.g0;have hI3:=hmore _ _ _ hI c3.sub;simp only at hq;obtain⟨g1,g2,g3⟩:=h0 _ _ hI3;simp only[go_sem,Aa,c2.g0,e3,f2,hq,g3];clear e3 c3 c2;refine(Amq T[i]).p ?_;simp only[go_sem,Aa,Bool.not_true,hq];refine(Ic T[i].ar sx).p ?_;have esp:Az T[i].cs 3 [.sl 3 (cnC T[i].ar)]=T[i].cs:=rfl;have eid:σ3.set q (.cells T[i].cs)=σ3:=B8 hq;simp only[go_sem,Aa,f0,hq,esp,eid];refine(step i σ3 hil hI3).mono ?_;rintro _ σ4 ⟨rfl,hI4⟩;simp only[go_sem,Aa,Bool.not_true,f0,f1,f2,f11,f12,f13,As i (by omega)];refine⟨T.length-(i+1),by omega,i+1,?_⟩
  (and_intros<;>first|assumption|rfl|omega)
 ·have e:i=T.length:=by omega
  rw[e]at hI;simp only[go_sem,Aa];exact Ae (r:=.tup []) rfl hI
end
section
variable{σ:St}{t b1 b2:Nat}{T:List Fa}{lim:Int}
theorem Agp(h:TB σ t T lim)(hT:TOk T lim)(h1:σ b1=some (.cells [ptr t]))(h2:σ b2=some (.cells [fnv 117])):AT Tryz.prog 129 [A4,Sp b1 b2] σ fun r σ'=>r= .sl 4 (faC T)∧σ'=σ:=by
 have hm:AT Tryz.prog 129 [A4,Sp b1 b2] σ fun r σ'=>LAt 4 σ' r (faC T)∧Cg σ σ' r:=by
  refine AT.ob Tryz.func129 rfl ?_;have tlen:=hT.len;simp only[go_sem];refine Ay fun d hd hdm=>?_;have hI0:=OnI.start hd;obtain⟨σ2,e2⟩:∃s,s=σ.set d (.cells [A4]):=⟨_,rfl⟩;rw[←e2]at hI0⊢;clear e2 hdm;simp only[go_sem,Aa];refine Qs (fun fr=>fr 2=ptr d) rfl fun assign body fr hA hB f2=>?_;intro n l hl hlm;have htl:=hI0.none hl;have hsl:∀y o,σ2 y=some o→(σ2.set l (.loop fr n [7] assign body .ready none)) y=some o:=B7 hl fun _ _ h=>h;refine(Q8 (t:=t) (b1:=b1) (b2:=b2) hT (fun i σ'=>OnI σ d (T.take i) σ'∧σ' l=some (.loop fr n [7] assign body .ready none)) ?_ ?_ ?_ ⟨by simpa using hI0.more hsl,Ab⟩).mono ?_
  ·rintro i σ5 ⟨g1,g2⟩
   exact⟨g1.sub h,g1.sub h1,g1.sub h2⟩
  ·rintro i σ5 σ6 ⟨g1,g2⟩ hs
   exact⟨g1.more hs,hs _ _ g2⟩
  ·rintro i σ5 hil ⟨g1,g2⟩
   refine Uw hA g2 rfl (by rw[hA,hB];rfl) ?_;have hbg:=fun k fr1 σ1=>Ww (P:=Tryz.prog) (l:=l) (fr:=fr) (fr1:=fr1) (σ1:=σ1) (ps:=[7]) (n:=n) (assign:=assign) (k:=k) hB;simp only[go_sem];refine Ay fun q hq hqm=>?_;obtain⟨σ6,e6⟩:∃s,s=σ5.set q (.cells T[i].cs):=⟨_,rfl⟩;have hs6:∀y o,σ5 y=some o→σ6 y=some o:=by rw[e6];exact B7 hq fun _ _ h=>h
   have hq6:σ6 q=some (.cells T[i].cs):=by rw[e6];exact Ab
   have g1':=g1.more hs6;have g2':=hs6 _ _ g2;simp only[go_sem,Ab,Ct,←e6,hbg];clear e6 hqm hq g1 g2;refine⟨g2',?_⟩;have g3:=g1'.loop (σ':=σ6.set l (.loop fr n [7] assign body .busy none)) g2' htl fun y hy=>Ag hy;have g4:(σ6.set l (.loop fr n [7] assign body .busy none)) l=some (.loop fr n [7] assign body .busy none):=Ab;have g5:(σ6.set l (.loop fr n [7] assign body .busy none)) q=some (.cells T[i].cs):=by rw[Ag (fun e=>by rw[e,g2']at hq6;cases hq6)];exact hq6
   revert g3 g4 g5;generalize σ6.set l (.loop fr n [7] assign body .busy none)=σ7;intro g3 g4 g5;obtain⟨hd0,lv,k1,k2,k3⟩:=g3;have hld:l≠d:=fun e=>by rw[e,k1]at g4;cases g4
   have nl:¬Own lv l:=fun ho=>by obtain⟨cap,h⟩:=k2.own_rows ho;rw[g4]at h;cases h
   simp only[go_sem,Aa,f2,k1,g5];refine Ap (ys:=[T[i].cs]) rfl (by decide) (by decide) (by decide) (k2.app (by rw[Aj,List.length_take];simp only[List.length_cons,List.length_nil];omega) fun lv' σ8 hL4 hs4=>?_);obtain⟨g6,g7⟩:=OnI.app hd0 k1 k2 k3 hL4 hs4;have m6:=hs4 _ _ g4 nl;simp only[go_sem,Aa,g7,f2,hL4.one,hL4.cells,X5];have g6':(σ8.set d (.cells [lv'])) l=some (.loop fr n [7] assign body .busy none):=by rw[Ag hld];exact m6.1
   have ht:T.take i++[T[i]]=T.take (i+1):=by rw[List.take_add_one,List.getElem?_eq_getElem hil];rfl
   rw[ht]at g6;exact⟨⟨_,g6'⟩,g6.loop (σ':=(σ8.set d (.cells [lv'])).set l (.loop fr n [7] assign body .ready none)) g6' htl (fun y hy=>Ag hy)⟩
  ·rintro _ σ5 ⟨g1,g2⟩
   rw[List.take_of_length_le (by omega)]at g1;have hdel:∀y,y≠l→(σ5.del l) y=σ5 y:=fun y hy=>by simp only[St.del];rw[if_neg hy]
   have g3:=g1.loop g2 htl hdel;unfold Nc;rw[g2];refine⟨(by intro h;cases h),?_⟩;unfold Sj
   dsimp only
   obtain⟨_,lv,k1,k2,k3⟩:=g3;simp only[go_sem,Aa,f2,k1];exact Ae (r:=lv) rfl ⟨k2,k3⟩
 exact hm.post (by kernel_rfl) fun r σ' ⟨h1,h2⟩=>⟨_,_,Gz h1 h2,rfl,rfl⟩
theorem Ab0(h:TB σ t T lim)(hT:TOk T lim)(h1:σ b1=some (.cells [ptr t]))(h2:σ b2=some (.cells [fnv 117])):AT Tryz.prog 75 [Sp b1 b2] σ fun r σ'=>r= .sl 4 (faC T)∧σ'=σ:=by
 refine AT.ob Tryz.func75 rfl ?_;simp only[go_sem];refine(Agp h hT h1 h2).p ?_;simp only[go_sem];exact Ae (r:=.sl 4 _) rfl ⟨rfl,rfl⟩
end
structure ES where
 me:ByteArray
 names:List ByteArray
 rules:List Rl
 T:List Fa
 lim:Int
 B:List De
 given:List Fa
 queue:List Fa
 outs:List (Fa×Bool)
 full:Bool
structure EA where
 t:Nat
 b:Nat
 gv:AV
 qv:AV
 ov:AV
def ouC(l:List (Fa×Bool)):List (List AV):=l.map fun x=>x.1.cs++[boo x.2]
@[go_sem] theorem Sa(l:List (Fa×Bool)):(ouC l).length=l.length:=by simp[ouC]
def evC(r:Bool)(s:ES)(a:EA)(hv:Bool):List AV:=str s.me::.sl 1 (stC s.names)::.sl 11 (rlC s.rules)::ptr a.t::ptr a.b::a.gv::a.qv::a.ov::boo s.full::(if r=true then[boo hv]else[])
def bkT(r:Bool)(B:List De):Cj:=.cells (.sl 6 (deC B)::(if r=true then[]else[boo true]))
def Bo(x:Nat)(a:EA)(y:Nat):Prop:=y=x∨y=a.t∨y=a.b∨Own a.gv y∨Jd a.qv y∨Own a.ov y
structure EV(r:Bool)(σ:St)(x:Nat)(a:EA)(s:ES)(hv:Bool):Prop where
 cx:σ x=some (.cells (evC r s a hv))
 ct:σ a.t=some (tbC s.T s.lim)
 cb:σ a.b=some (bkT r s.B)
 cg:if r=true then a.gv= .sl 4 (faC s.given)else LAt 4 σ a.gv (faC s.given)
 cq:LQ 4 σ a.qv (faC s.queue)
 co:LAt 5 σ a.ov (ouC s.outs)
 xt:x≠a.t
 xb:x≠a.b
 tb:a.t≠a.b
 gq:∀y,Own a.gv y→¬Jd a.qv y
def Frm(x:Nat)(a a':EA)(σ σ':St):Prop:=∀y o,σ y=some o→¬Bo x a y→σ' y=some o∧¬Bo x a' y
theorem Frm.refl{x:Nat}{a:EA}{σ:St}:Frm x a a σ σ:=fun _ _ h n=>⟨h,n⟩
theorem Frm.trans{x:Nat}{a1 a2 a3:EA}{σ1 σ2 σ3:St}(h:Frm x a1 a2 σ1 σ2)(k:Frm x a2 a3 σ2 σ3):Frm x a1 a3 σ1 σ3:=fun y o hy hn=>k y o (h y o hy hn).1 (h y o hy hn).2
section
variable{r hv hv':Bool}{σ σ' σ1:St}{x:Nat}{a:EA}{s:ES}
theorem An4(h1:a.gv.one=true)(h2:a.qv.one=true)(h3:a.ov.one=true):(evC r s a hv).all AV.one=true:=by
 cases r with
 |true=>
  show(true&&(true&&(true&&(true&&(true&&(a.gv.one&&(a.qv.one&&(a.ov.one&&(true&&(true&&true))))))))))=true;rw[h1,h2,h3];rfl
 |false=>
  show(true&&(true&&(true&&(true&&(true&&(a.gv.one&&(a.qv.one&&(a.ov.one&&(true&&true)))))))))=true;rw[h1,h2,h3];rfl
theorem EV.gone(h:EV r σ x a s hv):a.gv.one=true:=by
 have:=h.cg;split at this
 ·rw[this];rfl
 ·exact this.one
theorem EV.all1(h:EV r σ x a s hv):(evC r s a hv).all AV.one=true:=An4 h.gone h.cq.one h.co.one
theorem EV.grow(h:EV r σ x a s hv){y:Nat}(ho:Own a.gv y):∃cap,σ y=some (.rows 4 (faC s.given) false cap):=by
 have:=h.cg;split at this
 ·rw[this]at ho;exact absurd ho Gy
 ·exact this.own_rows ho
theorem EV.rowG(h:EV r σ x a s hv){y:Nat}{cs:List AV}(hy:σ y=some (.cells cs)):¬Own a.gv y:=fun ho=>by
 obtain⟨c,hc⟩:=h.grow ho;rw[hy]at hc;cases hc
theorem EV.goq(h:EV r σ x a s hv){y:Nat}(ho:Own a.ov y):¬Own a.gv y∧¬Jd a.qv y:=by
 obtain⟨c,hc⟩:=h.co.own_rows ho;constructor
 ·intro h1
  obtain⟨c',h1⟩:=h.grow h1;rw[hc]at h1;cases h1
 ·intro h1
  obtain⟨rs,c',h1⟩:=h.cq.rows h1;rw[hc]at h1;cases h1
theorem EV.keep(h:EV r σ x a s hv)(hs:∀y o,σ y=some o→Bo x a y→σ' y=some o):EV r σ' x a s hv where
 cx:=hs _ _ h.cx (.inl rfl)
 ct:=hs _ _ h.ct (.inr (.inl rfl))
 cb:=hs _ _ h.cb (.inr (.inr (.inl rfl)))
 cg:=by
  have:=h.cg;split at this
  ·rename_i e;rw[if_pos e];exact this
  ·rename_i e;rw[if_neg e];exact this.keep fun y o hy ho=>hs y o hy (.inr (.inr (.inr (.inl ho))))
 cq:=h.cq.keep fun y o hy ho=>hs y o hy (.inr (.inr (.inr (.inr (.inl ho)))))
 co:=h.co.keep fun y o hy ho=>hs y o hy (.inr (.inr (.inr (.inr (.inr ho)))))
 xt:=h.xt
 xb:=h.xb
 tb:=h.tb
 gq:=h.gq
theorem EV.more(h:EV r σ x a s hv)(hs:∀y o,σ y=some o→σ' y=some o):EV r σ' x a s hv:=h.keep fun y o hy _=>hs y o hy
theorem EV.noX(h:EV r σ x a s hv):¬Own a.gv x∧¬Jd a.qv x∧¬Own a.ov x:=⟨h.rowG h.cx,h.cq.not_cells h.cx,h.co.not_own h.cx⟩
theorem EV.noT(h:EV r σ x a s hv):¬Own a.gv a.t∧¬Jd a.qv a.t∧¬Own a.ov a.t:=⟨h.rowG h.ct,h.cq.not_cells h.ct,h.co.not_own h.ct⟩
theorem EV.noB(h:EV r σ x a s hv):¬Own a.gv a.b∧¬Jd a.qv a.b∧¬Own a.ov a.b:=⟨h.rowG h.cb,h.cq.not_cells h.cb,h.co.not_own h.cb⟩
theorem EV.setX(h:EV r σ x a s hv){f:Bool}:EV r (σ.set x (.cells (evC r {s with full:=f} a hv'))) x a {s with full:=f} hv' where
 cx:=Ab
 ct:=by rw[Ag h.xt.symm];exact h.ct
 cb:=by rw[Ag h.xb.symm];exact h.cb
 cg:=by
  have:=h.cg;split at this
  ·rename_i e;rw[if_pos e];exact this
  ·rename_i e;rw[if_neg e];exact this.keep fun y o hy ho=>by rw[Ag (fun e=>by rw[e]at ho;exact h.noX.1 ho)];exact hy
 cq:=h.cq.keep fun y o hy ho=>by rw[Ag (fun e=>by rw[e]at ho;exact h.noX.2.1 ho)];exact hy
 co:=h.co.keep fun y o hy ho=>by rw[Ag (fun e=>by rw[e]at ho;exact h.noX.2.2 ho)];exact hy
 xt:=h.xt
 xb:=h.xb
 tb:=h.tb
 gq:=h.gq
theorem EV.setT(h:EV r σ x a s hv){T:List Fa}:EV r (σ.set a.t (tbC T s.lim)) x a {s with T:=T} hv where
 cx:=by rw[Ag h.xt];exact h.cx
 ct:=Ab
 cb:=by rw[Ag h.tb.symm];exact h.cb
 cg:=by
  have:=h.cg;split at this
  ·rename_i e;rw[if_pos e];exact this
  ·rename_i e;rw[if_neg e];exact this.keep fun y o hy ho=>by rw[Ag (fun e=>by rw[e]at ho;exact h.noT.1 ho)];exact hy
 cq:=h.cq.keep fun y o hy ho=>by rw[Ag (fun e=>by rw[e]at ho;exact h.noT.2.1 ho)];exact hy
 co:=h.co.keep fun y o hy ho=>by rw[Ag (fun e=>by rw[e]at ho;exact h.noT.2.2 ho)];exact hy
 xt:=h.xt
 xb:=h.xb
 tb:=h.tb
 gq:=h.gq
theorem EV.setB(h:EV r σ x a s hv){B:List De}:EV r (σ.set a.b (bkT r B)) x a {s with B:=B} hv where
 cx:=by rw[Ag h.xb];exact h.cx
 ct:=by rw[Ag h.tb];exact h.ct
 cb:=Ab
 cg:=by
  have:=h.cg;split at this
  ·rename_i e;rw[if_pos e];exact this
  ·rename_i e;rw[if_neg e];exact this.keep fun y o hy ho=>by rw[Ag (fun e=>by rw[e]at ho;exact h.noB.1 ho)];exact hy
 cq:=h.cq.keep fun y o hy ho=>by rw[Ag (fun e=>by rw[e]at ho;exact h.noB.2.1 ho)];exact hy
 co:=h.co.keep fun y o hy ho=>by rw[Ag (fun e=>by rw[e]at ho;exact h.noB.2.2 ho)];exact hy
 xt:=h.xt
 xb:=h.xb
 tb:=h.tb
 gq:=h.gq
theorem Frm.setX{o:Cj}:Frm x a a σ (σ.set x o):=fun y p hy hn=>⟨by rw[Ag (fun e=>hn (.inl e))];exact hy,hn⟩
theorem Frm.setT{o:Cj}:Frm x a a σ (σ.set a.t o):=fun y p hy hn=>⟨by rw[Ag (fun e=>hn (.inr (.inl e)))];exact hy,hn⟩
theorem Frm.setB{o:Cj}:Frm x a a σ (σ.set a.b o):=fun y p hy hn=>⟨by rw[Ag (fun e=>hn (.inr (.inr (.inl e))))];exact hy,hn⟩
theorem Frm.of(h:∀y o,σ y=some o→σ' y=some o):Frm x a a σ σ':=fun y o hy hn=>⟨h y o hy,hn⟩
theorem EV.setQ(h:EV r σ x a s hv){v:AV}{l:List Fa}(h1:LQ 4 σ1 v (faC l))(hs:∀y o,σ y=some o→¬Jd a.qv y→σ1 y=some o∧¬Jd v y):
  σ1 x=some (.cells (evC r s a hv))∧EV r (σ1.set x (.cells (evC r {s with queue:=l} {a with qv:=v} hv))) x {a with qv:=v} {s with queue:=l} hv∧Frm x a {a with qv:=v} σ (σ1.set x (.cells (evC r {s with queue:=l} {a with qv:=v} hv))):=by
 have kx:=hs _ _ h.cx h.noX.2.1;have kt:=hs _ _ h.ct h.noT.2.1;have kb:=hs _ _ h.cb h.noB.2.1;refine⟨kx.1,⟨Ab,by rw[Ag h.xt.symm];exact kt.1,by rw[Ag h.xb.symm];exact kb.1,?_,?_,?_,h.xt,h.xb,h.tb,fun y ho=>?_⟩,fun y o hy hn=>?_⟩
 ·have:=h.cg
  split at this
  ·rename_i e;rw[if_pos e];exact this
  ·rename_i e;rw[if_neg e]
   exact this.keep fun y o hy ho=>by rw[Ag (fun e=>by rw[e]at ho;exact h.noX.1 ho)];exact(hs y o hy (h.gq y ho)).1
 ·exact h1.keep fun y o hy ho=>by rw[Ag (fun e=>by rw[e]at ho;exact kx.2 ho)];exact hy
 ·exact h.co.keep fun y o hy ho=>by rw[Ag (fun e=>by rw[e]at ho;exact h.noX.2.2 ho)];exact(hs y o hy (h.goq ho).2).1
 ·obtain⟨c,hc⟩:=h.grow ho
  exact(hs _ _ hc (h.gq y ho)).2
 ·have hq:¬Jd a.qv y:=fun e=>hn (.inr (.inr (.inr (.inr (.inl e)))))
  have hx:y≠x:=fun e=>hn (.inl e);have k:=hs y o hy hq;refine⟨by rw[Ag hx];exact k.1,fun hf=>?_⟩;rcases hf with e|e|e|e|e|e
  ·exact hx e
  ·exact hn (.inr (.inl e))
  ·exact hn (.inr (.inr (.inl e)))
  ·exact hn (.inr (.inr (.inr (.inl e))))
  ·exact k.2 e
  ·exact hn (.inr (.inr (.inr (.inr (.inr e)))))
theorem EV.setO(h:EV r σ x a s hv){v:AV}{l:List (Fa×Bool)}(h1:LAt 5 σ1 v (ouC l))(hs:∀y o,σ y=some o→¬Own a.ov y→σ1 y=some o∧¬Own v y):
  σ1 x=some (.cells (evC r s a hv))∧EV r (σ1.set x (.cells (evC r {s with outs:=l} {a with ov:=v} hv))) x {a with ov:=v} {s with outs:=l} hv∧Frm x a {a with ov:=v} σ (σ1.set x (.cells (evC r {s with outs:=l} {a with ov:=v} hv))):=by
 have kx:=hs _ _ h.cx h.noX.2.2;have kt:=hs _ _ h.ct h.noT.2.2;have kb:=hs _ _ h.cb h.noB.2.2;refine⟨kx.1,⟨Ab,by rw[Ag h.xt.symm];exact kt.1,by rw[Ag h.xb.symm];exact kb.1,?_,?_,?_,h.xt,h.xb,h.tb,h.gq⟩,fun y o hy hn=>?_⟩
 ·have:=h.cg
  split at this
  ·rename_i e;rw[if_pos e];exact this
  ·rename_i e;rw[if_neg e]
   exact this.keep fun y o hy ho=>by rw[Ag (fun e=>by rw[e]at ho;exact h.noX.1 ho)];exact(hs y o hy (fun e=>(h.goq e).1 ho)).1
 ·exact h.cq.keep fun y o hy ho=>by rw[Ag (fun e=>by rw[e]at ho;exact h.noX.2.1 ho)];exact(hs y o hy (fun e=>(h.goq e).2 ho)).1
 ·exact h1.keep fun y o hy ho=>by rw[Ag (fun e=>by rw[e]at ho;exact kx.2 ho)];exact hy
 ·have hq:¬Own a.ov y:=fun e=>hn (.inr (.inr (.inr (.inr (.inr e)))))
  have hx:y≠x:=fun e=>hn (.inl e);have k:=hs y o hy hq;refine⟨by rw[Ag hx];exact k.1,fun hf=>?_⟩;rcases hf with e|e|e|e|e|e
  ·exact hx e
  ·exact hn (.inr (.inl e))
  ·exact hn (.inr (.inr (.inl e)))
  ·exact hn (.inr (.inr (.inr (.inl e))))
  ·exact hn (.inr (.inr (.inr (.inr (.inl e)))))
  ·exact k.2 e
end
theorem Vr{v:ByteArray}{c:Cn}{k:List Bi}:∀{e:List Bi},Ex e v=some c→Ex (e++k) v=some c
 | [],h=>by cases h
 |x::e,h=>by
  rw[List.cons_append];unfold Ex at h⊢;split
  ·rename_i h1;rw[if_pos h1]at h;exact h
  ·rename_i h1;rw[if_neg h1]at h;exact Vr h
theorem P4{t:Tm}{c:Cn}{e k:List Bi}(h:C6 t e=some c):C6 t (e++k)=some c:=by
 unfold C6 at h⊢;split
 ·rename_i h1;rw[if_pos h1]at h;cases h
 ·rename_i h1
  rw[if_neg h1]at h;split
  ·rename_i h2;rw[if_pos h2]at h;exact h
  ·rename_i h2;rw[if_neg h2]at h;exact Vr h
theorem Al7{t:Tm}{c:Cn}{e e':List Bi}(h:Bd t c e=some e'):∃k,e'=e++k:=by
 unfold Bd at h;split at h
 ·split at h
  ·injection h with h;exact⟨[],by simp[h]⟩
  ·cases h
 ·split at h
  ·cases h
  ·injection h with h;exact⟨_,h.symm⟩
theorem Sc{t:Tm}{c:Cn}{e e':List Bi}(h:Bd t c e=some e'):C6 t e'=some c:=by
 unfold Bd at h;split at h
 ·rename_i x hx
  split at h
  ·rename_i h1
   injection h with h;rw[←h,←h1];exact hx
  ·cases h
 ·rename_i hx
  split at h
  ·cases h
  ·rename_i h1
   injection h with h;have hz:t≠.zero:=fun e=>h1 (by rw[e];rfl);unfold C6 at hx⊢;rw[if_neg hz,if_neg h1]at hx⊢;rw[←h,Lp,hx];simp
theorem Q9:∀{l:List (Tm×Cn)} {e e':List Bi},Fy l e=some e'→∃k,e'=e++k
 | [],e,e',h=>by injection h with h;exact⟨[],by simp[h]⟩
 |p::l,e,e',h=>by
  unfold Fy at h;obtain⟨e1,h1,h2⟩:=Option.bind_eq_some_iff.1 h;obtain⟨k1,rfl⟩:=Al7 h1;obtain⟨k2,rfl⟩:=Q9 h2;exact⟨k1++k2,by rw[List.append_assoc]⟩
theorem Tv{ho:Tm}{l:Li}{f:Fa}{e e':List Bi}(h:Be ho l f e=some e'):∃k,e'=e++k:=by
 unfold Be at h;split at h
 ·exact Q9 h
 ·cases h
theorem P5:∀{l:List Tm} {env:List Bi} {a:List Cn},Dz l env=some a→a.length=l.length
 | [],env,a,h=>by injection h with h;subst h;rfl
 |t::l,env,a,h=>by
  unfold Dz at h;split at h
  ·obtain⟨b,h1,rfl⟩:=Option.map_eq_some_iff.1 h
   rw[List.length_cons,List.length_cons,P5 h1]
  ·cases h
def wC(homes names:List ByteArray)(d:Nat):List AV:=[.sl 1 (stC homes),.sl 1 (stC names),int d,boo (decide (60000<d))]
@[go_sem] theorem Ay5(h n:List ByteArray)(d:Nat):(wC h n d).length=4:=rfl
@[go_sem] theorem wC_0(h n:List ByteArray)(d:Nat):(wC h n d).getD 0 (.v undef)= .sl 1 (stC h):=rfl
@[go_sem] theorem wC_1(h n:List ByteArray)(d:Nat):(wC h n d).getD 1 (.v undef)= .sl 1 (stC n):=rfl
@[go_sem] theorem wC_2(h n:List ByteArray)(d:Nat):(wC h n d).getD 2 (.v undef)=int d:=rfl
@[go_sem] theorem wC_3(h n:List ByteArray)(d:Nat):(wC h n d).getD 3 (.v undef)=boo (decide (60000<d)):=rfl
def Rl.S4(r:Rl):Prop:=r.S3∧r.ar.length≤300
theorem Aq0{names:List ByteArray}{r:Rl}{env:List Bi}{f:Fa}(hr:r.S4)(h:hdN names r env=some f):f.Sm:=by
 unfold hdN at h;split at h
 ·rename_i g hg
  split at h
  ·injection h with h
   subst h;unfold C8 at hg;obtain⟨b,_,hg⟩:=Option.bind_eq_some_iff.1 hg;obtain⟨a,_,hg⟩:=Option.bind_eq_some_iff.1 hg;obtain⟨l,hl,rfl⟩:=Option.map_eq_some_iff.1 hg;have:=P5 hl;have:=hr.2;unfold Fa.Sm;show l.length≤_;omega
  ·cases h
 ·cases h
theorem Ach{names:List ByteArray}{m:List Fa}{r:Rl}(hr:r.S4):∀(ls:List Li) (env:List Bi) (s:List Fa×Nat),(∀f∈s.1,f.Sm)→∀f∈(frE names m r ls env s).1,f.Sm
 | [],env,s,h=>by
  show∀f∈(match hdN names r env with
   |some f=>A1 Ai f s.1
   |none=>s.1),f.Sm
  split
  ·rename_i g hg
   intro f hf;rcases(Cs Ah).1 hf with rfl|hf
   ·exact Aq0 hr hg
   ·exact h f hf
  ·exact h
 |l::ls,env,s,h=>by
  rw[Lh];refine foldl_inv (p:=fun t:List Fa×Nat=>∀f∈t.1,f.Sm) (fun t x ht=>?_) m s h;unfold stE;split
  ·exact ht
  ·split
   ·exact Ach hr ls _ _ ht
   ·exact ht
section
variable{σ:St}{x:Nat}
theorem Ag8(homes names:List ByteArray)(r:Rl)(m:List Fa)(c:Nat)(hr:r.S4)(hm:m.length≤1000000)(hn:names.length≤1000000)(hc:c≤100000):∀(n k:Nat) {σ:St} {env:List Bi} {out:List Fa} {d:Nat},k+n=r.bo.length→env.length≤10+302*k→σ x=some (.cells (wC homes names d))→out.length≤d+c→d≤60001→(∀f∈out,f.Sm)→
  AT Tryz.prog 155 [ptr x,.agg r.cs,int k,.sl 4 (faC m),.sl 4 (biC env),.sl 4 (faC out)] σ fun v σ'=>v= .sl 4 (faC (frE names m r (r.bo.drop k) env (out,d)).1)∧σ'=σ.set x (.cells (wC homes names (frE names m r (r.bo.drop k) env (out,d)).2)):=by
 intro n
 induction n with
 |zero=>
  intro k σ env out d hk he hx ho hd hos;refine AT.ob Tryz.func155 rfl ?_;have hr1:=hr.1.1;have hr2:=hr.2;rw[List.drop_of_length_le (by omega)];have e2:(frE names m r [] env (out,d)).2=d:=rfl;rw[e2,B8 hx];simp only[go_sem];refine Ctx.nil.alloc fun p σ1 c1=>?_;have dd:=decide_eq_true (show(k:Int)=r.bo.length by omega);simp only[go_sem,c1.g0,dd];refine(Aa0 r env (by omega) (by omega)).p ?_;simp only[go_sem];refine c1.alloc fun q σ2 c2=>?_;have hx2:=c2.sub _ _ hx;cases hh:C8 r env with
  |none=>
   have e1:(frE names m r [] env (out,d)).1=out:=by
    show(match hdN names r env with
     |some f=>A1 Ai f out
     |none=>out)=out
    unfold hdN;rw[hh]
   obtain⟨σ3,e3,c3⟩:=c2.abs 0 rfl (.cells Fa.nil.cs);have e0:((none:Option Fa).getD .nil).cs=Fa.nil.cs:=rfl;simp only[go_sem,c2.g1,e0,e3];refine Af [.rd 0 false,.rd 1 false,.rd 2 false,.rd 3 false,.rd 4 false,.rd 5 true,.rd 6 false,.rd 7 true,.ef 8 [],.rd 9 false] ?_;simp only[go_sem,c3.g1];exact Ad (r:=.sl 4 (faC out)) rfl _ σ (c3.view _) ⟨by rw[e1],rfl⟩
  |some f=>
   obtain⟨σ3,e3,c3⟩:=c2.abs 0 rfl (.cells f.cs);have e0:((some f).getD .nil).cs=f.cs:=rfl;have hx3:=c3.sub _ _ hx;simp only[go_sem,c2.g1,e0,e3];refine Af [.rd 0 false,.rd 1 false,.rd 2 false,.rd 3 false,.rd 4 false,.rd 5 true,.rd 6 false,.rd 7 true,.ef 8 [],.rd 9 false] ?_;simp only[go_sem,c3.g1,hx3];refine(Asi (by omega)).p ?_;simp only[go_sem];by_cases hin:f.at'∈names
   ·have hhd:hdN names r env=some f:=by unfold hdN;rw[hh];simp only;rw[if_pos hin]
    have e1:(frE names m r [] env (out,d)).1=A1 Ai f out:=by
     show(match hdN names r env with
      |some f=>A1 Ai f out
      |none=>out)=_
     rw[hhd]
    have di:=decide_eq_true hin;simp only[go_sem,di,c3.g1];refine(H1 out f (by omega) hos (Aq0 hr hhd)).p ?_;simp only[go_sem];exact Ad (r:=.sl 4 (faC (A1 Ai f out))) rfl _ σ (c3.view _) ⟨by rw[e1],rfl⟩
   ·have hhd:hdN names r env=none:=by unfold hdN;rw[hh];simp only;rw[if_neg hin]
    have e1:(frE names m r [] env (out,d)).1=out:=by
     show(match hdN names r env with
      |some f=>A1 Ai f out
      |none=>out)=_
     rw[hhd]
    have di:=decide_eq_false hin;simp only[go_sem,di];exact Ad (r:=.sl 4 (faC out)) rfl _ σ (c3.view _) ⟨by rw[e1],rfl⟩
 |succ n ih=>
  intro k σ env out d hk he hx ho hd hos;refine AT.ob Tryz.func155 rfl ?_;have hr1:=hr.1.1;have hkn:k<r.bo.length:=by omega
  have hlk:=hr.1.2 _ (List.getElem_mem hkn);have ed:r.bo.drop k=r.bo[k]::r.bo.drop (k+1):=List.drop_eq_getElem_cons hkn;rw[ed,Lh];obtain⟨S0,hS0⟩:∃S0,S0=m.foldl (stE names m r r.bo[k] (r.bo.drop (k+1)) env) (out,d):=⟨_,rfl⟩;rw[←hS0];simp only[go_sem];refine Ctx.nil.alloc fun p σ1 c1=>?_;have hxp:x≠p:=fun e=>by
   have:=c1.f0;rw[←e,hx]at this;cases this
  have hx1:=c1.sub _ _ hx;have dd:=decide_eq_false (show¬(k:Int)=r.bo.length by omega);simp only[go_sem,Aa,c1.g0,dd];refine⟨fun mm fr σ'=>∃(i:Nat) (s:List Fa×Nat),mm=m.length-i∧i≤m.length∧σ'=σ1.set x (.cells (wC homes names s.2))∧(m.drop i).foldl (stE names m r r.bo[k] (r.bo.drop (k+1)) env) s=S0∧s.1.length≤s.2+(c+1)∧s.2≤60001∧(∀f∈s.1,f.Sm)∧fr 0=ptr x∧fr 2=int k∧fr 3= .sl 4 (faC m)∧fr 4= .sl 4 (biC env)∧fr 5= .sl 4 (faC s.1)∧fr 7=ptr p∧fr 15=int i,⟨_,0,(out,d),rfl,by omega,(B8 hx1).symm,by rw[hS0];rfl,by simp only;omega,hd,hos,rfl,rfl,rfl,rfl,rfl,rfl,rfl⟩,?_⟩;rintro mm fr σ2 ⟨i,s,rfl,hi,rfl,hI,hs1,hs2,hs3,f0,f2,f3,f4,f5,f7,f15⟩;have hp2:∀d',(σ1.set x (.cells (wC homes names d'))) p=some (.cells r.cs):=fun d'=>by rw[Ag (Ne.symm hxp)];exact c1.g0
  have fin:∀{fr:Fr},S0=s→A9 Tryz.prog fr (σ1.set x (.cells (wC homes names s.2))) (Tryz.f155).results.toList=some (.sl 4 (faC s.1))→Dw Tryz.prog (fun v σ'=>v= .sl 4 (faC S0.1)∧σ'=σ.set x (.cells (wC homes names S0.2))) (Tryz.f155).results.toList fr (σ1.set x (.cells (wC homes names s.2))):=fun e hr=>by
   rw[e];refine Ad hr _ (σ.set x (.cells (wC homes names s.2))) (An fun y o hy=>?_) ⟨rfl,rfl⟩;by_cases e:y=x
   ·subst e;rw[Ab]at hy⊢;exact hy
   ·rw[Ag e]at hy⊢;exact c1.sub y o hy
  by_cases hlt:i<m.length
  ·have d1:=decide_eq_true (show(i:Int)<m.length by omega)
   by_cases hh:60000<s.2
   ·have d2:=decide_eq_true hh
    simp only[go_sem,Aa,f0,f3,f5,f15,d1,Ab,d2];exact fin (by rw[←hI,Wc hh]) rfl
   ·have d2:=decide_eq_false hh
    have w1:IntKind.i64.wrap ((s.2:Int)+1)=((s.2+1:Nat):Int):=Iq (by omega);have es2:∀y:AV,Az (wC homes names s.2) 2 [y]=[.sl 1 (stC homes),.sl 1 (stC names),y,boo (decide (60000<s.2))]:=fun y=>rfl;simp only[go_sem,Aa,f0,f3,f5,f15,d1,Ab,d2,w1,es2,Ct];refine C0 (fun fr σ'=>σ'=σ1.set x (.cells (wC homes names (s.2+1)))∧fr 0=ptr x∧fr 2=int k∧fr 3= .sl 4 (faC m)∧fr 4= .sl 4 (biC env)∧fr 5= .sl 4 (faC s.1)∧fr 7=ptr p∧fr 15=int i) (fun h0=>?_) (fun h0=>?_) ?_
    ·simp only[go_sem,f0,Ab,Ct]
     have e9:wC homes names (s.2+1)=[.sl 1 (stC homes),.sl 1 (stC names),.v (.int .i64 ((s.2+1:Nat):Int)),.v (.bool true)]:=by unfold wC;rw[decide_eq_true (show 60000<s.2+1 by omega)]
     rw[e9]
     (and_intros<;>first|assumption|rfl|omega)
    ·simp only[go_sem,f0]
     have e9:wC homes names (s.2+1)=[.sl 1 (stC homes),.sl 1 (stC names),.v (.int .i64 ((s.2+1:Nat):Int)),.v (.bool false)]:=by unfold wC;rw[decide_eq_false (show¬60000<s.2+1 by omega)]
     rw[e9]
     (and_intros<;>first|assumption|rfl|omega)
    clear f0 f2 f3 f4 f5 f7 f15;rintro fr _ ⟨rfl,f0,f2,f3,f4,f5,f7,f15⟩;have hp3:=hp2 (s.2+1);simp only[go_sem];refine Af [.rd 0 false,.rd 1 true,.rd 2 false,.rd 3 true,.rd 4 false,.rd 5 false,.rd 6 true,.rd 7 false,.rd 8 false,.rd 9 false,.rd 10 true,.rd 11 false,.ef 12 [],.rd 13 false,.rd 14 false,.rd 15 false,.rd 16 false,.rd 17 false] ?_;simp only[go_sem,f2,f3,f4,f7,f15,hp3,D6 hkn,Aq hlt];refine⟨by omega,by omega,(X4 r.ho r.bo[k] m[i] env (by omega) (by omega)).p ?_⟩;have hstep:S0=(m.drop (i+1)).foldl (stE names m r r.bo[k] (r.bo.drop (k+1)) env) (stE names m r r.bo[k] (r.bo.drop (k+1)) env s m[i]):=by
     rw[←hI,List.drop_eq_getElem_cons hlt];rfl
    cases hv:Be r.ho r.bo[k] m[i] env with
    |none=>
     have e1:stE names m r r.bo[k] (r.bo.drop (k+1)) env s m[i]=(s.1,s.2+1):=by unfold stE;rw[if_neg hh,hv]
     rw[e1]at hstep;simp only[go_sem,Aa,f0,f2,f3,f4,f5,f7,f15,As i (by omega)];refine⟨m.length-(i+1),by omega,i+1,(s.1,s.2+1),?_⟩;have hI':=hstep.symm;have k1:s.1.length≤s.2+1+(c+1):=by omega
     have k2:s.2+1≤60001:=by omega
     (and_intros<;>first|assumption|rfl|omega)
    |some e2=>
     have e1:stE names m r r.bo[k] (r.bo.drop (k+1)) env s m[i]=frE names m r (r.bo.drop (k+1)) e2 (s.1,s.2+1):=by unfold stE;rw[if_neg hh,hv]
     rw[e1]at hstep;have hel:=O8 hv;simp only[go_sem,Aa,f0,f2,f3,f5,f7,hp3,As k (by omega)];refine(ih (k+1) (by omega) (by simp only[Option.getD_some];omega) Ab (by omega) (by omega) hs3).p ?_;rw[Ct];have hb:=Acf (names:=names) (m:=m) (r:=r) (r.bo.drop (k+1)) e2 (s.1,s.2+1) c (by simp only;omega) (by simp only;omega);have hsm:=Ach (names:=names) (m:=m) hr (r.bo.drop (k+1)) e2 (s.1,s.2+1) hs3;simp only[go_sem,Aa,f0,f2,f3,f4,f7,f15,As i (by omega)];refine⟨m.length-(i+1),by omega,i+1,frE names m r (r.bo.drop (k+1)) e2 (s.1,s.2+1),?_⟩;have hI':=hstep.symm;have hb1:=hb.1;have hb2:=hb.2
     (and_intros<;>first|assumption|rfl|omega)
  ·have d1:=decide_eq_false (show¬(i:Int)<m.length by omega)
   simp only[go_sem,Aa,f0,f3,f5,f15,d1];exact fin (by rw[←hI,show m.drop i=[]from List.drop_of_length_le (by omega)];rfl) rfl
end
theorem Y5{ho:Tm}{ls:List Li}{xs:List Fa}{e:List Bi}{i:Nat}(h1:i<ls.length)(h2:i<xs.length):Cy ho (ls.drop i) (xs.drop i) e=(Be ho ls[i] xs[i] e).bind (Cy ho (ls.drop (i+1)) (xs.drop (i+1))):=by
 rw[List.drop_eq_getElem_cons h1,List.drop_eq_getElem_cons h2];rfl
theorem Y2{ho:Tm}{ls:List Li}{xs:List Fa}{e:List Bi}{i:Nat}(h1:i=ls.length)(h2:i=xs.length):Cy ho (ls.drop i) (xs.drop i) e=some e:=by
 rw[List.drop_eq_nil_of_le (by omega),List.drop_eq_nil_of_le (by omega)];rfl
theorem Aaa{r:Rl}{env:List Bi}{f:Fa}(hr:r.S4)(h:C8 r env=some f):f.Sm:=by
 unfold C8 at h;obtain⟨b,_,h⟩:=Option.bind_eq_some_iff.1 h;obtain⟨a,_,h⟩:=Option.bind_eq_some_iff.1 h;obtain⟨l,hl,rfl⟩:=Option.map_eq_some_iff.1 h;have:=hr.2;show l.length≤1000000000000;rw[P5 hl];omega
def hdE(me:ByteArray)(r:Rl)(body:List Fa):Option Fa:=(Bd r.ho (nmC me) []).bind fun e0=>(Cy r.ho r.bo body e0).bind (C8 r)
structure SOk(n:Nat)(s:ES):Prop where
 tok:TOk s.T s.lim
 tl:(s.T.length:Int)≤s.lim
 lm:s.lim≤4096
 br:B5 Bg s.B
 bo:s.B.length+s.outs.length≤n
 bs:∀d∈s.B,d.Sm
 ql:s.queue.length≤n
 qs:∀f∈s.queue,f.Sm
 os:∀o∈s.outs,o.1.Sm
 gr:B5 Ai s.given
 gl:s.given.length≤1000000
 gs:∀f∈s.given,f.Sm
 rs:∀r∈s.rules,r.S4
 rl:s.rules.length≤1000000
 nl:s.names.length≤1000000
theorem SOk.bl{n:Nat}{s:ES}(h:SOk n s):s.B.length≤n:=by have:=h.bo;omega
theorem SOk.ol{n:Nat}{s:ES}(h:SOk n s):s.outs.length≤n:=by have:=h.bo;omega
theorem SOk.bok{n:Nat}{s:ES}(h:SOk n s)(hn:n≤900000000000):BOk s.B:=⟨h.br,Nat.le_trans h.bl hn,h.bs⟩
def Dt(s:ES)(i:Nat)(body:List Fa):ES:=match hdE s.me (s.rules.getD i ⟨.zero,emp,[],.zero,[]⟩) body with
 |none=>s
 |some f=>if f.at'∈s.names∧okF f=true then
   if(⟨i,f,body⟩:De)∈s.B then s
   else if f.at'=s.me then(if f∈s.T then{s with B:=A1 Bg ⟨i,f,body⟩ s.B}else{s with B:=A1 Bg ⟨i,f,body⟩ s.B,queue:=s.queue++[f]})
   else(if 0<(ofF s.B f).length then{s with B:=A1 Bg ⟨i,f,body⟩ s.B}else{s with B:=A1 Bg ⟨i,f,body⟩ s.B,outs:=s.outs++[(f,false)]})
  else s
section
variable{σ:St}{x:Nat}{a:EA}{s:ES}{n:Nat}
theorem Ju(h:EV false σ x a s false):AT Tryz.prog 55 [ptr x] σ fun v σ'=>v=boo false∧σ'=σ:=by
 refine AT.ob Tryz.func55 rfl ?_;have hx:=h.cx;have g3:(evC false s a false).getD 3 (.v undef)=ptr a.t:=rfl;have ln:(evC false s a false).length=9:=rfl;simp only[go_sem,hx,g3,ln];exact Ae (r:=boo false) rfl ⟨rfl,rfl⟩
theorem Ajl(h:EV false σ x a s false)(hs:SOk n s)(i:Nat)(hi:i<s.rules.length)(body:List Fa)(hb:body.length=s.rules[i].bo.length):AT Tryz.prog 106 [ptr x,int i,.sl 4 (faC body)] σ fun v σ'=>v=M6 (hdE s.me s.rules[i] body)∧σ'=σ:=by
 refine AT.ob Tryz.func106 rfl ?_;have hx:=h.cx;have g2:(evC false s a false).getD 2 (.v undef)= .sl 11 (rlC s.rules):=rfl;have g0:(evC false s a false).getD 0 (.v undef)=str s.me:=rfl;have ln:(evC false s a false).length=9:=rfl;obtain⟨r,hr⟩:∃r,r=s.rules[i]:=⟨_,rfl⟩;have hr4:=hs.rs _ (List.getElem_mem hi);rw[←hr]at hr4 hb⊢;have rg:(rlC s.rules).getD i []=r.cs:=by rw[hr];exact C4 hi
 have hr1:=hr4.1.1;have hr2:=hr4.1.2;have har:=hr4.2;have bl:=Aj body;simp only[go_sem];refine Ctx.nil.alloc fun p σ1 c1=>?_;have hx1:=c1.sub _ _ hx;simp only[go_sem,hx1,g2,ln,rg];refine⟨by omega,c1.alloc fun q σ2 c2=>?_⟩;obtain⟨σ3,e3,c3⟩:=c2.abs 0 rfl (.cells r.cs);have hq:=c3.g1.1.1;have hp:=c3.g1.1.2;have hx3:=c3.sub _ _ hx;have hsb:=c3.sub;have fp:=c3.f1;simp only[go_sem,c2.g1,e3];clear e3 c2 c1;refine Af [.rd 0 false,.rd 1 true,.rd 2 false,.rd 3 false,.rd 4 false,.rd 5 true,.rd 6 false,.ef 7 [],.rd 8 false,.rd 9 false,.rd 10 false,.rd 11 false,.rd 12 false] ?_;simp only[go_sem,hq,hx3,g0,ln];refine(AT.weak (L5 r.ho (nmC s.me) [] (by simp)) (vws_same (vws_same (vws_cons (.nil 4) By)))).p ?_;have fail:∀{fr:Fr} {σ3:St},fr 6=ptr p→fr 7=boo false→(∀y o,σ y=some o→σ3 y=some o)→σ3 p=some (.cells [str emp,str emp,str emp,A4])→hdE s.me r body=none→Dw Tryz.prog (fun v σ'=>v=M6 (hdE s.me r body)∧σ'=σ) (Tryz.f106).results.toList fr σ3:=fun h4 h5 hs hq hn=>
  D5 σ (M6 none) h4 hq tk30 rfl rfl (by rw[h5];exact Ra hs _) ⟨by rw[hn],rfl⟩
 have hsp:∀{o:Cj},∀y p',σ y=some p'→(σ3.set p o) y=some p':=fun y p' hy=>by
  rw[Ag (fun e=>by rw[e,fp]at hy;cases hy)];exact hsb y p' hy
 obtain⟨ok0,E0,hE0,hok0⟩:∃(ok0:Bool) (E0:List Bi),I1 (Bd r.ho (nmC s.me) [])= .tup [.sl 4 (biC E0),boo ok0]∧(ok0=true→Bd r.ho (nmC s.me) []=some E0∧E0.length≤1)∧(ok0=false→Bd r.ho (nmC s.me) []=none):=by
  cases hu:Bd r.ho (nmC s.me) []with
  |none=>exact⟨false,[],rfl,fun h=>(by cases h),fun _=>rfl⟩
  |some e=>
   have:=Gi hu;exact⟨true,e,rfl,fun _=>⟨rfl,by simpa using this⟩,fun h=>(by cases h)⟩
 rw[hE0];simp only[go_sem,Aa];refine⟨fun m fr σ'=>∃(j:Nat) (ok:Bool) (e:List Bi),m=body.length-j∧j≤body.length∧(ok=true→e.length≤10+302*j∧(Bd r.ho (nmC s.me) []).bind (Cy r.ho r.bo body)=Cy r.ho (r.bo.drop j) (body.drop j) e)∧(ok=false→(Bd r.ho (nmC s.me) []).bind (Cy r.ho r.bo body)=none)∧σ'=σ3∧fr 2= .sl 4 (faC body)∧fr 6=ptr p∧fr 8=ptr q∧fr 9= .sl 4 (biC e)∧fr 10=boo ok∧fr 11=int j,⟨_,0,ok0,E0,rfl,by omega,fun h=>?_,fun h=>by rw[hok0.2 h];rfl,rfl,rfl,rfl,rfl,rfl,rfl,rfl⟩,?_⟩
 ·obtain⟨h1,h2⟩:=hok0.1 h
  exact⟨by omega,by rw[h1];rfl⟩
 clear hE0 hok0;have hdn:∀{o:Option (List Bi)},(Bd r.ho (nmC s.me) []).bind (Cy r.ho r.bo body)=o→hdE s.me r body=o.bind (C8 r):=fun{o} h=>by
  unfold hdE;rw[←h];cases Bd r.ho (nmC s.me) []<;>rfl
 rintro m fr σ3 ⟨j,ok,e,rfl,hj,hok1,hok2,rfl,f2,f6,f8,f9,f10,f11⟩;cases ok with
 |false=>
  have hn:=hdn (hok2 rfl);simp only[go_sem,Aa,f10,Bool.not_false,f6,hp];exact fail f6 rfl hsp Ab hn
 |true=>
  obtain⟨hel,hck⟩:=hok1 rfl;by_cases hjl:j<body.length
  ·have d1:=decide_eq_true (show(j:Int)<body.length by omega)
   have hjr:j<r.bo.length:=by omega
   have hla:=hr2 _ (List.getElem_mem hjr);rw[Y5 hjr hjl]at hck;simp only[go_sem,Aa,f2,f10,f11,bl,d1];refine Af [.rd 0 false,.rd 1 true,.rd 2 false,.rd 3 true,.rd 4 false,.rd 5 false,.rd 6 true,.rd 7 false,.rd 8 false,.rd 9 false,.rd 10 true,.rd 11 false,.ef 12 [],.rd 13 false,.rd 14 false,.rd 15 false,.rd 16 false,.rd 17 false] ?_;simp only[go_sem,Aa,f2,f8,f9,f11,hq,D6 hjr,Aq hjl,bl];refine⟨by omega,by omega,(Akl r.ho r.bo[j] body[j] e (by omega) (by omega)).p ?_⟩;have nx:=As j (by omega);cases hl:Be r.ho r.bo[j] body[j] e with
   |none=>
    rw[hl]at hck;have hck:(Bd r.ho (nmC s.me) []).bind (Cy r.ho r.bo body)=none:=hck;simp only[go_sem,Aa,Option.isSome_none,f2,f6,f8,f11,nx];refine⟨body.length-(j+1),by omega,j+1,false,[],rfl,by omega,(fun h=>by cases h),fun _=>hck,?_⟩
    (and_intros<;>first|assumption|rfl|omega)
   |some e2=>
    rw[hl]at hck;have hck:(Bd r.ho (nmC s.me) []).bind (Cy r.ho r.bo body)=Cy r.ho (r.bo.drop (j+1)) (body.drop (j+1)) e2:=hck;have:=O8 hl;simp only[go_sem,Aa,Option.isSome_some,f2,f6,f8,f11,nx];refine⟨body.length-(j+1),by omega,j+1,true,e2,rfl,by omega,fun _=>⟨by omega,hck⟩,(fun h=>by cases h),?_⟩
    (and_intros<;>first|assumption|rfl|omega)
  ·have d1:=decide_eq_false (show¬(j:Int)<body.length by omega)
   rw[Y2 (by omega) (by omega)]at hck;have hn:=hdn hck;simp only[go_sem,Aa,f2,f10,f11,bl,d1,Bool.not_true,f8,f9,hq];refine(Aox r e (by omega) (by omega)).p ?_;simp only[go_sem,f6,hp];exact D5 σ (M6 (C8 r e)) f6 Ab tk30 rfl rfl (An hsp) ⟨by rw[hn];rfl,rfl⟩
end
section
variable{σ:St}{x:Nat}{a:EA}{s:ES}{n:Nat}
@[go_sem] theorem Avb(s:ES)(a:EA):(evC false s a false).length=9:=rfl
@[go_sem] theorem Azc(s:ES)(a:EA):(evC false s a false).getD 0 (.v undef)=str s.me:=rfl
@[go_sem] theorem Azd(s:ES)(a:EA):(evC false s a false).getD 1 (.v undef)= .sl 1 (stC s.names):=rfl
@[go_sem] theorem Aze(s:ES)(a:EA):(evC false s a false).getD 2 (.v undef)= .sl 11 (rlC s.rules):=rfl
@[go_sem] theorem Azf(s:ES)(a:EA):(evC false s a false).getD 3 (.v undef)=ptr a.t:=rfl
@[go_sem] theorem Azg(s:ES)(a:EA):(evC false s a false).getD 4 (.v undef)=ptr a.b:=rfl
@[go_sem] theorem Azh(s:ES)(a:EA):(evC false s a false).getD 5 (.v undef)=a.gv:=rfl
@[go_sem] theorem Azi(s:ES)(a:EA):(evC false s a false).getD 6 (.v undef)=a.qv:=rfl
@[go_sem] theorem Azj(s:ES)(a:EA):(evC false s a false).getD 7 (.v undef)=a.ov:=rfl
@[go_sem] theorem Azk(s:ES)(a:EA):(evC false s a false).getD 8 (.v undef)=boo s.full:=rfl
theorem Dk{l:List Rl}{i:Nat}(h:i<l.length)(d:Rl):l.getD i d=l[i]:=by simp[List.getD_eq_getElem?_getD,h]
theorem Z6(h:EV false σ x a s false)(hs:SOk n s)(hn:n≤800000000000)(i:Nat)(hi:i<s.rules.length)(body:List Fa)(hb:body.length=s.rules[i].bo.length)(hbs:∀y∈body,y.Sm):
  AT Tryz.prog 54 [ptr x,int i,.sl 4 (faC body)] σ fun _ σ'=>∃a',EV false σ' x a' (Dt s i body) false∧Frm x a a' σ σ':=by
 refine AT.ob Tryz.func54 rfl ?_;have hf0:Dt s i body=match hdE s.me s.rules[i] body with
   |none=>s
   |some f=>if f.at'∈s.names∧okF f=true then
     if(⟨i,f,body⟩:De)∈s.B then s
     else if f.at'=s.me then(if f∈s.T then{s with B:=A1 Bg ⟨i,f,body⟩ s.B}else{s with B:=A1 Bg ⟨i,f,body⟩ s.B,queue:=s.queue++[f]})
     else(if 0<(ofF s.B f).length then{s with B:=A1 Bg ⟨i,f,body⟩ s.B}else{s with B:=A1 Bg ⟨i,f,body⟩ s.B,outs:=s.outs++[(f,false)]})
    else s:=by unfold Dt;rw[Dk hi];first|done|rfl
 have hr4:=hs.rs _ (List.getElem_mem hi);have hbl2:=hr4.1.1;have hnl:=hs.nl;simp only[go_sem];refine(Ajl h hs i hi body hb).p ?_;simp only[go_sem];refine Ctx.nil.alloc fun p σ1 c1=>?_;obtain⟨σ2,e2,c2⟩:=c1.abs 0 rfl (.cells ((hdE s.me s.rules[i] body).getD .nil).cs);have hp:=c2.g0;have hsb:=c2.sub;have fp:=c1.f0;simp only at hp;simp only[go_sem,c1.g0,e2];clear e2 c2 c1;have stay:Dt s i body=s→∀{fr:Fr} {σ':St},(∀y o,σ y=some o→σ' y=some o)→A9 Tryz.prog fr σ' (Tryz.f54).results.toList=some (.tup [])→Dw Tryz.prog (fun _ σ'=>∃a',EV false σ' x a' (Dt s i body) false∧Frm x a a' σ σ') (Tryz.f54).results.toList fr σ':=fun e _ _ h2 hr=>
  Ae hr ⟨a,by rw[e];exact h.more h2,.of h2⟩
 refine Af [.rd 0 false,.rd 1 false,.rd 2 false,.rd 3 false,.rd 4 false,.rd 5 false,.rd 6 true,.rd 7 false,.rd 8 true,.ef 9 [],.rd 10 false,.rd 11 false,.rd 12 false,.rd 13 true,.ef 14 [],.rd 15 false,.rd 16 false] ?_;cases hh:hdE s.me s.rules[i] body with
 |none=>
  rw[hh]at hf0;simp only[go_sem,Option.isSome_none,Bool.not_false];exact stay hf0 hsb rfl
 |some f=>
 rw[hh]at hf0 hp;simp only[Option.getD_some]at hf0 hp;have hfs:f.Sm:=by
  unfold hdE at hh;obtain⟨_,_,hh⟩:=Option.bind_eq_some_iff.1 hh;obtain⟨_,_,hh⟩:=Option.bind_eq_some_iff.1 hh;exact Aaa hr4 hh
 have h2:=h.more hsb;have hx2:=h2.cx;simp only[go_sem,Option.isSome_some,Bool.not_true,hx2,hp];refine(Acl (l:=s.names) (s:=f.at') (by omega) .sl).p ?_;by_cases hnm:f.at'∈s.names
 case neg=>
  rw[if_neg fun h=>hnm h.1]at hf0;simp only[go_sem,decide_eq_false hnm,Bool.not_false];exact stay hf0 hsb rfl
 simp only[go_sem,decide_eq_true hnm,Bool.not_true,hp];refine(Sx f).p ?_;cases hok:okF f with
 |false=>
  have e1:okE f=40:=by unfold okE;rw[hok];rfl
  have d2:(!decide (okE f=0))=true:=by rw[e1];rfl
  rw[if_neg fun h=>by rw[hok]at h;cases h.2]at hf0;simp only[go_sem,d2];exact stay hf0 hsb rfl
 |true=>
 have e1:okE f=0:=by unfold okE;rw[hok];rfl
 have d2:(!decide (okE f=0))=false:=by rw[e1];rfl
 rw[if_pos ⟨hnm,hok⟩]at hf0;simp only[go_sem,d2];refine Af [.rd 0 false,.rd 1 false,.rd 2 false,.rd 3 true,.rd 4 true,.ef 5 [],.rd 6 false,.rd 7 false,.rd 8 false] ?_;simp only[go_sem,hx2,hp];have hbk:=hs.bok (by omega);refine(Ak9 (show BK σ2 a.b s.B from h2.cb) hbk f hfs).p ?_;obtain⟨d,hd⟩:∃d:De,d=⟨i,f,body⟩:=⟨_,rfl⟩;have hds:d.Sm:=by rw[hd];exact⟨hfs,by show body.length≤1000000000000;omega,hbs⟩
 rw[←hd]at hf0;simp only[go_sem,Au];refine Af [.rd 0 false,.rd 1 false,.rd 2 false,.rd 3 true,.rd 4 false,.rd 5 true,.rd 6 false,.rd 7 false,.ef 8 [],.rd 9 false] ?_;simp only[go_sem,hx2,hp];refine⟨Nat.le_refl 5,?_⟩;show AT Tryz.prog 107 [ptr a.b,.agg (De.mk i f body).cs] _ _;rw[←hd];refine(Amr (show BK σ2 a.b s.B from h2.cb) hbk d hds).mono ?_;rintro _ σ3 ⟨rfl,rfl⟩;by_cases hm:d∈s.B
 ·rw[if_pos hm]at hf0
  have e:σ2.set a.b (bkC (A1 Bg d s.B))=σ2:=by
   rw[D2 A8 (Fu A8 hbk.rises) hbk.rises fun y=>by rw[Cs A8];exact⟨fun h=>h.elim (fun e=>e▸hm) _root_.id,.inr⟩];exact B8 h2.cb
  rw[e];simp only[go_sem,decide_eq_true hm,Bool.not_true,Bool.not_false];exact stay hf0 hsb rfl
 rw[if_neg hm]at hf0;have hpb:p≠a.b:=fun e=>by rw[e,h.cb]at fp;cases fp
 have h3:=h2.setB (B:=A1 Bg d s.B);have hp3:(σ2.set a.b (bkT false (A1 Bg d s.B))) p=some (.cells f.cs):=by rw[Ag hpb];exact hp
 have F3:Frm x a a σ (σ2.set a.b (bkT false (A1 Bg d s.B))):=(Frm.of hsb).trans .setB;rw[show bkC (A1 Bg d s.B)=bkT false (A1 Bg d s.B)from rfl];obtain⟨s1,hs1⟩:∃s1:ES,s1={s with B:=A1 Bg d s.B}:=⟨_,rfl⟩;rw[←hs1]at h3;have m1:s1.me=s.me:=by rw[hs1]
 have q1:s1.queue=s.queue:=by rw[hs1]
 have o1:s1.outs=s.outs:=by rw[hs1]
 generalize σ2.set a.b (bkT false (A1 Bg d s.B))=σ3 at h3 hp3 F3;have hx3:=h3.cx;have done:Dt s i body=s1→∀{fr:Fr},A9 Tryz.prog fr σ3 (Tryz.f54).results.toList=some (.tup [])→Dw Tryz.prog (fun _ σ'=>∃a',EV false σ' x a' (Dt s i body) false∧Frm x a a' σ σ') (Tryz.f54).results.toList fr σ3:=fun e _ hr=>
  Ae hr ⟨a,by rw[e];exact h3,F3⟩
 simp only[go_sem,Aa,decide_eq_false hm,Bool.not_false,Bool.not_true];refine Af [.rd 0 false,.rd 1 true,.rd 2 false,.rd 3 false,.rd 4 false,.rd 5 true,.rd 6 false,.rd 7 false,.rd 8 false,.rd 9 false,.rd 10 false,.rd 11 false] ?_;by_cases hat:f.at'=s.me
 ·rw[if_pos hat]at hf0
  have d4:(!decide (f.at'=s.me))=false:=by rw[decide_eq_true hat];rfl
  simp only[go_sem,Aa,hx3,hp3,m1,d4];refine Af [.rd 0 false,.rd 1 true,.rd 2 false,.rd 3 false,.rd 4 false,.rd 5 true,.rd 6 false,.rd 7 false,.rd 8 false,.rd 9 false,.rd 10 false,.rd 11 true,.rd 12 true,.ef 13 [],.rd 14 false,.rd 15 false,.rd 16 false] ?_;simp only[go_sem,Aa,hx3,hp3,m1,decide_eq_true hat];have ht3:TB σ3 a.t s1.T s1.lim:=h3.ct;have htok:TOk s1.T s1.lim:=by rw[hs1];exact hs.tok
  refine(Sb ht3 htok f hfs).p ?_;have T1:s1.T=s.T:=by rw[hs1]
  rw[T1];by_cases hin:f∈s.T
  ·rw[if_pos hin]at hf0
   simp only[go_sem,Aa,decide_eq_true hin,Bool.not_true];exact done (by rw[hf0,hs1]) rfl
  ·rw[if_neg hin]at hf0
   simp only[go_sem,Aa,decide_eq_false hin,Bool.not_false];refine Af [.rd 0 false,.rd 1 false,.rd 2 false,.rd 3 false,.rd 4 true,.rd 5 true,.rd 6 false,.ef 7 [],.rd 8 false,.rd 9 false,.ef 10 []] ?_;simp only[go_sem,Aa,hx3,hp3];have hql:=hs.ql;refine Ap (ys:=[f.cs]) rfl (by decide) (by decide) (by decide) (h3.cq.app (by decide) (by simp) (by rw[Aj,q1];simp only[List.length_cons,List.length_nil];omega) fun v' σ4 k1 k2=>?_);rw[show faC s1.queue++[f.cs]=faC (s1.queue++[f]) by simp[faC]]at k1;obtain⟨kx,kE,kF⟩:=h3.setQ k1 k2;have esp:Az (evC false s1 a false) 6 [v']=evC false {s1 with queue:=s1.queue++[f]} {a with qv:=v'} false:=rfl;simp only[go_sem,Aa,kx,k1.one,k1.cells,esp,kE.all1];refine Ae (r:=.tup []) rfl ⟨_,?_,F3.trans kF⟩;rw[hf0];rw[hs1]at kE⊢;exact kE
 ·rw[if_neg hat]at hf0
  have d4:(!decide (f.at'=s.me))=true:=by rw[decide_eq_false hat];rfl
  by_cases hwas:0<(ofF s.B f).length
  ·rw[if_pos hwas]at hf0
   have d5:=decide_eq_true (show(0:Int)<(ofF s.B f).length by omega);simp only[go_sem,Aa,hx3,hp3,m1,d4,d5,Bool.not_true];refine Af [.rd 0 false,.rd 1 true,.rd 2 false,.rd 3 false,.rd 4 false,.rd 5 true,.rd 6 false,.rd 7 false,.rd 8 false,.rd 9 false,.rd 10 false,.rd 11 true,.rd 12 true,.ef 13 [],.rd 14 false,.rd 15 false,.rd 16 false] ?_;simp only[go_sem,Aa,hx3,hp3,m1,decide_eq_false hat];exact done (by rw[hf0,hs1]) rfl
  ·rw[if_neg hwas]at hf0
   have d5:=decide_eq_false (show¬(0:Int)<(ofF s.B f).length by omega);simp only[go_sem,Aa,hx3,hp3,m1,d4,d5,Bool.not_false];refine Af [.rd 0 false,.rd 1 false,.rd 2 false,.rd 3 false,.rd 4 true,.rd 5 true,.rd 6 false,.rd 7 false,.ef 8 [],.rd 9 false,.rd 10 false,.ef 11 []] ?_;simp only[go_sem,Aa,hx3,hp3];have hol:=hs.ol;refine⟨rfl,rfl,?_⟩;refine Ap (ys:=[f.cs++[boo false]]) rfl (by decide) (by decide) (by decide) (h3.co.app (by rw[Sa,o1];simp only[List.length_cons,List.length_nil];omega) fun v' σ4 k1 k2=>?_);rw[show ouC s1.outs++[f.cs++[boo false]]=ouC (s1.outs++[(f,false)]) by simp[ouC]]at k1;obtain⟨kx,kE,kF⟩:=h3.setO k1 k2;have esp:Az (evC false s1 a false) 7 [v']=evC false {s1 with outs:=s1.outs++[(f,false)]} {a with ov:=v'} false:=rfl;simp only[go_sem,Aa,kx,k1.one,k1.cells,esp,kE.all1];refine Ae (r:=.tup []) rfl ⟨_,?_,F3.trans kF⟩;rw[hf0];rw[hs1]at kE⊢;exact kE
end
end Go.Proofs.YtmifmncabejffaaGreat
