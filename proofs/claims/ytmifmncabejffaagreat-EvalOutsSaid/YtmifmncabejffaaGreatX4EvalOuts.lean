/-
  Contracts of the functions that the statement reaches, and the plain laws of what they reckon.
  Conditions: none.
-/
import Derived.Test.YtmifmncabejffaaGreatRows
import Derived.RecoverIn
import Derived.BigFrame
import Derived.Test.YtmifmncabejffaaGreatV1EvalOuts
import Derived.Test.YtmifmncabejffaaGreatV2EvalOuts
import Derived.Test.YtmifmncabejffaaGreatV3EvalOuts
import Derived.Test.YtmifmncabejffaaGreatX1EvalOuts
import Derived.Test.YtmifmncabejffaaGreatX2EvalOuts
import Derived.Test.YtmifmncabejffaaGreatX3EvalOuts
set_option linter.unusedVariables false
set_option linter.unusedSimpArgs false
set_option linter.unusedSectionVars false
set_option maxRecDepth 100000
namespace Go.Proofs.YtmifmncabejffaaGreat
open Go Go.Av
def NV(v:AV)(N:List Fa):Prop:=v= .sl 4 (faC N)∨v=A1∧N=[]
theorem NV.vw{v:AV}{N:List Fa}(h:NV v N)(σ σ':St):VW σ σ' v (.sl 4 (faC N)):=by
 rcases h with rfl|⟨rfl,rfl⟩
 ·exact .refl _
 ·exact .nil 4
theorem svr(σ:St):SV σ σ:=Gd fun x o hx=>.inl hx
section
variable{σ:St}
theorem Zm(l:List Fa)(f:Fa)(hl:l.length≤1000000000000)(hls:∀x∈l,x.Sm)(hf:f.Sm):AT Tryz.prog 25 [.sl 4 (faC l),.agg f.cs] σ fun r σ'=>r=boo (decide (f∈l))∧σ'=σ:=by
 refine AT.ob Tryz.func25 rfl ?_;simp only[go_sem];refine Ctx.nil.alloc fun p σ1 c1=>?_;simp only[go_sem,Aa];refine⟨fun m fr σ'=>∃k:Nat,m=l.length-k∧k≤l.length∧σ'=σ1∧f∉l.take k∧fr 0= .sl 4 (faC l)∧fr 3=ptr p∧fr 5=int k,⟨_,0,rfl,by omega,rfl,by simp,rfl,rfl,rfl⟩,?_⟩;rintro m fr σ1 ⟨k,rfl,hk,rfl,hI,f0,f3,f5⟩;simp only[go_sem,Aa];by_cases g:k<l.length
 ·have d1:=decide_eq_true (show(k:Int)<l.length by omega)
  simp only[go_sem,Aa,f0,f5,d1,Al];refine Af [.rd 0 false,.rd 1 false,.rd 2 false,.rd 3 true,.rd 4 true,.ef 5 [],.rd 6 false] ?_;simp only[go_sem,Aa,f0,f3,f5,d1,c1.g0,Aq g,Al];refine⟨by omega,(E9 (x:=l[k]) (y:=f) .cs .cs (hls _ (List.getElem_mem g)) hf).p ?_⟩;by_cases e:An l[k] f=0
  ·have:=(Ah.zero _ _).1 e
   simp only[go_sem,Aa,decide_eq_true e];exact Ae (r:=boo true) rfl _ σ (c1.view _) ⟨by rw[decide_eq_true (this▸List.getElem_mem g)],rfl⟩
  ·simp only[go_sem,Aa,decide_eq_false e,f5,Aw k (by omega)]
   have hI':f∉l.take (k+1):=by
    rw[List.take_add_one,List.getElem?_eq_getElem g,List.mem_append];rintro(h|h)
    ·exact hI h
    ·simp only[Option.toList,List.mem_cons,List.not_mem_nil,or_false]at h
     exact e ((Ah.zero _ _).2 h.symm)
   refine⟨l.length-(k+1),by omega,k+1,?_⟩
   (and_intros<;>first|assumption|rfl|omega)
 ·have d1:=decide_eq_false (show¬(k:Int)<l.length by omega)
  rw[List.take_of_length_le (by omega)]at hI;simp only[go_sem,Aa,f0,f5,d1,Al];exact Ae (r:=boo false) rfl _ σ (c1.view _) ⟨by rw[decide_eq_false hI],rfl⟩
theorem Aau{v:AV}{N:List Fa}(h:NV v N)(f:Fa)(hl:N.length≤1000000000000)(hls:∀x∈N,x.Sm)(hf:f.Sm):AT Tryz.prog 28 [v,.agg f.cs] σ fun v σ'=>v= .sl 4 (faC (A5 An f N))∧σ'=σ:=
 AT.pre (Ky N f hl hls hf) (by kernel_rfl) (svr σ) (vws_cons (h.vw σ σ) (Bv _))
theorem Ah7{p:Fa→Bool}{l:List Fa}{i:Nat}(h:i<l.length):(l.take (i+1)).filter p=(l.take i).filter p++(if p l[i]=true then[l[i]]else[]):=by
 rw[List.take_add_one,List.getElem?_eq_getElem h,List.filter_append];by_cases e:p l[i]=true
 ·rw[if_pos e];simp[e]
 ·rw[if_neg e];simp[e]
theorem Af0(a b:List Fa)(ha:a.length≤1000000000000)(sa:∀x∈a,x.Sm)(hb:b.length≤1000000000000)(sb:∀x∈b,x.Sm):AT Tryz.prog 20 [.sl 4 (faC a),.sl 4 (faC b)] σ fun r σ'=>NV r (A7 An [] (a.filter fun y=>!decide (y∈b)))∧σ'=σ:=by
 refine AT.ob Tryz.func20 rfl ?_;have fl:=Al a;simp only[go_sem,Aa];refine⟨fun m fr σ'=>∃(k:Nat) (v:AV),m=a.length-k∧k≤a.length∧σ'=σ∧NV v (A7 An [] ((a.take k).filter fun y=>!decide (y∈b)))∧fr 0= .sl 4 (faC a)∧fr 1= .sl 4 (faC b)∧fr 5=v∧fr 6=int k,⟨_,0,A1,rfl,by omega,rfl,.inr ⟨rfl,rfl⟩,rfl,rfl,rfl,rfl⟩,?_⟩;rintro m fr σ ⟨k,v,rfl,hk,rfl,hN,f0,f1,f5,f6⟩;by_cases g:k<a.length
 ·have d1:=decide_eq_true (show(k:Int)<a.length by omega)
  have nx:=Aw k (by omega);have se:=sa _ (List.getElem_mem g);simp only[go_sem,Aa,f0,f1,f6,fl,d1,Aq g];refine⟨by omega,(Zm b a[k] hb sb se).p ?_⟩;by_cases hin:a[k]∈b
  ·have e1:=Ah7 (p:=fun y=>!decide (y∈b)) g
   rw[if_neg (by simpa using hin),List.append_nil]at e1;simp only[go_sem,Aa,decide_eq_true hin,Bool.not_true,f6,nx];exact⟨a.length-(k+1),by omega,k+1,v,rfl,by omega,by rw[e1];exact hN,f0,f1,f5,rfl⟩
  ·have e1:=Ah7 (p:=fun y=>!decide (y∈b)) g
   rw[if_pos (by simpa using hin)]at e1;simp only[go_sem,Aa,decide_eq_false hin,Bool.not_false,f0,f5,f6,fl,Aq g];have hm:∀x∈A7 An [] ((a.take k).filter fun y=>!decide (y∈b)),x.Sm:=fun x hx=>by
    rcases(A2 Ah).1 hx with h|h
    ·exact sa x (List.mem_of_mem_take (List.mem_filter.1 h).1)
    ·cases h
   have hn:(A7 An [] ((a.take k).filter fun y=>!decide (y∈b))).length≤1000000000000:=by
    have h1:=Bm (c:=An) (l:=(a.take k).filter fun y=>!decide (y∈b)) (s:=[]);have h2:=List.length_filter_le (fun y=>!decide (y∈b)) (a.take k);rw[List.length_take]at h2;simp only[List.length_nil]at h1;omega
   refine⟨by omega,(Aau hN a[k] hn hm se).p ?_⟩;simp only[go_sem,Aa,f6,nx];exact⟨a.length-(k+1),by omega,k+1,_,rfl,by omega,.inl (by rw[e1,Ju];rfl),f0,f1,rfl,rfl⟩
 ·have d1:=decide_eq_false (show¬(k:Int)<a.length by omega)
  rw[List.take_of_length_le (by omega)]at hN;simp only[go_sem,Aa,f0,f5,f6,fl,d1];exact Ad (r:=v) rfl ⟨hN,rfl⟩
set_option maxHeartbeats 1600000 in
theorem evalOuts_at(hlive:∀σ,AT Tryz.prog 12 [] σ fun r σ'=>r=boo true∧σ'=σ)(me:ByteArray)(names:List ByteArray)(lim:Int)(rs:List Rl)(l:List Ac)(hw:C7Wf rs l):
  AT Tryz.prog 7 [.agg (c7C me names lim rs),.sl 5 (acC l)] σ fun v σ'=>v=boo true:=by
 refine AT.ob Tryz.func7 rfl ?_;have ho:(c7C me names lim rs).all AV.one=true:=rfl;simp only[go_sem,ho];refine Ctx.nil.alloc fun p σ1 c1=>?_;have hp:=c1.g0;clear c1;simp only[go_sem,hp];refine(Afq me names lim rs l hw .sl).mono ?_;rintro _ σ1 ⟨⟨b,rfl,hb⟩,rfl⟩;cases b with
 |false=>
  simp only[go_sem,Bool.not_false];refine(hlive _).p ?_;simp only[go_sem];exact Ad (r:=boo true) rfl rfl
 |true=>
 have hS:=hb rfl;simp only[go_sem,Bool.not_true,hp];refine(Aqs me names lim rs l hS .sl).mono ?_;rintro _ σ2 (⟨rfl,hs2⟩|⟨x,a,y,b,rfl,Fn,B,F2⟩)
 ·simp only[go_sem,Bool.not_false]
  refine(hlive _).p ?_;simp only[go_sem];exact Ad (r:=boo true) rfl rfl
 have I:=Aqm me names rs l;obtain⟨s,hs⟩:∃s,s=S1 me names rs l:=⟨_,rfl⟩;rw[←hs]at Fn B I;have Ex:=B.ex;have ok:=Fn.ok;have ol:=ok.ol;have os:=ok.os;simp only[go_sem,Bool.not_true];refine(Zc Ex).mono ?_;rintro _ σ3 ⟨rfl,a',E3,_⟩;have ok':SOk 3000000000 ({s with outs:=[]}:ES):={ok with bo:=(by have:=ok.bo;show s.B.length+0≤_;omega),os:=fun o ho=>by cases ho};obtain⟨O,eO⟩:∃O,O=s.outs:=⟨_,rfl⟩;have Iok:=I.ok;have Irun:=I.run;rw[←eO]at ol os Iok Irun⊢;have q1:∀(f:Fa) (g:Bool),(f.cs++[boo g]).length=5:=fun f g=>rfl;have q2:∀(f:Fa) (g:Bool),((f.cs++[boo g]).drop 4).getD 0 (.v undef)=boo g:=fun f g=>rfl;have q3:∀(f:Fa) (g:Bool),((f.cs++[boo g]).drop 0).take 4=f.cs:=fun f g=>rfl;have q4:∀(f:Fa) (g:Bool),(f.cs++[boo g]).take 4=f.cs:=fun f g=>rfl;have N1:∀i,(Ir [] (O.take i)).length≤1000000000000:=fun i=>by
  have h1:=Z5 (O.take i) [];rw[List.length_take]at h1;simp only[List.length_nil]at h1;omega
 have N2:∀i,∀f∈Ir [] (O.take i),f.Sm:=fun i f hf=>by
  rcases Z6 hf with h|⟨o,h,e⟩
  ·cases h
  ·rw[e];exact os o (List.mem_of_mem_take h)
 simp only[go_sem,Aa];refine⟨fun m fr σ'=>∃(i:Nat) (v:AV),m=O.length-i∧i≤O.length∧σ'=σ3∧NV v (Ir [] (O.take i))∧fr 5=ptr x∧fr 8=v∧fr 9= .sl 5 (ouC O)∧fr 10=int i,⟨_,0,A1,rfl,by omega,rfl,.inr ⟨rfl,rfl⟩,rfl,rfl,rfl,rfl⟩,?_⟩;rintro m fr σ3 ⟨i,v,rfl,hi,rfl,hN,f5,f8,f9,f10⟩;by_cases g:i<O.length
 ·have d1:=decide_eq_true (show(i:Int)<O.length by omega)
  have nx:=Aw i (by omega);obtain⟨k1,k2⟩:=Aqo Iok g;have g1:=Anb g;have sf:=os _ (List.getElem_mem g);simp only[go_sem,Aa,f9,f10,Hw,d1];refine Af [.rd 0 false,.rd 1 false,.rd 2 false,.rd 3 false,.rd 4 false,.rd 5 true,.rd 7 false,.rd 8 false,.rd 9 false,.rd 10 false,.rd 11 true,.ef 6 [11],.rd 12 false] ?_;simp only[go_sem,Aa,f8,f9,f10,g1,Hw,q1,q2,q3,q4];refine⟨by omega,?_⟩
  try refine⟨by omega,?_⟩
  refine(AT.pre (Zm (Ir [] (O.take i)) O[i].1 (N1 i) (N2 i) sf) (by kernel_rfl) (svr σ3) (vws_cons (hN.vw σ3 σ3) (Bv _))).p ?_;rw[k1];cases hg:O[i].2 with
  |true=>
   rw[hg]at k1 g1;unfold J7 at k2;rw[hg,if_pos rfl]at k2;simp only[go_sem,Aa,f8,f9,f10,g1,Hw,q1,q2,q3,q4];refine⟨by omega,by omega,?_⟩;have hv:VW σ3 σ3 (AV.fsl 4 [O[i].1.cs]) (.sl 4 (faC [O[i].1])):=LAt.full.vw_same fun z hz=>absurd hz A3;refine(AT.pre (Af0 (Ir [] (O.take i)) [O[i].1] (N1 i) (N2 i) (by simp) (fun y hy=>by rw[List.mem_singleton.1 hy];exact sf)) (by kernel_rfl) (svr σ3) (vws_cons (hN.vw σ3 σ3) (vws_cons hv B5))).mono ?_;rintro w σ3 ⟨hW,rfl⟩;rw[←k2]at hW;simp only[go_sem,Aa,f10,nx];exact⟨O.length-(i+1),by omega,i+1,w,rfl,by omega,hW,f5,rfl,f9,rfl⟩
  |false=>
   rw[hg]at k1 g1;unfold J7 at k2;rw[hg,if_neg (by decide)]at k2;simp only[go_sem,Aa,f8,f9,f10,g1,Hw,q1,q2,q3,q4];refine⟨by omega,by omega,(Aau hN O[i].1 (N1 i) (N2 i) sf).p ?_⟩;simp only[go_sem,Aa,f10,nx];exact⟨O.length-(i+1),by omega,i+1,_,rfl,by omega,.inl (by rw[k2]),f5,rfl,f9,rfl⟩
 ·have d1:=decide_eq_false (show¬(i:Int)<O.length by omega)
  have n1:=N1 O.length;have n2:=N2 O.length;rw[List.take_of_length_le (Nat.le_refl _),Irun]at n1 n2;rw[List.take_of_length_le (by omega),Irun]at hN;simp only[go_sem,Aa,f5,f8,f9,f10,Hw,d1];refine(Y9 E3 ok' (by omega)).p ?_;simp only[go_sem,Aa];refine(AT.pre (Air (σ:=σ3) (a:=Hm s) (b:=Hm s) .sl .sl n1 n2 n1 n2) (by kernel_rfl) (svr σ3) (vws_cons (hN.vw σ3 σ3) (Bv _))).p ?_;simp only[go_sem,Aa,decide_true,f5];refine(Zc E3).mono ?_;rintro _ σ4 ⟨rfl,_⟩;have z0:(ouC ([]:List (Fa×Bool))).length=0:=rfl;simp only[go_sem,Aa,z0];refine(hlive _).p ?_;simp only[go_sem,Aa];exact Ad (r:=boo true) rfl rfl
end
section
variable{σ:St}{t b1 b2:Nat}{T:List Fa}{lim:Int}
theorem U4(h:TB σ t T lim)(hT:TOk T lim)(h1:σ b1=some (.cells [ptr t]))(h2:σ b2=some (.cells [fnv 117])):AT Tryz.prog 18 [Ry b1 b2] σ fun r σ'=>r= .sl 4 (faC T)∧σ'=σ:=by
 have hm:AT Tryz.prog 18 [Ry b1 b2] σ fun r σ'=>LAt 4 σ' r (faC T)∧Cg σ σ' r:=by
  refine AT.ob Tryz.func18 rfl ?_;have tlen:=hT.len;simp only[go_sem];refine Ax fun d hd hdm=>?_;have hI0:=OnI.start hd;obtain⟨σ2,e2⟩:∃s,s=σ.set d (.cells [A1]):=⟨_,rfl⟩;rw[←e2]at hI0⊢;clear e2 hdm;simp only[go_sem,Aa];refine⟨by kernel_rfl,?_⟩;refine Qe (fun fr=>fr 3=ptr d) rfl fun assign body fr hA hB f3=>?_;intro n l hl hlm;have htl:=hI0.none hl;have hsl:∀y o,σ2 y=some o→(σ2.set l (.loop fr n [9] assign body .ready none)) y=some o:=B2 hl fun _ _ h=>h;refine(Qs (t:=t) (b1:=b1) (b2:=b2) hT (fun i σ'=>OnI σ d (T.take i) σ'∧σ' l=some (.loop fr n [9] assign body .ready none)) ?_ ?_ ?_ ⟨by simpa using hI0.more hsl,Ab⟩).mono ?_
  ·rintro i σ5 ⟨g1,g2⟩
   exact⟨g1.sub h,g1.sub h1,g1.sub h2⟩
  ·rintro i σ5 σ6 ⟨g1,g2⟩ hs
   exact⟨g1.more hs,hs _ _ g2⟩
  ·rintro i σ5 hil ⟨g1,g2⟩
   refine Uh hA g2 rfl (by rw[hA,hB];rfl) ?_;have hbg:=fun k fr1 σ1=>V9 (P:=Tryz.prog) (l:=l) (fr:=fr) (fr1:=fr1) (σ1:=σ1) (ps:=[9]) (n:=n) (assign:=assign) (k:=k) hB;simp only[go_sem];refine Ax fun q hq hqm=>?_;obtain⟨σ6,e6⟩:∃s,s=σ5.set q (.cells T[i].cs):=⟨_,rfl⟩;have hs6:∀y o,σ5 y=some o→σ6 y=some o:=by rw[e6];exact B2 hq fun _ _ h=>h
   have hq6:σ6 q=some (.cells T[i].cs):=by rw[e6];exact Ab
   have g1':=g1.more hs6;have g2':=hs6 _ _ g2;simp only[go_sem,Ab,Cz,←e6,hbg];clear e6 hqm hq g1 g2;refine⟨g2',?_⟩;have g3:=g1'.loop (σ':=σ6.set l (.loop fr n [9] assign body .busy none)) g2' htl fun y hy=>Ag hy;have g4:(σ6.set l (.loop fr n [9] assign body .busy none)) l=some (.loop fr n [9] assign body .busy none):=Ab;have g5:(σ6.set l (.loop fr n [9] assign body .busy none)) q=some (.cells T[i].cs):=by rw[Ag (fun e=>by rw[e,g2']at hq6;cases hq6)];exact hq6
   revert g3 g4 g5;generalize σ6.set l (.loop fr n [9] assign body .busy none)=σ7;intro g3 g4 g5;obtain⟨hd0,lv,k1,k2,k3⟩:=g3;have hld:l≠d:=fun e=>by rw[e,k1]at g4;cases g4
   have nl:¬Own lv l:=fun ho=>by obtain⟨cap,h⟩:=k2.own_rows ho;rw[g4]at h;cases h
   simp only[go_sem,Aa,f3,k1,g5];refine Ap (ys:=[T[i].cs]) rfl (by decide) (by decide) (by decide) (k2.app (by rw[Al,List.length_take];simp only[List.length_cons,List.length_nil];omega) fun lv' σ8 hL4 hs4=>?_);obtain⟨g6,g7⟩:=OnI.app hd0 k1 k2 k3 hL4 hs4;have m6:=hs4 _ _ g4 nl;simp only[go_sem,Aa,g7,f3,hL4.one,hL4.cells,Xf];have g6':(σ8.set d (.cells [lv'])) l=some (.loop fr n [9] assign body .busy none):=by rw[Ag hld];exact m6.1
   have ht:T.take i++[T[i]]=T.take (i+1):=by rw[List.take_add_one,List.getElem?_eq_getElem hil];rfl
   rw[ht]at g6;exact⟨⟨_,g6'⟩,g6.loop (σ':=(σ8.set d (.cells [lv'])).set l (.loop fr n [9] assign body .ready none)) g6' htl (fun y hy=>Ag hy)⟩
  ·rintro _ σ5 ⟨g1,g2⟩
   rw[List.take_of_length_le (by omega)]at g1;have hdel:∀y,y≠l→(σ5.del l) y=σ5 y:=fun y hy=>by simp only[St.del];rw[if_neg hy]
   have g3:=g1.loop g2 htl hdel;unfold M3;rw[g2];refine⟨(by intro h;cases h),?_⟩;unfold Rv
   dsimp only
   obtain⟨_,lv,k1,k2,k3⟩:=g3;simp only[go_sem,Aa,f3,k1];exact Ad (r:=lv) rfl ⟨k2,k3⟩
 exact hm.post (by kernel_rfl) fun r σ' ⟨h1,h2⟩=>⟨_,_,Gc h1 h2,rfl,rfl⟩
end
def txA:ByteArray:=⟨#[97]⟩
def tmX:Tm:=⟨⟨#[88]⟩,false,0,emp⟩
def rlA:Rl:=⟨⟨⟨#[65]⟩,false,0,emp⟩,⟨#[112]⟩,[tmX],.zero,[⟨.zero,⟨#[113]⟩,[tmX],.zero⟩]⟩
def faA:Fa:=⟨txA,txA,⟨#[113]⟩,[⟨true,1,emp⟩]⟩
def fpA:Fa:=⟨txA,txA,⟨#[112]⟩,[⟨true,1,emp⟩]⟩
def liv(T:List Fa)(B:List De)(g q:List Fa):ES:=⟨txA,[txA],[rlA],T,9,B,g,q,[],false⟩
def deA:De:=⟨0,fpA,[faA]⟩
theorem Ao2:Ep txA [txA] 9 [rlA]=liv [] [] [] []:=by kernel_rfl
theorem Aiw:Dx (liv [] [] [] []) faA=(0,liv [] [] [faA] [faA]):=by kernel_rfl
theorem Aix:Bo (liv [] [] [faA] [faA])=(true,liv [faA] [deA] [faA] [fpA]):=by kernel_rfl
theorem Aiy:Bo (liv [faA] [deA] [faA] [fpA])=(true,liv [fpA,faA] [deA] [faA] []):=by kernel_rfl
theorem Ao3:F9 (liv [fpA,faA] [deA] [faA] []) faA=(0,liv [] [] [] []):=by kernel_rfl
theorem Ad2:H3 (liv [] [] [faA] [faA]):=fun _ f q hq _ _ i hi j hj=>by
 injection hq with e1 e2;subst e1;obtain rfl:i=0:=by have:i<1:=hi;omega
 obtain rfl:j=0:=by have:j<1:=hj;omega
 exact Nat.le_of_ble_eq_true (by kernel_rfl)
theorem Ad3:H3 (liv [faA] [deA] [faA] [fpA]):=fun _ f q hq _ _ i hi j hj=>by
 injection hq with e1 e2;subst e1;obtain rfl:i=0:=by have:i<1:=hi;omega
 obtain rfl:j=0:=by have:j<1:=hj;omega
 exact Nat.le_of_ble_eq_true (by kernel_rfl)
theorem Ajz:∀r∈[rlA],r.S4:=fun r hr=>by
 rw[List.mem_singleton.1 hr];exact⟨⟨by decide,fun l hl=>by rw[List.mem_singleton.1 hl];decide⟩,by decide⟩
theorem Abm:SOk 2 (liv [] [] [] []):=by
 rw[←Ao2];exact X3 (n:=0) (Ni (by omega) (by omega) Ajz (by decide) (by decide)) 1
theorem Aiz:SOk 3 (liv [] [] [faA] [faA]):=by
 have:=(Wu (f:=faA) (g:=0) Abm (Nat.le_refl _) (by decide)).1;rw[Aiw]at this;exact this
theorem Ai0:SOk 60005 (liv [faA] [deA] [faA] [fpA]):=by
 have:=Tx Aiz Ad2;rw[Aix]at this;exact this
theorem Ai1:SOk 120007 (liv [fpA,faA] [deA] [faA] []):=by
 have:=Tx Ai0 Ad3;rw[Aiy]at this;exact this
theorem Aqd:SOk 120007 (liv [] [] [] []):=Abm.le (by decide)
section
variable{σ:St}
theorem elive_at(hp:∀σ,AT Tryz.prog 42 [str ⟨#[65,58,32,112,40,88,41,32,58,45,32,113,40,88,41,46]⟩] σ fun r σ'=>r= .tup [.sl 11 (rlC [rlA]),int 0,int 0]∧σ'=σ):AT Tryz.prog 12 [] σ fun r σ'=>r=boo true∧σ'=σ:=by
 refine AT.ob Tryz.func12 rfl ?_;simp only[go_sem];refine(hp σ).p ?_;simp only[go_sem];have hnew:=Adq (σ:=σ) txA [txA] 9 [rlA] (by decide) (by decide) Ajz;refine(AT.weak hnew (show VWs σ σ [str txA,.fsl 1 [[str txA]],int 9,.sl 11 (rlC [rlA])] [str txA,.sl 1 (stC [txA]),int 9,.sl 11 (rlC [rlA])]from vws_same Oi)).mono ?_;rintro _ σ1 (⟨rfl,hbad,hs3⟩|⟨_,_,_,_,x,a,rfl,E1,F1⟩)
 ·rcases hbad with h|h|h
  ·exact absurd (List.mem_singleton.2 rfl) h
  ·obtain⟨r,hr,y,hy,hne⟩:=h
   rw[List.mem_singleton.1 hr]at hy;rw[List.mem_singleton.1 hy]at hne;exact absurd rfl hne
  ·exact absurd ⟨by omega,by omega⟩ h
 rw[Ao2]at E1;simp only[go_sem];clear hnew;refine Ax fun q hq _=>?_;have nq:¬Bj x a q:=fun hf=>by obtain⟨o,ho⟩:=Ie E1 hf;rw[hq]at ho;cases ho
 have sq:σ q=none:=Cu (fun y o hy=>(F1 y o hy).1) hq;simp only[go_sem,Ab,Cz];have hvw:∀{τ τ':St},VWs τ τ' [str txA,str txA,str ⟨#[113]⟩,.fsl 3 [[boo true,int 1,str emp]]] faA.cs:=fun{τ τ'}=>
  vws_same (vws_same (vws_same (vws_cons (LAt.full.vw_same fun z hz=>absurd hz A3) B5)))
 have sv:SV (σ1.set q (.cells [str txA,str txA,str ⟨#[113]⟩,.fsl 3 [[boo true,int 1,str emp]]])) (σ1.set q (.cells faA.cs)):=Lv (o:=.cells [str txA,str txA,str ⟨#[113]⟩,.fsl 3 [[boo true,int 1,str emp]]]) Ab hvw fun y o hy ho=>by rw[Ag hy];exact ho
 have E2:EV false (σ1.set q (.cells faA.cs)) x a (liv [] [] [] []) false:=E1.more (B2 hq fun _ _ h=>h);have hq2:(σ1.set q (.cells faA.cs)) q=some (.cells faA.cs):=Ab;have F2:∀y o,σ y=some o→(σ1.set q (.cells faA.cs)) y=some o:=fun y o hy=>by rw[Ag fun e=>by rw[e,sq]at hy;cases hy];exact(F1 y o hy).1
 have hsm:faA.Sm:=by show([⟨true,1,emp⟩]:List Cn).length≤_;simp
 refine(AT.pre (Su E2 Abm (by decide) faA) (by kernel_rfl) sv (vws_same (vws_cons (.agg [str txA,str txA,str ⟨#[113]⟩,.fsl 3 [[boo true,int 1,str emp]]] faA.cs rfl hvw.2) B5))).mono ?_;generalize σ1.set q (.cells faA.cs)=σ2 at hq2 F2;rintro _ σ3 ⟨rfl,a3,E3,G3⟩;have q3:=G3 _ _ hq2 nq;have F3:∀y o,σ y=some o→σ3 y=some o∧¬Bj x a3 y:=fun y o hy=>G3 _ _ (F2 y o hy) (F1 y o hy).2;rw[Aiw]at E3;simp only[go_sem,Aiw];refine(Oc E3 Aiz (by decide) Ad2).mono ?_;rintro _ σ4 ⟨rfl,a4,E4,G4⟩;have q4:=G4 _ _ q3.1 q3.2;have F4:∀y o,σ y=some o→σ4 y=some o∧¬Bj x a4 y:=fun y o hy=>G4 _ _ (F3 y o hy).1 (F3 y o hy).2;rw[Aix]at E4;simp only[go_sem,Aix,Bool.not_true];refine(Zd E4).p ?_;have e1:(((liv [faA] [deA] [faA] [fpA]).queue.length:Nat):Int)=1:=rfl;simp only[go_sem,e1];refine(Oc E4 Ai0 (by decide) Ad3).mono ?_;rintro _ σ5 ⟨rfl,a5,E5,G5⟩;have q5:=G5 _ _ q4.1 q4.2;have F5:∀y o,σ y=some o→σ5 y=some o∧¬Bj x a5 y:=fun y o hy=>G5 _ _ (F4 y o hy).1 (F4 y o hy).2;rw[Aiy]at E5;simp only[go_sem,Aiy,Bool.not_true];refine(U1 E5).mono ?_;rintro _ σ6 ⟨b1,b2,rfl,c6⟩;obtain⟨⟨k2,k1⟩,_⟩:=c6.g1;have E6:=E5.more c6.sub;have q6:=c6.sub _ _ q5.1;have F6:∀y o,σ y=some o→σ6 y=some o∧¬Bj x a5 y:=fun y o hy=>⟨c6.sub _ _ (F5 y o hy).1,(F5 y o hy).2⟩;clear c6;simp only[go_sem];refine(U4 (E6.ct) Ai1.tok k1 k2).p ?_;have e2:decide ((((liv [fpA,faA] [deA] [faA] []).T.length:Nat):Int)=2)=true:=rfl;simp only[go_sem,e2,q6];refine(Ss E6 Ai1 (by decide) faA hsm).mono ?_;rintro _ σ7 ⟨rfl,a7,E7,G7⟩;have F7:∀y o,σ y=some o→σ7 y=some o:=fun y o hy=>(G7 _ _ (F6 y o hy).1 (F6 y o hy).2).1;rw[Ao3]at E7;simp only[go_sem,Ao3];refine(U1 E7).mono ?_;rintro _ σ8 ⟨b3,b4,rfl,c8⟩;obtain⟨⟨k4,k3⟩,_⟩:=c8.g1;have E8:=E7.more c8.sub;have F8:∀y o,σ y=some o→σ8 y=some o:=fun y o hy=>c8.sub _ _ (F7 y o hy);simp only[go_sem];refine(U4 (E8.ct) Aqd.tok k3 k4).p ?_;have e3:decide ((((liv [] [] [] []).T.length:Nat):Int)=0)=true:=rfl;simp only[go_sem,e3];exact Ae (r:=boo true) rfl _ σ (Ao F8) ⟨rfl,rfl⟩
end
theorem Arx{n:Nat}{cs:List AV}(h:Ty Tryz.prog (n+3) 86 cs):∃c:Cn,cs=c.cs∧c.Wf:=by
 have hx:=Q0 Tryz.underlying86 h;obtain⟨x1,y1,rfl,h1,x2,y2,rfl,h2,x3,y3,rfl,h3,rfl⟩:=hx;obtain⟨b,rfl⟩:=Ae2 Tryz.underlying4 h1;obtain⟨k,rfl,_⟩:=Xz Tryz.underlying3 h2;obtain⟨s,rfl,hs⟩:=Je Tryz.underlying9 h3;exact⟨⟨b,k,s⟩,rfl,hs⟩
theorem Ag8{n:Nat}:∀(es:List (List AV)),(∀x∈es,Ty Tryz.prog (n+3) 86 x)→∃l:List Cn,es=cnC l∧∀c∈l,c.Wf
 | [],_=>⟨[],rfl,fun x hx=>by cases hx⟩
 |x::es,h=>by
  obtain⟨l,rfl,hl⟩:=Ag8 es fun y hy=>h y (by simp[hy]);obtain⟨t,rfl,ht⟩:=Arx (h x (by simp));exact⟨t::l,rfl,fun y hy=>by rcases List.mem_cons.1 hy with rfl|hy;exact ht;exact hl y hy⟩
theorem Ar3{n:Nat}{cs:List AV}(h:Ty Tryz.prog (n+5) 30 cs):∃f:Fa,cs=f.cs∧f.Wf:=by
 have hx:=Q0 Tryz.underlying30 h;obtain⟨x1,y1,rfl,h1,x2,y2,rfl,h2,x3,y3,rfl,h3,x4,y4,rfl,h4,rfl⟩:=hx;obtain⟨a,rfl,ha⟩:=Je Tryz.underlying9 h1;obtain⟨b,rfl,hb⟩:=Je Tryz.underlying9 h2;obtain⟨p,rfl,hp⟩:=Je Tryz.underlying9 h3;obtain⟨es,rfl,hl,he⟩:=T6 Tryz.underlying28 h4;obtain⟨ts,rfl,hts⟩:=Ag8 es he;have e1:Tryz.prog.cellsOf 86=3:=by kernel_rfl
 have e2:Tryz.prog.bytesOf 86=32:=by kernel_rfl
 rw[e1];rw[e2,Hu]at hl;exact⟨⟨a,b,p,ts⟩,rfl,by show ts.length≤_;omega,ha,hb,hp,hts⟩
theorem Aen{n:Nat}:∀(es:List (List AV)),(∀x∈es,Ty Tryz.prog (n+7) 92 x)→∃l:List Rl,es=rlC l∧∀x∈l,x.Wf
 | [],_=>⟨[],rfl,fun x hx=>by cases hx⟩
 |x::es,h=>by
  obtain⟨l,rfl,hl⟩:=Aen es fun y hy=>h y (by simp[hy]);obtain⟨t,rfl,ht⟩:=Asn (h x (by simp));exact⟨t::l,rfl,fun y hy=>by rcases List.mem_cons.1 hy with rfl|hy;exact ht;exact hl y hy⟩
theorem Anj{n:Nat}{cs:List AV}(h:Ty Tryz.prog (n+8) 23 cs):∃l:List Rl,cs=[.sl 11 (rlC l)]∧l.length≤140737488351232∧∀x∈l,x.Wf:=by
 obtain⟨es,rfl,hl,he⟩:=T6 Tryz.underlying23 h;obtain⟨ts,rfl,hts⟩:=Aen es he;have e1:Tryz.prog.cellsOf 92=11:=by kernel_rfl
 have e2:1≤Tryz.prog.bytesOf 92:=Nat.le_of_ble_eq_true (by kernel_rfl);rw[e1];rw[Cq]at hl;exact⟨ts,rfl,Nat.le_trans (Nat.le_mul_of_pos_right _ e2) hl,hts⟩
theorem Aex{n:Nat}:∀(es:List (List AV)),(∀x∈es,Ty Tryz.prog (n+1) 9 x)→∃l:List ByteArray,es=stC l
 | [],_=>⟨[],rfl⟩
 |x::es,h=>by
  obtain⟨l,rfl⟩:=Aex es fun y hy=>h y (by simp[hy]);obtain⟨t,rfl,_⟩:=Je Tryz.underlying9 (h x (by simp));exact⟨t::l,rfl⟩
theorem Anr{n:Nat}{cs:List AV}(h:Ty Tryz.prog (n+2) 22 cs):∃l:List ByteArray,cs=[.sl 1 (stC l)]:=by
 obtain⟨es,rfl,_,he⟩:=T6 Tryz.underlying22 h;obtain⟨ts,rfl⟩:=Aex es he;have e1:Tryz.prog.cellsOf 9=1:=by kernel_rfl
 rw[e1];exact⟨ts,rfl⟩
theorem Ars{n:Nat}{cs:List AV}(h:Ty Tryz.prog (n+9) 25 cs):∃(me:ByteArray) (names:List ByteArray) (lim:Int) (rs:List Rl),cs=c7C me names lim rs∧rs.length≤140737488351232∧∀r∈rs,r.Wf:=by
 have hx:=Q0 Tryz.underlying25 h;obtain⟨x1,y1,rfl,h1,x2,y2,rfl,h2,x3,y3,rfl,h3,x4,y4,rfl,h4,rfl⟩:=hx;obtain⟨me,rfl,_⟩:=Je Tryz.underlying9 h1;obtain⟨names,rfl⟩:=Anr h2;obtain⟨lim,rfl,_⟩:=Xz Tryz.underlying3 h3;obtain⟨rs,rfl,h5,h6⟩:=Anj h4;exact⟨me,names,lim,rs,rfl,h5,h6⟩
theorem Arn{n:Nat}{cs:List AV}(h:Ty Tryz.prog (n+6) 32 cs):∃a:Ac,cs=a.cs∧a.f.Wf:=by
 have hx:=Q0 Tryz.underlying32 h;obtain⟨x1,y1,rfl,h1,x2,y2,rfl,h2,rfl⟩:=hx;obtain⟨k,rfl,_⟩:=Xz Tryz.underlying3 h1;obtain⟨f,rfl,hf⟩:=Ar3 h2;exact⟨⟨k,f⟩,by simp[Ac.cs],hf⟩
theorem Ag1{n:Nat}:∀(es:List (List AV)),(∀x∈es,Ty Tryz.prog (n+6) 32 x)→∃l:List Ac,es=acC l∧∀a∈l,a.f.Wf
 | [],_=>⟨[],rfl,fun x hx=>by cases hx⟩
 |x::es,h=>by
  obtain⟨l,rfl,hl⟩:=Ag1 es fun y hy=>h y (by simp[hy]);obtain⟨t,rfl,ht⟩:=Arn (h x (by simp));exact⟨t::l,rfl,fun y hy=>by rcases List.mem_cons.1 hy with rfl|hy;exact ht;exact hl y hy⟩
theorem Apt{n:Nat}{cs:List AV}(h:Ty Tryz.prog (n+7) 27 cs):∃l:List Ac,cs=[.sl 5 (acC l)]∧l.length≤140737488351232∧∀a∈l,a.f.Wf:=by
 obtain⟨es,rfl,hl,he⟩:=T6 Tryz.underlying27 h;obtain⟨ts,rfl,hts⟩:=Ag1 es he;have e1:Tryz.prog.cellsOf 32=5:=by kernel_rfl
 have e2:1≤Tryz.prog.bytesOf 32:=Nat.le_of_ble_eq_true (by kernel_rfl);rw[e1];rw[C8]at hl;exact⟨ts,rfl,Nat.le_trans (Nat.le_mul_of_pos_right _ e2) hl,hts⟩
theorem ca7_of{a b:AV}(ha:TyA Tryz.prog 9 25 a)(hb:TyA Tryz.prog 9 27 b):∃(me:ByteArray) (names:List ByteArray) (lim:Int) (rs:List Rl) (l:List Ac),a= .agg (c7C me names lim rs)∧b= .sl 5 (acC l)∧C7Wf rs l:=by
 obtain⟨cs,rfl,hx⟩:∃cs,a= .agg cs∧Ty Tryz.prog 9 25 cs:=by
  unfold TyA at ha;rw[Tryz.underlying25]at ha;exact ha
 have hb':Ty Tryz.prog 9 27 [b]:=by
  unfold TyA at hb;rw[Tryz.underlying27]at hb;exact hb
 obtain⟨me,names,lim,rs,rfl,h1,h2⟩:=Ars (n:=0) hx;obtain⟨l,e,h3,h4⟩:=Apt (n:=2) hb';obtain rfl:b= .sl 5 (acC l):=by simpa using e
 exact⟨me,names,lim,rs,l,rfl,rfl,h1,h2,h3,h4⟩
def te3:TE:=⟨⟨false,1,[.int .i64 0],.int .i64⟩,false,false,false,false,false,true,none⟩
theorem Asr:Gg Tryz.prog 3 te3:=⟨by kernel_rfl,by kernel_rfl,by kernel_rfl,by kernel_rfl,by kernel_rfl,by kernel_rfl,by kernel_rfl,fun ls h=>by cases h⟩
def te5:TE:=⟨⟨false,1,[.int .u8 0],.int .u8⟩,false,false,false,false,false,true,none⟩
theorem Ass:Gg Tryz.prog 5 te5:=⟨by kernel_rfl,by kernel_rfl,by kernel_rfl,by kernel_rfl,by kernel_rfl,by kernel_rfl,by kernel_rfl,fun ls h=>by cases h⟩
def te9:TE:=⟨⟨false,1,[.string ⟨#[]⟩],.str⟩,false,false,false,false,false,true,none⟩
theorem Ast:Gg Tryz.prog 9 te9:=⟨by kernel_rfl,by kernel_rfl,by kernel_rfl,by kernel_rfl,by kernel_rfl,by kernel_rfl,by kernel_rfl,fun ls h=>by cases h⟩
def te20:TE:=⟨⟨false,1,[.nilIface],.iface⟩,false,false,false,false,false,false,none⟩
theorem Aqx:Gg Tryz.prog 20 te20:=⟨by kernel_rfl,by kernel_rfl,by kernel_rfl,by kernel_rfl,by kernel_rfl,by kernel_rfl,by kernel_rfl,fun ls h=>by cases h⟩
def te23:TE:=⟨⟨false,1,[.slice none 0 0],.sl 11 160 [.string ⟨#[]⟩,.bool false,.int .i64 0,.string ⟨#[]⟩,.string ⟨#[]⟩,.slice none 0 0,.string ⟨#[]⟩,.bool false,.int .i64 0,.string ⟨#[]⟩,.slice none 0 0] false⟩,true,false,false,false,false,true,none⟩
theorem Aqy:Gg Tryz.prog 23 te23:=⟨by kernel_rfl,by kernel_rfl,by kernel_rfl,by kernel_rfl,by kernel_rfl,by kernel_rfl,by kernel_rfl,fun ls h=>by cases h⟩
def te47:TE:=⟨⟨false,1,[.int .i64 0],.int .i64⟩,false,false,false,false,false,true,none⟩
theorem Aqz:Gg Tryz.prog 47 te47:=⟨by kernel_rfl,by kernel_rfl,by kernel_rfl,by kernel_rfl,by kernel_rfl,by kernel_rfl,by kernel_rfl,fun ls h=>by cases h⟩
def te86:TE:=⟨⟨true,3,[.bool false,.int .i64 0,.string ⟨#[]⟩],.st [(0,1,false),(1,1,false),(2,1,false)]⟩,false,false,false,false,false,true,(some [.b,.i .i64,.s])⟩
theorem Aq0:Gg Tryz.prog 86 te86:=⟨by kernel_rfl,by kernel_rfl,by kernel_rfl,by kernel_rfl,by kernel_rfl,by kernel_rfl,by kernel_rfl,fun ls h=>by cases h;exact⟨by kernel_rfl,by kernel_rfl,by kernel_rfl⟩⟩
def te88:TE:=⟨⟨true,4,[.string ⟨#[]⟩,.bool false,.int .i64 0,.string ⟨#[]⟩],.st [(0,1,false),(1,3,true)]⟩,false,false,false,false,false,true,(some [.s,.b,.i .i64,.s])⟩
theorem Aq1:Gg Tryz.prog 88 te88:=⟨by kernel_rfl,by kernel_rfl,by kernel_rfl,by kernel_rfl,by kernel_rfl,by kernel_rfl,by kernel_rfl,fun ls h=>by cases h;exact⟨by kernel_rfl,by kernel_rfl,by kernel_rfl⟩⟩
def te89:TE:=⟨⟨false,1,[.slice none 0 0],.sl 4 48 [.string ⟨#[]⟩,.bool false,.int .i64 0,.string ⟨#[]⟩] false⟩,true,false,false,false,false,true,none⟩
theorem Aq2:Gg Tryz.prog 89 te89:=⟨by kernel_rfl,by kernel_rfl,by kernel_rfl,by kernel_rfl,by kernel_rfl,by kernel_rfl,by kernel_rfl,fun ls h=>by cases h⟩
def te90:TE:=⟨⟨false,1,[.slice none 0 0],.sl 10 136 [.string ⟨#[]⟩,.bool false,.int .i64 0,.string ⟨#[]⟩,.string ⟨#[]⟩,.slice none 0 0,.string ⟨#[]⟩,.bool false,.int .i64 0,.string ⟨#[]⟩] false⟩,true,false,false,false,false,true,none⟩
theorem Aq3:Gg Tryz.prog 90 te90:=⟨by kernel_rfl,by kernel_rfl,by kernel_rfl,by kernel_rfl,by kernel_rfl,by kernel_rfl,by kernel_rfl,fun ls h=>by cases h⟩
def te92:TE:=⟨⟨true,11,[.string ⟨#[]⟩,.bool false,.int .i64 0,.string ⟨#[]⟩,.string ⟨#[]⟩,.slice none 0 0,.string ⟨#[]⟩,.bool false,.int .i64 0,.string ⟨#[]⟩,.slice none 0 0],.st [(0,4,true),(4,1,false),(5,1,false),(6,4,true),(10,1,false)]⟩,false,false,false,false,false,true,none⟩
theorem Aq4:Gg Tryz.prog 92 te92:=⟨by kernel_rfl,by kernel_rfl,by kernel_rfl,by kernel_rfl,by kernel_rfl,by kernel_rfl,by kernel_rfl,fun ls h=>by cases h⟩
def Apd:TE:=⟨⟨true,10,[.string ⟨#[]⟩,.bool false,.int .i64 0,.string ⟨#[]⟩,.string ⟨#[]⟩,.slice none 0 0,.string ⟨#[]⟩,.bool false,.int .i64 0,.string ⟨#[]⟩],.st [(0,4,true),(4,1,false),(5,1,false),(6,4,true)]⟩,false,false,false,false,false,true,none⟩
theorem Anv:Gg Tryz.prog 104 Apd:=⟨by kernel_rfl,by kernel_rfl,by kernel_rfl,by kernel_rfl,by kernel_rfl,by kernel_rfl,by kernel_rfl,fun ls h=>by cases h⟩
def Ape:TE:=⟨⟨false,1,[.slice none 0 0],.sl 4 40 [.int .i64 0,.string ⟨#[]⟩,.int .i64 0,.int .i64 0] false⟩,true,false,false,false,false,true,none⟩
theorem Anw:Gg Tryz.prog 130 Ape:=⟨by kernel_rfl,by kernel_rfl,by kernel_rfl,by kernel_rfl,by kernel_rfl,by kernel_rfl,by kernel_rfl,fun ls h=>by cases h⟩
def Apf:TE:=⟨⟨false,1,[.pointer none],.ptr 135⟩,false,true,false,false,false,true,none⟩
theorem Anx:Gg Tryz.prog 133 Apf:=⟨by kernel_rfl,by kernel_rfl,by kernel_rfl,by kernel_rfl,by kernel_rfl,by kernel_rfl,by kernel_rfl,fun ls h=>by cases h⟩
def Apg:TE:=⟨⟨true,2,[.slice none 0 0,.int .i64 0],.st [(0,1,false),(1,1,false)]⟩,false,false,false,false,false,true,none⟩
theorem Anz:Gg Tryz.prog 135 Apg:=⟨by kernel_rfl,by kernel_rfl,by kernel_rfl,by kernel_rfl,by kernel_rfl,by kernel_rfl,by kernel_rfl,fun ls h=>by cases h⟩
def Aph:TE:=⟨⟨true,2,[.int .i64 0,.int .i64 0],.st [(0,1,false),(1,1,false)]⟩,false,false,false,false,false,true,(some [.i .i64,.i .i64])⟩
theorem An0:Gg Tryz.prog 137 Aph:=⟨by kernel_rfl,by kernel_rfl,by kernel_rfl,by kernel_rfl,by kernel_rfl,by kernel_rfl,by kernel_rfl,fun ls h=>by cases h;exact⟨by kernel_rfl,by kernel_rfl,by kernel_rfl⟩⟩
def Api:TE:=⟨⟨true,4,[.int .i64 0,.string ⟨#[]⟩,.int .i64 0,.int .i64 0],.st [(0,1,false),(1,1,false),(2,1,false),(3,1,false)]⟩,false,false,false,false,false,true,(some [.i .i64,.s,.i .i64,.i .i64])⟩
theorem An1:Gg Tryz.prog 186 Api:=⟨by kernel_rfl,by kernel_rfl,by kernel_rfl,by kernel_rfl,by kernel_rfl,by kernel_rfl,by kernel_rfl,fun ls h=>by cases h;exact⟨by kernel_rfl,by kernel_rfl,by kernel_rfl⟩⟩
def Apj:TE:=⟨⟨false,1,[.nilFunc],.other⟩,false,false,true,false,false,true,none⟩
theorem An2:Gg Tryz.prog 218 Apj:=⟨by kernel_rfl,by kernel_rfl,by kernel_rfl,by kernel_rfl,by kernel_rfl,by kernel_rfl,by kernel_rfl,fun ls h=>by cases h⟩
def tyT:Tr TE:=(.n (.n (.n (.n .e (.n (.n .e (.n .e (.n (.n (.n (.l Apd) .e) .e) .e))) (.n (.n .e (.n (.n (.n (.l te88) .e) .e) .e)) .e))) (.n (.n .e (.n (.n (.n (.n (.n (.l te20) .e) .e) .e) .e) .e)) (.n .e (.n (.n .e (.n (.n (.n (.l te92) .e) .e) .e)) .e)))) (.n (.n (.n (.n (.n (.n .e (.n (.n (.l Ape) .e) .e)) .e) .e) .e) (.n .e (.n (.n .e (.n (.n (.n (.l te90) .e) .e) (.n (.n (.l Apj) .e) .e))) (.n (.n .e (.n (.n (.l Api) .e) .e)) .e)))) (.n (.n .e (.n (.n .e (.n (.n (.n (.l te86) .e) .e) .e)) .e)) .e))) (.n (.n (.n .e (.n (.n (.n (.n (.n (.n (.l te9) .e) .e) (.n (.n (.l Aph) .e) .e)) .e) .e) (.n (.n .e (.n (.n (.n (.l te89) .e) .e) .e)) .e))) (.n (.n (.n (.n (.n (.n (.n (.l te5) .e) .e) (.n (.n (.l Apf) .e) .e)) .e) .e) .e) .e)) (.n (.n (.n (.n (.n (.n (.n (.n (.l te3) .e) .e) .e) .e) .e) .e) .e) (.n (.n (.n (.n (.n .e (.n (.n (.l Apg) .e) .e)) .e) .e) (.n (.n (.n (.n (.n (.l te23) .e) .e) .e) .e) .e)) (.n (.n .e (.n (.n (.n (.n (.l te47) .e) .e) .e) .e)) .e)))))
theorem tyOk:tyT.All 10 (Gg Tryz.prog):=⟨⟨⟨⟨trivial,⟨⟨trivial,⟨trivial,⟨⟨⟨Anv,trivial⟩,trivial⟩,trivial⟩⟩⟩,⟨⟨trivial,⟨⟨⟨Aq1,trivial⟩,trivial⟩,trivial⟩⟩,trivial⟩⟩⟩,⟨⟨trivial,⟨⟨⟨⟨⟨Aqx,trivial⟩,trivial⟩,trivial⟩,trivial⟩,trivial⟩⟩,⟨trivial,⟨⟨trivial,⟨⟨⟨Aq4,trivial⟩,trivial⟩,trivial⟩⟩,trivial⟩⟩⟩⟩,⟨⟨⟨⟨⟨⟨trivial,⟨⟨Anw,trivial⟩,trivial⟩⟩,trivial⟩,trivial⟩,trivial⟩,⟨trivial,⟨⟨trivial,⟨⟨⟨Aq3,trivial⟩,trivial⟩,⟨⟨An2,trivial⟩,trivial⟩⟩⟩,⟨⟨trivial,⟨⟨An1,trivial⟩,trivial⟩⟩,trivial⟩⟩⟩⟩,⟨⟨trivial,⟨⟨trivial,⟨⟨⟨Aq0,trivial⟩,trivial⟩,trivial⟩⟩,trivial⟩⟩,trivial⟩⟩⟩,⟨⟨⟨trivial,⟨⟨⟨⟨⟨⟨Ast,trivial⟩,trivial⟩,⟨⟨An0,trivial⟩,trivial⟩⟩,trivial⟩,trivial⟩,⟨⟨trivial,⟨⟨⟨Aq2,trivial⟩,trivial⟩,trivial⟩⟩,trivial⟩⟩⟩,⟨⟨⟨⟨⟨⟨⟨Ass,trivial⟩,trivial⟩,⟨⟨Anx,trivial⟩,trivial⟩⟩,trivial⟩,trivial⟩,trivial⟩,trivial⟩⟩,⟨⟨⟨⟨⟨⟨⟨⟨Asr,trivial⟩,trivial⟩,trivial⟩,trivial⟩,trivial⟩,trivial⟩,trivial⟩,⟨⟨⟨⟨⟨trivial,⟨⟨Anz,trivial⟩,trivial⟩⟩,trivial⟩,trivial⟩,⟨⟨⟨⟨⟨Aqy,trivial⟩,trivial⟩,trivial⟩,trivial⟩,trivial⟩⟩,⟨⟨trivial,⟨⟨⟨⟨Aqz,trivial⟩,trivial⟩,trivial⟩,trivial⟩⟩,trivial⟩⟩⟩⟩⟩
noncomputable def fe42:FE:=⟨Tryz.f42,[(3,[.rd 0 true,.rd 1 true,.ef 2 [0,1],.ef 3 [1],.ef 4 []]),(9,[.rd 0 true,.rd 1 false,.ef 2 [0],.rd 3 false,.ef 4 [],.ef 5 []])]⟩
noncomputable def fe83:FE:=⟨Tryz.f83,[]⟩
noncomputable def fe84:FE:=⟨Tryz.f84,[(3,[.rd 0 false,.rd 1 true,.rd 2 false,.rd 3 true,.ef 4 [1,3],.ef 5 [3],.ef 6 []])]⟩
noncomputable def fe85:FE:=⟨Tryz.f85,[]⟩
noncomputable def fe86:FE:=⟨Tryz.f86,[]⟩
noncomputable def fe87:FE:=⟨Tryz.f87,[(10,[.rd 0 false,.rd 1 true,.rd 2 false,.ef 3 [1],.rd 4 false,.ef 5 [],.rd 6 false,.ef 7 []])]⟩
noncomputable def Aoe:FE:=⟨Tryz.f142,[]⟩
noncomputable def Aof:FE:=⟨Tryz.f143,[(7,[.rd 0 false,.rd 1 false,.rd 2 false,.rd 3 true,.rd 4 false,.ef 5 [3],.rd 6 false,.ef 7 []]),(10,[.rd 0 false,.rd 1 false,.rd 2 false,.rd 3 true,.rd 4 false,.ef 5 [3],.rd 6 false,.ef 7 []]),(24,[.rd 0 false,.rd 1 false,.rd 2 false,.rd 3 true,.rd 4 false,.ef 5 [3],.rd 6 false,.ef 7 []]),(26,[.rd 0 false,.rd 1 false,.rd 2 false,.rd 3 true,.rd 4 false,.ef 5 [3],.rd 6 false,.ef 7 []])]⟩
noncomputable def Aog:FE:=⟨Tryz.f144,[]⟩
noncomputable def Aoh:FE:=⟨Tryz.f145,[]⟩
noncomputable def Aoi:FE:=⟨Tryz.f146,[]⟩
noncomputable def Aoj:FE:=⟨Tryz.f147,[]⟩
noncomputable def Aok:FE:=⟨Tryz.f148,[]⟩
noncomputable def Aol:FE:=⟨Tryz.f149,[]⟩
noncomputable def Aom:FE:=⟨Tryz.f150,[]⟩
noncomputable def Aon:FE:=⟨Tryz.f151,[]⟩
noncomputable def Aoo:FE:=⟨Tryz.f182,[]⟩
noncomputable def Aop:FE:=⟨Tryz.f183,[]⟩
noncomputable def Aoq:FE:=⟨Tryz.f184,[]⟩
noncomputable def Aor:FE:=⟨Tryz.f185,[]⟩
noncomputable def Aos:FE:=⟨Tryz.f186,[]⟩
noncomputable def Aot:FE:=⟨Tryz.f187,[]⟩
noncomputable def Aou:FE:=⟨Tryz.f188,[]⟩
noncomputable def Aov:FE:=⟨Tryz.f189,[]⟩
noncomputable def Aow:FE:=⟨Tryz.f190,[]⟩
noncomputable def Aox:FE:=⟨Tryz.f191,[]⟩
noncomputable def Aoy:FE:=⟨Tryz.f227,[]⟩
theorem Ap2:Fq Tryz.prog 42 fe42:=⟨Tryz.func42,by decide,by kernel_rfl⟩
theorem Ap3:Fq Tryz.prog 83 fe83:=⟨Tryz.func83,by decide,by kernel_rfl⟩
theorem Ap4:Fq Tryz.prog 84 fe84:=⟨Tryz.func84,by decide,by kernel_rfl⟩
theorem Ap5:Fq Tryz.prog 85 fe85:=⟨Tryz.func85,by decide,by kernel_rfl⟩
theorem Ap6:Fq Tryz.prog 86 fe86:=⟨Tryz.func86,by decide,by kernel_rfl⟩
theorem Ap7:Fq Tryz.prog 87 fe87:=⟨Tryz.func87,by decide,by kernel_rfl⟩
theorem Al8:Fq Tryz.prog 142 Aoe:=⟨Tryz.func142,by decide,by kernel_rfl⟩
theorem Al9:Fq Tryz.prog 143 Aof:=⟨Tryz.func143,by decide,by kernel_rfl⟩
theorem Ama:Fq Tryz.prog 144 Aog:=⟨Tryz.func144,by decide,by kernel_rfl⟩
theorem Amb:Fq Tryz.prog 145 Aoh:=⟨Tryz.func145,by decide,by kernel_rfl⟩
theorem Amc:Fq Tryz.prog 146 Aoi:=⟨Tryz.func146,by decide,by kernel_rfl⟩
theorem Amd:Fq Tryz.prog 147 Aoj:=⟨Tryz.func147,by decide,by kernel_rfl⟩
theorem Ame:Fq Tryz.prog 148 Aok:=⟨Tryz.func148,by decide,by kernel_rfl⟩
theorem Amf:Fq Tryz.prog 149 Aol:=⟨Tryz.func149,by decide,by kernel_rfl⟩
theorem Amg:Fq Tryz.prog 150 Aom:=⟨Tryz.func150,by decide,by kernel_rfl⟩
theorem Amh:Fq Tryz.prog 151 Aon:=⟨Tryz.func151,by decide,by kernel_rfl⟩
theorem Ami:Fq Tryz.prog 182 Aoo:=⟨Tryz.func182,by decide,by kernel_rfl⟩
theorem Amj:Fq Tryz.prog 183 Aop:=⟨Tryz.func183,by decide,by kernel_rfl⟩
theorem Amk:Fq Tryz.prog 184 Aoq:=⟨Tryz.func184,by decide,by kernel_rfl⟩
theorem Aml:Fq Tryz.prog 185 Aor:=⟨Tryz.func185,by decide,by kernel_rfl⟩
theorem Amm:Fq Tryz.prog 186 Aos:=⟨Tryz.func186,by decide,by kernel_rfl⟩
theorem Amn:Fq Tryz.prog 187 Aot:=⟨Tryz.func187,by decide,by kernel_rfl⟩
theorem Amo:Fq Tryz.prog 188 Aou:=⟨Tryz.func188,by decide,by kernel_rfl⟩
theorem Amp:Fq Tryz.prog 189 Aov:=⟨Tryz.func189,by decide,by kernel_rfl⟩
theorem Amq:Fq Tryz.prog 190 Aow:=⟨Tryz.func190,by decide,by kernel_rfl⟩
theorem Amr:Fq Tryz.prog 191 Aox:=⟨Tryz.func191,by decide,by kernel_rfl⟩
theorem Ams:Fq Tryz.prog 227 Aoy:=⟨Tryz.func227,by decide,by kernel_rfl⟩
noncomputable def ftT:Tr FE:=(.n (.n (.n (.n (.n .e (.n (.n (.n .e (.n (.n (.l Aog) .e) .e)) .e) .e)) (.n .e (.n .e (.n (.n .e (.n (.n (.l Aoq) .e) .e)) .e)))) (.n (.n .e (.n (.n (.n .e (.n (.n (.l Aok) .e) .e)) (.n (.n (.n (.l fe84) .e) .e) .e)) .e)) (.n .e (.n .e (.n (.n .e (.n (.n (.l Aou) .e) .e)) .e))))) (.n (.n (.n .e (.n (.n (.n .e (.n (.n (.l Aoi) .e) .e)) .e) .e)) (.n (.n .e (.n (.n (.n (.n (.l fe42) .e) .e) .e) .e)) (.n .e (.n (.n .e (.n (.n (.l Aos) .e) .e)) .e)))) (.n (.n .e (.n (.n (.n .e (.n (.n (.l Aom) .e) .e)) (.n (.n (.n (.l fe86) .e) .e) .e)) (.n (.n .e (.n (.n (.l Aoo) .e) .e)) .e))) (.n (.n (.n (.n .e (.n (.n (.l Aoe) .e) .e)) .e) .e) (.n .e (.n (.n .e (.n (.n (.l Aow) .e) .e)) .e)))))) (.n (.n (.n (.n .e (.n (.n (.n .e (.n (.n (.l Aoh) .e) .e)) .e) .e)) (.n .e (.n .e (.n (.n .e (.n (.n (.l Aor) .e) .e)) .e)))) (.n (.n .e (.n (.n (.n .e (.n (.n (.l Aol) .e) .e)) (.n (.n (.n (.l fe85) .e) .e) .e)) .e)) (.n .e (.n .e (.n (.n .e (.n (.n (.l Aov) .e) .e)) .e))))) (.n (.n (.n (.n .e (.n .e (.n .e (.n (.n (.l Aoy) .e) .e)))) (.n (.n (.n .e (.n (.n (.l Aoj) .e) .e)) (.n (.n (.n (.l fe83) .e) .e) .e)) .e)) (.n .e (.n .e (.n (.n .e (.n (.n (.l Aot) .e) .e)) .e)))) (.n (.n .e (.n (.n (.n .e (.n (.n (.l Aon) .e) .e)) (.n (.n (.n (.l fe87) .e) .e) .e)) (.n (.n .e (.n (.n (.l Aop) .e) .e)) .e))) (.n (.n (.n (.n .e (.n (.n (.l Aof) .e) .e)) .e) .e) (.n .e (.n (.n .e (.n (.n (.l Aox) .e) .e)) .e)))))))
theorem ftOk:ftT.All 10 (Fq Tryz.prog):=⟨⟨⟨⟨⟨trivial,⟨⟨⟨trivial,⟨⟨Ama,trivial⟩,trivial⟩⟩,trivial⟩,trivial⟩⟩,⟨trivial,⟨trivial,⟨⟨trivial,⟨⟨Amk,trivial⟩,trivial⟩⟩,trivial⟩⟩⟩⟩,⟨⟨trivial,⟨⟨⟨trivial,⟨⟨Ame,trivial⟩,trivial⟩⟩,⟨⟨⟨Ap4,trivial⟩,trivial⟩,trivial⟩⟩,trivial⟩⟩,⟨trivial,⟨trivial,⟨⟨trivial,⟨⟨Amo,trivial⟩,trivial⟩⟩,trivial⟩⟩⟩⟩⟩,⟨⟨⟨trivial,⟨⟨⟨trivial,⟨⟨Amc,trivial⟩,trivial⟩⟩,trivial⟩,trivial⟩⟩,⟨⟨trivial,⟨⟨⟨⟨Ap2,trivial⟩,trivial⟩,trivial⟩,trivial⟩⟩,⟨trivial,⟨⟨trivial,⟨⟨Amm,trivial⟩,trivial⟩⟩,trivial⟩⟩⟩⟩,⟨⟨trivial,⟨⟨⟨trivial,⟨⟨Amg,trivial⟩,trivial⟩⟩,⟨⟨⟨Ap6,trivial⟩,trivial⟩,trivial⟩⟩,⟨⟨trivial,⟨⟨Ami,trivial⟩,trivial⟩⟩,trivial⟩⟩⟩,⟨⟨⟨⟨trivial,⟨⟨Al8,trivial⟩,trivial⟩⟩,trivial⟩,trivial⟩,⟨trivial,⟨⟨trivial,⟨⟨Amq,trivial⟩,trivial⟩⟩,trivial⟩⟩⟩⟩⟩⟩,⟨⟨⟨⟨trivial,⟨⟨⟨trivial,⟨⟨Amb,trivial⟩,trivial⟩⟩,trivial⟩,trivial⟩⟩,⟨trivial,⟨trivial,⟨⟨trivial,⟨⟨Aml,trivial⟩,trivial⟩⟩,trivial⟩⟩⟩⟩,⟨⟨trivial,⟨⟨⟨trivial,⟨⟨Amf,trivial⟩,trivial⟩⟩,⟨⟨⟨Ap5,trivial⟩,trivial⟩,trivial⟩⟩,trivial⟩⟩,⟨trivial,⟨trivial,⟨⟨trivial,⟨⟨Amp,trivial⟩,trivial⟩⟩,trivial⟩⟩⟩⟩⟩,⟨⟨⟨⟨trivial,⟨trivial,⟨trivial,⟨⟨Ams,trivial⟩,trivial⟩⟩⟩⟩,⟨⟨⟨trivial,⟨⟨Amd,trivial⟩,trivial⟩⟩,⟨⟨⟨Ap3,trivial⟩,trivial⟩,trivial⟩⟩,trivial⟩⟩,⟨trivial,⟨trivial,⟨⟨trivial,⟨⟨Amn,trivial⟩,trivial⟩⟩,trivial⟩⟩⟩⟩,⟨⟨trivial,⟨⟨⟨trivial,⟨⟨Amh,trivial⟩,trivial⟩⟩,⟨⟨⟨Ap7,trivial⟩,trivial⟩,trivial⟩⟩,⟨⟨trivial,⟨⟨Amj,trivial⟩,trivial⟩⟩,trivial⟩⟩⟩,⟨⟨⟨⟨trivial,⟨⟨Al9,trivial⟩,trivial⟩⟩,trivial⟩,trivial⟩,⟨trivial,⟨⟨trivial,⟨⟨Amr,trivial⟩,trivial⟩⟩,trivial⟩⟩⟩⟩⟩⟩⟩
theorem Aqa(vs:Array Value):X4 Tryz.prog 84 vs:=fun w=>by
 refine callsDIn_of_wpSIn Tryz.func84 rfl trivial fun c₀ cs hu=>?_;have hsz:14≤(vs++Array.replicate (14-vs.size) undef).size:=by simp;omega
 rw[show Tryz.f84.ntmps=14 from rfl];revert hsz;generalize vs++Array.replicate (14-vs.size) undef=tm;intro hsz;apply wpSIn_seq;apply wpSIn_region;simp[wpOpsSIn,go_sem,recoverD,hu,Exit.thenS];apply wpSIn_seq;apply wpSIn_region;have h3:3<tm.size:=by omega
 have h5:5<tm.size:=by omega
 have h6:6<tm.size:=by omega
 have h7:7<tm.size:=by omega
 simp[wpOpsSIn,go_sem,Exit.thenS,h3,h5,h6,h7,Act.eval,Act.put];refine wpSIn_cond (t:=false) (by simp[Act.eval,h3,h5,h6,h7]) ?_;simp only[Bool.false_eq_true,if_false];refine wpSIn_of_wpIn rfl (wpIn_skip ?_);cases c₀
 simp_all [bodyPostS,results,show Tryz.f84.results= #[]from rfl]
theorem prOk:PrOk Tryz.prog tyT ftT (fun f=>Nat.beq f 84) where
 mx:=by kernel_rfl
 ty:=fun t e ht he=>Tr.all_get tyOk (by simpa using ht) he
 ft:=fun t e ht he=>Tr.all_get ftOk (by simpa using ht) he
 idle:=fun f hf=>by
  rw[Az]at hf;subst hf;exact⟨⟨_,Tryz.func84,rfl,by decide⟩,Aqa⟩
def txtL:RS:=.v (.string ⟨#[65,58,32,112,40,88,41,32,58,45,32,113,40,88,41,46]⟩)
def resT:AV:=.tup [.sl 11 [[.v (.string ⟨#[65]⟩),.v (.bool false),.v (.int .i64 0),.v (.string ⟨#[]⟩),.v (.string ⟨#[112]⟩),.sl 4 [[.v (.string ⟨#[88]⟩),.v (.bool false),.v (.int .i64 0),.v (.string ⟨#[]⟩)]],.v (.string ⟨#[]⟩),.v (.bool false),.v (.int .i64 0),.v (.string ⟨#[]⟩),
 .sl 10 [[.v (.string ⟨#[]⟩),.v (.bool false),.v (.int .i64 0),.v (.string ⟨#[]⟩),.v (.string ⟨#[113]⟩),.sl 4 [[.v (.string ⟨#[88]⟩),.v (.bool false),.v (.int .i64 0),.v (.string ⟨#[]⟩)]],.v (.string ⟨#[]⟩),.v (.bool false),.v (.int .i64 0),.v (.string ⟨#[]⟩)]]]],.v (.int .i64 0),.v (.int .i64 0)]
theorem runP:runV Tryz.prog tyT ftT (fun f=>Nat.beq f 84) 100000 40 12 42 [txtL]=some resT:=by kernel_rfl
theorem parse1_at{σ:St}:AT Tryz.prog 42 [.v (.string ⟨#[65,58,32,112,40,88,41,32,58,45,32,113,40,88,41,46]⟩)] σ fun r σ'=>r=resT∧σ'=σ:=by
 have h:=Ano (σ:=σ) prOk runP (by kernel_rfl) (fun _=>.v (.bool false)) (fun _=>⟨rfl,rfl⟩) (by simp only[RS.wfs,RS.wf,txtL];trivial);have e:RS.ivs ⟨fun i=>i,fun i=>i,fun _=>.v (.bool false)⟩ [txtL]=[.v (.string ⟨#[65,58,32,112,40,88,41,32,58,45,32,113,40,88,41,46]⟩)]:=by
  simp only[RS.ivs,RS.iv,RS.vv,txtL]
 rw[e]at h;exact h
end Go.Proofs.YtmifmncabejffaaGreat
