/-
  Contracts of the functions that the statement reaches, and the plain laws of what they reckon.
  Conditions: none.
-/
import Derived.Test.YtmifmncabejffaaGreatRows
import Derived.RecoverIn
import Derived.BigFrame
import Derived.Test.YtmifmncabejffaaGreatV1EvalNone
import Derived.Test.YtmifmncabejffaaGreatV2EvalNone
import Derived.Test.YtmifmncabejffaaGreatV3EvalNone
import Derived.Test.YtmifmncabejffaaGreatX1EvalNone
import Derived.Test.YtmifmncabejffaaGreatX2EvalNone
set_option linter.unusedVariables false
set_option linter.unusedSimpArgs false
set_option linter.unusedSectionVars false
set_option maxRecDepth 100000
namespace Go.Proofs.YtmifmncabejffaaGreat
open Go Go.Av
structure DI(σ0:St)(x:Nat)(a:EA)(lv:AV)(o:List Fa)(σ:St)(a':EA)(s':ES):Prop where
 ev:EV false σ x a' s' false
 fr:Frm x a a' σ0 σ
 la:LAt 4 σ lv (faC o)
 own:∀y,Own lv y→¬Dh x a' y∧∀o,σ0 y=some o→Dh x a y
section
variable{σ0 σ σ':St}{x p q n:Nat}{a a':EA}{lv lv':AV}{o:List Fa}{s s':ES}
theorem DI.more(h:DI σ0 x a lv o σ a' s')(hs:∀y o,σ y=some o→σ' y=some o):DI σ0 x a lv o σ' a' s':=
 ⟨h.ev.more hs,fun y o hy hn=>⟨hs _ _ (h.fr y o hy hn).1,(h.fr y o hy hn).2⟩,h.la.keep fun y o hy _=>hs y o hy,h.own⟩
theorem DI.setT(h:DI σ0 x a lv o σ a' s'){T:List Fa}:DI σ0 x a lv o (σ.set a'.t (tbC T s'.lim)) a' {s' with T:=T}:=
 ⟨h.ev.setT,h.fr.trans .setT,h.la.keep fun y o hy ho=>by rw[Ad fun e=>(h.own y ho).1 (.inr (.inl e))];exact hy,h.own⟩
theorem DI.setB(h:DI σ0 x a lv o σ a' s'){B:List De}:DI σ0 x a lv o (σ.set a'.b (bkT false B)) a' {s' with B:=B}:=
 ⟨h.ev.setB,h.fr.trans .setB,h.la.keep fun y o hy ho=>by rw[Ad fun e=>(h.own y ho).1 (.inr (.inr (.inl e)))];exact hy,h.own⟩
theorem DI.app(h:DI σ0 x a lv o σ a' s'){f:Fa}(h1:LAt 4 σ' lv' (faC (o++[f])))(hs:∀y o,σ y=some o→¬Own lv y→σ' y=some o∧¬Own lv' y):DI σ0 x a lv' (o++[f]) σ' a' s':=by
 have old:∀y o,σ0 y=some o→¬Dh x a y→σ' y=some o∧¬Own lv' y:=fun y o hy hn=>hs y o (h.fr y o hy hn).1 fun ho=>hn ((h.own y ho).2 o hy);refine⟨h.ev.keep fun y o hy hf=>(hs y o hy fun ho=>(h.own y ho).1 hf).1,fun y o hy hn=>⟨(old y o hy hn).1,(h.fr y o hy hn).2⟩,h1,fun y ho=>⟨fun hf=>?_,fun o hy=>Classical.byContradiction fun hn=>(old y o hy hn).2 ho⟩⟩;obtain⟨o',hy⟩:=El h.ev hf;exact(hs y o' hy fun ho=>(h.own y ho).1 hf).2 ho
theorem Wg{v0:AV}(l:List Fa)(h0:Rd 4 σ v0 (faC l))(hl:l.length≤1000000000000)(hls:∀f∈l,f.Sm):AT Tryz.prog 59 [v0] σ fun v σ'=>v= .sl 4 (faC (Cc A4 [] l))∧σ'=σ:=
 (Ib l h0 hl hls).post (by kernel_rfl) fun v σ' h=>⟨_,_,h.view,rfl,rfl⟩
theorem Abr(a b:List Fa)(ha:a.length≤1000000000000)(sa:∀y∈a,y.Sm)(hb:b.length≤1000000000000)(sb:∀y∈b,y.Sm):AT Tryz.prog 74 [.sl 4 (faC a),.sl 4 (faC b)] σ fun r σ'=>r= .sl 4 (faC ((Cc A4 [] a).filter fun x=>!decide (x∈b)))∧σ'=σ:=
 (Rt a b .sl ha sa hb sb).post (by kernel_rfl) fun v σ' ⟨h1,h2⟩=>⟨_,_,H9 h1 h2,rfl,rfl⟩
theorem Akz{n:Nat}{s:ES}(h:SOk n s)(hn:n≤800000000000):(Q0 s).length≤1000000000000∧∀y∈Q0 s,y.Sm:=by
 have ly:=Pr s.B (s.given.filter fun g=>decide (g∈s.T));have h1:=ly.len;have h2:=List.length_filter_le (fun g=>decide (g∈s.T)) s.given;have h3:=List.length_filter_le (fun g=>decide (g∈s.T)) (Fe s.B (s.given.filter fun g=>decide (g∈s.T)));have h4:=h.gl;have h5:=h.bl;refine⟨by unfold Q0;omega,fun y hy=>?_⟩;rcases ly.own y (List.mem_filter.1 hy).1 with hy|⟨d,hd,e⟩
 ·exact h.gs y (List.mem_filter.1 hy).1
 ·rw[←e];exact(h.bs d hd).1
theorem Xj(h:EV false σ x a s false)(hs:SOk n s)(hn:n≤800000000000)(f:Fa)(hfs:f.Sm):
  AT Tryz.prog 36 [ptr x,.agg f.cs] σ fun r σ'=>r=int (delS s f).1∧∃a',EV false σ' x a' (delS s f).2 false∧Frm x a a' σ σ':=by
 refine AT.ob Tryz.func36 rfl ?_;simp only[go_sem];refine Ctx.nil.alloc fun p σ2 c2=>?_;have hp:=c2.g0;have hsb:=c2.sub;have fp:=c2.f0;clear c2;have h2:=h.more hsb;simp only[go_sem];refine(Iy h2).p ?_;have hx2:=h2.cx;have hgl:=hs.gl;simp only[go_sem];refine Ag [.rd 0 false,.rd 1 false,.rd 2 false,.rd 3 true,.rd 4 true,.ef 5 [],.rd 6 false] ?_;simp only[go_sem,hp,hx2];refine(Po s.given f (.of h2.lg) (by omega) hs.gs hfs).p ?_;by_cases hin:f∈s.given
 case neg=>
  have e:delS s f=(152,s):=by unfold delS;rw[if_neg hin]
  simp only[go_sem,decide_eq_false hin];exact Ac (r:=int 152) rfl ⟨by rw[e],a,by rw[e];exact h2,.of hsb⟩
 simp only[go_sem,decide_eq_true hin];refine Ag [.rd 0 false,.rd 1 false,.rd 2 false,.rd 3 false,.rd 4 true,.rd 5 true,.rd 6 false,.ef 7 [],.rd 8 false,.rd 9 false,.ef 10 []] ?_;simp only[go_sem,hp,hx2];refine(AT.weak (Rt s.given [f] (.of h2.lg) (by omega) hs.gs (by simp) (fun y hy=>by rw[List.mem_singleton.1 hy];exact hfs)) (vws_same Vw)).mono ?_;rintro v σ3 ⟨k1,k2⟩;obtain⟨kx,kE,kF⟩:=h2.setG k1 fun y o hy _=>k2 y o hy;have esp:Au (evC false s a false) 5 [v]=evC false (L5 s f) {a with gv:=v} false:=rfl;simp only[go_sem,kx,k1.one,k1.cells,esp,kE.all1];have F3:=(Frm.of hsb).trans kF;obtain⟨a1,ha1⟩:∃a1:EA,a1={a with gv:=v}:=⟨_,rfl⟩;obtain⟨s1,hs1⟩:∃s1:ES,s1=L5 s f:=⟨_,rfl⟩;rw[show({s with given:=(Cc A4 [] s.given).filter fun y=>!decide (y∈[f])}:ES)=s1 from hs1.symm,←ha1]at kE F3;rw[←hs1,←ha1];have O1:SOk n s1:=by rw[hs1];exact Ahw hs
 have hd:delS s f=(0,{((Np s1).foldl Qz (s1,[])).1 with outs:=((Np s1).foldl Qz (s1,[])).1.outs++(Cc A4 [] ((Np s1).foldl Qz (s1,[])).2).map fun y=>(y,true)}):=by unfold delS;rw[if_pos hin,hs1]
 clear kx kF k1 k2 hx2 hp fp;generalize σ3.set x (.cells (evC false s1 a1 false))=σ4 at kE F3⊢;have ht:a.t=a1.t:=by rw[ha1]
 rw[ht];refine T9.mono ?_;rintro _ σ5 ⟨b1,b2,rfl,c⟩;have E5:=kE.more c.sub;have F5:=F3.trans (.of c.sub);simp only[go_sem];refine(Xa (t:=a1.t) (lim:=s1.lim) E5.ct O1.tok c.g1.1.2 c.g1.1.1).p ?_;clear c kE F3;simp only[go_sem];refine(Vl E5 O1 hn _).p ?_;have hnw:=Akz O1 hn;have tl:=O1.tok.len;simp only[go_sem];refine(Abr s1.T (Q0 s1) (by omega) O1.tok.sm hnw.1 hnw.2).p ?_;obtain⟨G,hG⟩:∃G,G=Np s1:=⟨_,rfl⟩;rw[show((Cc A4 [] s1.T).filter fun y=>!decide (y∈Q0 s1))=G from hG.symm];rw[←hG]at hd
 have hGs:∀y∈G,y.Sm:=fun y hy=>O1.tok.sm y (by
  rw[hG]at hy;have:=(List.mem_filter.1 hy).1;rw[C7 Ap]at this;simpa using this)
 have gl:G.length≤1000000:=by
  rw[hG];have h1:=List.length_filter_le (fun y=>!decide (y∈Q0 s1)) (Cc A4 [] s1.T);have h2:=Cu (c:=A4) (s:=[]) (l:=s1.T);simp only[List.length_nil]at h2;unfold Np;omega
 have g0:GOk n (s1,[]):=⟨O1,by have:=O1.bo;show s1.B.length+s1.outs.length+0≤n;omega,fun y hy=>by cases hy⟩;have I0:DI σ x a Ax [] σ5 a1 s1:=⟨E5,F5,.none,fun y hy=>absurd hy Bu⟩;have fcl:=Am G;clear E5 F5 O1 hnw tl hgl hs hsb h2;simp only[go_sem,fcl];refine⟨fun m fr σ'=>∃(i:Nat) (lv:AV) (P:ES×List Fa),m=G.length-i∧i≤G.length∧P=(G.take i).foldl Qz (s1,[])∧GOk n P∧DI σ x a lv P.2 σ' a1 P.1∧fr 0=ptr x∧fr 7=lv∧fr 44= .sl 4 (faC G)∧fr 45=int G.length∧fr 46=int i,⟨_,0,Ax,(s1,[]),rfl,by omega,rfl,g0,I0,rfl,rfl,rfl,rfl,rfl⟩,?_⟩;clear g0 I0;rintro m fr σ2 ⟨i,lv,P,rfl,hi,hP,hO,hI,f0,f7,f44,f45,f46⟩;simp only[go_sem,f45,f46];refine aIf_by (fun hlt=>?_) (fun hlt=>?_)
 case' refine_1=>
  have hil:i<G.length:=by omega
  have hgs:=hGs _ (List.getElem_mem hil);obtain⟨g,hg⟩:∃g,g=G[i]:=⟨_,rfl⟩;rw[←hg]at hgs;have gg:(faC G).getD i []=g.cs:=by rw[hg];exact Bc hil
  simp only[go_sem,Aa,f44,f46,gg,fcl];refine⟨by omega,Ctx.nil.alloc fun q σ3 c3=>?_⟩;obtain⟨σ4,e4,c4⟩:=c3.abs 0 rfl (.cells g.cs);have hq:σ4 q=some (.cells g.cs):=c4.g0;have nq:¬Dh x a1 q:=fun hf=>by
   obtain⟨o,ho⟩:=El hI.ev hf;have:=c3.f0;rw[ho]at this;cases this
  have hI:=hI.more c4.sub;simp only[go_sem,Aa,c3.g0,e4];clear e4 c4 c3;have hx4:=hI.ev.cx;refine Ag [.rd 0 false,.rd 1 false,.rd 2 false,.rd 3 true,.rd 4 true,.ef 5 []] ?_;simp only[go_sem,Aa,f0,hx4,hq];refine(Afe (t:=a1.t) hI.ev.ct hO.ok.tok g hgs).mono ?_;rintro _ σ5 ⟨rfl,rfl⟩;have hI1:DI σ x a lv (takS P g).2 (σ4.set a1.t (tbC (Mi P.1.T g).1 P.1.lim)) a1 (takS P g).1:=hI.setT;have hO1:=Alg (g:=g) hO;have hq1:(σ4.set a1.t (tbC (Mi P.1.T g).1 P.1.lim)) q=some (.cells g.cs):=by rw[Ad fun e=>nq (.inr (.inl e))];exact hq
  have hB1:(takS P g).1.B=P.1.B:=rfl;obtain⟨P1,hP1⟩:∃P1,P1=takS P g:=⟨_,rfl⟩;rw[←hP1]at hI1 hO1 hB1;generalize σ4.set a1.t (tbC (Mi P.1.T g).1 P.1.lim)=σ5 at hI1 hq1⊢;clear hI hx4 hq;have hx5:=hI1.ev.cx;have hb5:BK σ5 a1.b P1.1.B:=hI1.ev.cb;simp only[go_sem,Aa];refine Ag [.rd 0 false,.rd 1 false,.rd 2 false,.rd 3 true,.rd 4 true,.rd 7 false,.ef 5 [],.rd 6 false] ?_;simp only[go_sem,Aa,f0,hx5,hq1];refine(Aip hb5 (hO1.ok.bok (by omega)) g hgs).p ?_;obtain⟨U,hU⟩:∃U,U=useF P1.1.B g:=⟨_,rfl⟩;have hUm:∀d∈U,d∈P1.1.B:=fun d hd=>by rw[hU]at hd;exact(List.mem_filter.1 hd).1
  have hUn:U.Nodup:=by rw[hU];exact(Wd Bw hO1.ok.br).filter _
  have hUl:U.length≤800000000000:=by
   have h1:=List.length_filter_le (fun d:De=>decide (g∈d.bo)) P1.1.B;have h2:=hO1.ok.bl;rw[hU];unfold useF;omega
  have hUs:∀d∈U,d.Sm:=fun d hd=>hO1.ok.bs d (hUm d hd);have es1:U.foldl Iv P1=Qz P g:=by unfold Qz;rw[hU,hP1];rfl
  rw[←hU];have dcl:=Bt U;simp only[go_sem,Aa,dcl];refine⟨fun m fr σ'=>∃(k:Nat) (lv:AV) (P2:ES×List Fa),m=U.length-k∧k≤U.length∧P2=(U.take k).foldl Iv P1∧GOk n P2∧DI σ x a lv P2.2 σ' a1 P2.1∧fr 0=ptr x∧fr 7=lv∧fr 44= .sl 4 (faC G)∧fr 45=int G.length∧fr 46=int i∧fr 61= .sl 6 (deC U)∧fr 62=int U.length∧fr 63=int k,⟨_,0,lv,P1,rfl,by omega,rfl,hO1,hI1,f0,f7,f44,f45,f46,rfl,rfl,rfl⟩,?_⟩;clear hI1 hx5 hb5 hq1 f0 f7 f44 f45 f46;rintro m fr σ2 ⟨k,lv,P2,rfl,hk,hP2,hO2,hI2,f0,f7,f44,f45,f46,f61,f62,f63⟩;simp only[go_sem,f62,f63];refine aIf_by (fun hlt=>?_) (fun hlt=>?_)
  case' refine_2=>
   have ek:k=U.length:=by omega
   have eP:P2=(G.take (i+1)).foldl Qz (s1,[]):=by rw[hP2,ek,List.take_length,es1,Rm _ hil,←hP,hg]
   simp only[go_sem,Aa,f46,A2 i (by omega)];exact⟨G.length-(i+1),by omega,i+1,lv,P2,rfl,by omega,eP,hO2,hI2,f0,f7,f44,f45,rfl⟩
  have hkl:k<U.length:=by omega
  obtain⟨d,hdd⟩:∃d,d=U[k]:=⟨_,rfl⟩;have hdm:d∈U:=by rw[hdd];exact List.getElem_mem hkl
  have hds:=hUs d hdm;have hdB:d∈P2.1.B:=by
   rw[hP2];exact Va _ _ (hUm d hdm) (by rw[hdd];exact Ahz hUn hkl)
  have dg:(deC U).getD k []=d.cs:=by rw[hdd];exact H1 hkl
  have e2:Iv P2 d=(U.take (k+1)).foldl Iv P1:=by rw[Rm _ hkl,←hP2,hdd]
  have hO3:=Akg hO2 hdB;simp only[go_sem,Aa,f61,f63,dg,dcl];refine⟨by omega,Ctx.nil.alloc fun w σ3 c3=>?_⟩;obtain⟨σ4,e4,c4⟩:=c3.abs 0 rfl (.cells d.cs);have hw:σ4 w=some (.cells d.cs):=c4.g0;have nw:¬Dh x a1 w:=fun hf=>by
   obtain⟨o,ho⟩:=El hI2.ev hf;have:=c3.f0;rw[ho]at this;cases this
  have hI2:=hI2.more c4.sub;simp only[go_sem,Aa,c3.g0,e4];clear e4 c4 c3;have hx4:=hI2.ev.cx;refine Ag [.rd 0 false,.rd 1 false,.rd 2 false,.rd 3 true,.rd 4 true,.ef 5 []] ?_;simp only[go_sem,Aa,f0,hx4,hw];refine(Acp (t:=a1.b) hI2.ev.cb (hO2.ok.bok (by omega)) d hds).mono ?_;rintro _ σ5 ⟨rfl,rfl⟩;obtain⟨B3,hB3⟩:∃B3,B3=P2.1.B.filter fun y=>!decide (y=d):=⟨_,rfl⟩;rw[←hB3,show bkC B3=bkT false B3 from rfl];have hI3:DI σ x a lv P2.2 (σ4.set a1.b (bkT false B3)) a1 (Iv P2 d).1:=by
   have:=hI2.setB (B:=B3);rw[hB3]at this⊢;exact this
  have hw3:(σ4.set a1.b (bkT false B3)) w=some (.cells d.cs):=by rw[Ad fun e=>nw (.inr (.inr (.inl e)))];exact hw
  have hB4:(Iv P2 d).1.B=B3:=hB3.symm;have m3:(Iv P2 d).1.me=P2.1.me:=rfl;have o3:(Iv P2 d).2=if d.hd.at'≠P2.1.me∧(ofF B3 d.hd).length=0 then P2.2++[d.hd]else P2.2:=by rw[hB3];rfl
  obtain⟨P3,hP3⟩:∃P3,P3=Iv P2 d:=⟨_,rfl⟩;rw[←hP3]at hI3 hB4 m3 o3 e2 hO3;generalize σ4.set a1.b (bkT false B3)=σ5 at hI3 hw3⊢;clear hI2 hx4 hw;have hx5:=hI3.ev.cx;have hb5:BK σ5 a1.b B3:=by rw[←hB4];exact hI3.ev.cb
  have hbk:BOk B3:=by rw[←hB4];exact hO3.ok.bok (by omega)
  have nx:=A2 k (by omega);simp only[go_sem,Aa];refine Ag [.rd 0 false,.rd 1 false,.rd 2 true,.rd 3 false,.rd 4 false,.rd 5 false,.rd 6 true,.rd 7 false,.rd 8 false,.rd 9 false,.rd 10 false,.rd 11 false,.rd 12 true,.rd 13 false,.rd 14 true,.ef 15 [],.rd 16 false,.rd 17 false,.rd 18 false] ?_;simp only[go_sem,Aa,f0,hx5,hw3,m3];by_cases hat:d.hd.at'=P2.1.me
  ·rw[if_neg fun h=>h.1 hat]at o3
   have d4:(!decide (d.hd.at'=P2.1.me))=false:=by rw[decide_eq_true hat];rfl
   simp only[go_sem,Aa,decide_eq_true hat,f63,nx];exact⟨U.length-(k+1),by omega,k+1,lv,P3,rfl,by omega,e2,hO3,by rw[o3];exact hI3,f0,f7,f44,f45,f46,f61,f62,rfl⟩
  have d4:(!decide (d.hd.at'=P2.1.me))=true:=by rw[decide_eq_false hat];rfl
  simp only[go_sem,Aa,decide_eq_false hat,f0,hx5,hw3];refine(Aer hb5 hbk d.hd hds.1).p ?_;by_cases hof:(ofF B3 d.hd).length=0
  ·rw[if_pos ⟨hat,hof⟩]at o3
   have d5:=decide_eq_true (show((ofF B3 d.hd).length:Int)=0 by omega);have hle:=hO2.le;simp only[go_sem,Aa,Bt,d5,f7,hw3];refine As (ys:=[d.hd.cs]) rfl (by decide) (by decide) (by decide) (hI3.la.app (by rw[Am];simp only[List.length_cons,List.length_nil];omega) fun lv' σ6 h6 s6=>?_);rw[show faC P2.2++[d.hd.cs]=faC (P2.2++[d.hd]) by simp[faC]]at h6;have hI6:=hI3.app h6 s6;simp only[go_sem,Aa,f63,nx];exact⟨U.length-(k+1),by omega,k+1,lv',P3,rfl,by omega,e2,hO3,by rw[o3];exact hI6,f0,rfl,f44,f45,f46,f61,f62,rfl⟩
  ·rw[if_neg fun h=>hof h.2]at o3
   have d5:=decide_eq_false (show¬((ofF B3 d.hd).length:Int)=0 by omega);simp only[go_sem,Aa,Bt,d5,f63,nx];exact⟨U.length-(k+1),by omega,k+1,lv,P3,rfl,by omega,e2,hO3,by rw[o3];exact hI3,f0,f7,f44,f45,f46,f61,f62,rfl⟩
 have ei:i=G.length:=by omega
 rw[ei,List.take_length]at hP;rw[←hP]at hd;have hle:=hO.le;simp only[go_sem,Aa,f7];refine(Wg P.2 (.of hI.la) (by omega) hO.sm).mono ?_;rintro _ σ3 ⟨rfl,rfl⟩;obtain⟨H,hH⟩:∃H,H=Cc A4 [] P.2:=⟨_,rfl⟩;rw[←hH]at hd⊢;have Hl:H.length≤P.2.length:=by
  have:=Cu (c:=A4) (s:=[]) (l:=P.2);rw[←hH]at this;simp only[List.length_nil]at this;omega
 have hcl:=Am H;have ev:=hI.ev;have fr:=hI.fr;simp only[go_sem,Aa,hcl];obtain⟨z,hz⟩:∃z,z=P.1.outs:=⟨_,rfl⟩;have hzl:z.length+P.2.length≤n:=by rw[hz];omega
 refine⟨fun m fr σ'=>∃(k:Nat) (a':EA) (s':ES),m=H.length-k∧k≤H.length∧s'={P.1 with outs:=z++(H.take k).map fun y=>(y,true)}∧EV false σ' x a' s' false∧Frm x a a' σ σ'∧fr 0=ptr x∧fr 100= .sl 4 (faC H)∧fr 101=int H.length∧fr 102=int k,⟨_,0,a1,P.1,rfl,by omega,by rw[hz];simp,ev,fr,f0,rfl,rfl,rfl⟩,?_⟩;clear ev fr hI f0 f7 f44 f45 f46;rintro m fr σ2 ⟨k,a',s',rfl,hk,hs',E2,F2,f0,f100,f101,f102⟩;simp only[go_sem,f101,f102];refine aIf_by (fun hlt=>?_) (fun hlt=>?_)
 case' refine_2=>
  have ek:k=H.length:=by omega
  rw[ek,List.take_length,hz]at hs';simp only[go_sem,Aa];exact Ac (r:=int 0) rfl ⟨by rw[hd],a',by rw[hd,←hs'];exact E2,F2⟩
 have hkl:k<H.length:=by omega
 obtain⟨g,hg⟩:∃g,g=H[k]:=⟨_,rfl⟩;have gg:(faC H).getD k []=g.cs:=by rw[hg];exact Bc hkl
 simp only[go_sem,Aa,f100,f102,gg,hcl];refine⟨by omega,Ctx.nil.alloc fun q σ3 c3=>?_⟩;obtain⟨σ4,e4,c4⟩:=c3.abs 0 rfl (.cells g.cs);have hq:σ4 q=some (.cells g.cs):=c4.g0;have E4:=E2.more c4.sub;have F4:=F2.trans (.of c4.sub);have hx4:=E4.cx;have ol:s'.outs.length=z.length+k:=by rw[hs'];simp;omega
 simp only[go_sem,Aa,c3.g0,e4];clear e4 c4 c3;refine Ag [.rd 0 false,.rd 1 false,.rd 2 false,.rd 3 false,.rd 4 true,.rd 5 true,.rd 6 false,.rd 7 false,.ef 8 [],.rd 9 false,.rd 10 false,.ef 11 []] ?_;simp only[go_sem,Aa,f0,hx4,hq];refine⟨Nat.le_refl 5,rfl,rfl,?_⟩;refine As (ys:=[g.cs++[boo true]]) rfl (by decide) (by decide) (by decide) (E4.co.app (by rw[Z8,ol];simp only[List.length_cons,List.length_nil];omega) fun v' σ5 k1 k2=>?_);rw[show ouC s'.outs++[g.cs++[boo true]]=ouC (s'.outs++[(g,true)]) by simp[ouC]]at k1;obtain⟨kx,kE,kF⟩:=E4.setO k1 k2;have esp:Au (evC false s' a' false) 7 [v']=evC false {s' with outs:=s'.outs++[(g,true)]} {a' with ov:=v'} false:=rfl;have e5:({s' with outs:=s'.outs++[(g,true)]}:ES)={P.1 with outs:=z++(H.take (k+1)).map fun y=>(y,true)}:=by
  rw[hs',List.take_add_one,List.getElem?_eq_getElem hkl,hg];simp only[List.map_append,Option.toList,List.map_cons,List.map_nil,List.append_assoc]
 simp only[go_sem,Aa,kx,k1.one,k1.cells,esp,kE.all1,f102,A2 k (by omega)];exact⟨H.length-(k+1),by omega,k+1,_,_,rfl,by omega,e5,kE,F4.trans kF,f0,f100,f101,rfl⟩
end
section
variable{σ:St}{x p:Nat}{a:EA}{s:ES}{n:Nat}
theorem Vn(h:EV false σ x a s false):AT Tryz.prog 24 [ptr x] σ fun r σ'=>r=int s.queue.length∧σ'=σ:=by
 refine AT.ob Tryz.func24 rfl ?_;simp only[go_sem];refine(Iy h).p ?_;have hx:=h.cx;simp only[go_sem,hx,h.cq.len,Am];exact Ac (r:=int s.queue.length) rfl ⟨rfl,rfl⟩
theorem Rj(h:EV false σ x a s false):AT Tryz.prog 19 [ptr x] σ fun v σ'=>∃b1 b2,v=Ot b1 b2∧Ctx σ [(b2,.cells [fnv 117]),(b1,.cells [ptr a.t])] σ':=by
 refine AT.ob Tryz.func19 rfl ?_;simp only[go_sem];refine(Iy h).p ?_;have hx:=h.cx;simp only[go_sem,hx];refine T9.mono ?_;rintro _ σ1 ⟨b1,b2,rfl,c⟩;simp only[go_sem];exact Ac (r:=Ot b1 b2) rfl ⟨b1,b2,rfl,c⟩
end
section
variable{σ σ1:St}{x:Nat}{a:EA}{s:ES}{n:Nat}{hv:Bool}
@[go_sem] theorem Ane(s:ES)(a:EA)(hv:Bool):(evC true s a hv).length=10:=rfl
@[go_sem] theorem Ark(s:ES)(a:EA)(hv:Bool):(evC true s a hv).getD 0 (.v undef)=str s.me:=rfl
@[go_sem] theorem Arl(s:ES)(a:EA)(hv:Bool):(evC true s a hv).getD 1 (.v undef)= .sl 1 (stC s.names):=rfl
@[go_sem] theorem Arm(s:ES)(a:EA)(hv:Bool):(evC true s a hv).getD 2 (.v undef)= .sl 11 (rlC s.rules):=rfl
@[go_sem] theorem Arn(s:ES)(a:EA)(hv:Bool):(evC true s a hv).getD 3 (.v undef)=ptr a.t:=rfl
@[go_sem] theorem Aro(s:ES)(a:EA)(hv:Bool):(evC true s a hv).getD 4 (.v undef)=ptr a.b:=rfl
@[go_sem] theorem Arp(s:ES)(a:EA)(hv:Bool):(evC true s a hv).getD 5 (.v undef)=a.gv:=rfl
@[go_sem] theorem Arq(s:ES)(a:EA)(hv:Bool):(evC true s a hv).getD 6 (.v undef)=a.qv:=rfl
@[go_sem] theorem Arr(s:ES)(a:EA)(hv:Bool):(evC true s a hv).getD 7 (.v undef)=a.ov:=rfl
@[go_sem] theorem Ars(s:ES)(a:EA)(hv:Bool):(evC true s a hv).getD 8 (.v undef)=boo s.full:=rfl
@[go_sem] theorem Art(s:ES)(a:EA)(hv:Bool):(evC true s a hv).getD 9 (.v undef)=boo hv:=rfl
end
section
variable{σ:St}{x:Nat}{a:EA}{s:ES}{n:Nat}{hv:Bool}
theorem Adx{r:Bool}(h:EV r σ x a s hv){y:Nat}(hf:Dh x a y):∃o,σ y=some o:=by
 rcases hf with rfl|rfl|rfl|e|e|e
 ·exact⟨_,h.cx⟩
 ·exact⟨_,h.ct⟩
 ·exact⟨_,h.cb⟩
 ·obtain⟨c,hc⟩:=h.grow e;exact⟨_,hc⟩
 ·obtain⟨r,c,hc⟩:=h.cq.rows e;exact⟨_,hc⟩
 ·obtain⟨c,hc⟩:=h.co.own_rows e;exact⟨_,hc⟩
end
theorem Ahr{n g:Nat}{s:ES}{f:Fa}(h:SOk n s)(hg:s.given.length≤g)(g1:g+1≤1000000):SOk (n+1) (Lz s f).2∧(Lz s f).2.given.length≤g+1:=by
 unfold Lz;split
 ·rename_i hf
  split
  ·split
   ·exact⟨h.le (by omega),Nat.le_trans hg (Nat.le_succ g)⟩
   ·have h2:=Cu (c:=A4) (s:=[]) (l:=s.given++[f])
    simp only[List.length_nil,List.length_append,List.length_cons]at h2;have hsm:=X0 hf;have hgl:(Cc A4 [] (s.given++[f])).length≤g+1:=by omega
    refine⟨{h.le (show n≤n+1 by omega)with ql:=?_,qs:=fun y hy=>?_,gr:=C8 Ap .nil,gl:=(by show(Cc A4 [] (s.given++[f])).length≤1000000;omega),gs:=fun y hy=>?_},hgl⟩
    ·show(s.queue++[f]).length≤n+1
     have:=h.ql;simp only[List.length_append,List.length_cons,List.length_nil];omega
    ·rcases List.mem_append.1 hy with hy|hy
     ·exact h.qs y hy
     ·rw[List.mem_singleton.1 hy];exact hsm
    ·rcases(C7 Ap).1 hy with hy|hy
     ·rcases List.mem_append.1 hy with hy|hy
      ·exact h.gs y hy
      ·rw[List.mem_singleton.1 hy];exact hsm
     ·cases hy
  ·exact⟨h.le (by omega),Nat.le_trans hg (Nat.le_succ g)⟩
 ·exact⟨h.le (by omega),Nat.le_trans hg (Nat.le_succ g)⟩
section
variable{σ:St}{t b1 b2:Nat}{T:List Fa}{lim:Int}
theorem Ro(h:TB σ t T lim)(hT:TOk T lim)(h1:σ b1=some (.cells [ptr t]))(h2:σ b2=some (.cells [fnv 117])):AT Tryz.prog 18 [Ot b1 b2] σ fun r σ'=>r= .sl 4 (faC T)∧σ'=σ:=by
 have hm:AT Tryz.prog 18 [Ot b1 b2] σ fun r σ'=>LAt 4 σ' r (faC T)∧Cz σ σ' r:=by
  refine AT.ob Tryz.func18 rfl ?_;have tlen:=hT.len;simp only[go_sem];refine Al fun d hd hdm=>?_;have hI0:=OnI.start hd;obtain⟨σ2,e2⟩:∃s,s=σ.set d (.cells [Ax]):=⟨_,rfl⟩;rw[←e2]at hI0⊢;clear e2 hdm;simp only[go_sem,Aa];refine⟨by kernel_rfl,?_⟩;refine Js (fun fr=>fr 3=ptr d) rfl fun assign body fr hA hB f3=>?_;intro n l hl hlm;have htl:=hI0.none hl;have hsl:∀y o,σ2 y=some o→(σ2.set l (.loop fr n [9] assign body .ready none)) y=some o:=A9 hl fun _ _ h=>h;refine(Ni (t:=t) (b1:=b1) (b2:=b2) hT (fun i σ'=>OnI σ d (T.take i) σ'∧σ' l=some (.loop fr n [9] assign body .ready none)) ?_ ?_ ?_ ⟨by simpa using hI0.more hsl,Ab⟩).mono ?_
  ·rintro i σ5 ⟨g1,g2⟩
   exact⟨g1.sub h,g1.sub h1,g1.sub h2⟩
  ·rintro i σ5 σ6 ⟨g1,g2⟩ hs
   exact⟨g1.more hs,hs _ _ g2⟩
  ·rintro i σ5 hil ⟨g1,g2⟩
   refine Qs hA g2 rfl (by rw[hA,hB];rfl) ?_;have hbg:=fun k fr1 σ1=>Su (P:=Tryz.prog) (l:=l) (fr:=fr) (fr1:=fr1) (σ1:=σ1) (ps:=[9]) (n:=n) (assign:=assign) (k:=k) hB;simp only[go_sem];refine Al fun q hq hqm=>?_;obtain⟨σ6,e6⟩:∃s,s=σ5.set q (.cells T[i].cs):=⟨_,rfl⟩;have hs6:∀y o,σ5 y=some o→σ6 y=some o:=by rw[e6];exact A9 hq fun _ _ h=>h
   have hq6:σ6 q=some (.cells T[i].cs):=by rw[e6];exact Ab
   have g1':=g1.more hs6;have g2':=hs6 _ _ g2;simp only[go_sem,Ab,B5,←e6,hbg];clear e6 hqm hq g1 g2;refine⟨g2',?_⟩;have g3:=g1'.loop (σ':=σ6.set l (.loop fr n [9] assign body .busy none)) g2' htl fun y hy=>Ad hy;have g4:(σ6.set l (.loop fr n [9] assign body .busy none)) l=some (.loop fr n [9] assign body .busy none):=Ab;have g5:(σ6.set l (.loop fr n [9] assign body .busy none)) q=some (.cells T[i].cs):=by rw[Ad (fun e=>by rw[e,g2']at hq6;cases hq6)];exact hq6
   revert g3 g4 g5;generalize σ6.set l (.loop fr n [9] assign body .busy none)=σ7;intro g3 g4 g5;obtain⟨hd0,lv,k1,k2,k3⟩:=g3;have hld:l≠d:=fun e=>by rw[e,k1]at g4;cases g4
   have nl:¬Own lv l:=fun ho=>by obtain⟨cap,h⟩:=k2.own_rows ho;rw[g4]at h;cases h
   simp only[go_sem,Aa,f3,k1,g5];refine As (ys:=[T[i].cs]) rfl (by decide) (by decide) (by decide) (k2.app (by rw[Am,List.length_take];simp only[List.length_cons,List.length_nil];omega) fun lv' σ8 hL4 hs4=>?_);obtain⟨g6,g7⟩:=OnI.app hd0 k1 k2 k3 hL4 hs4;have m6:=hs4 _ _ g4 nl;simp only[go_sem,Aa,g7,f3,hL4.one,hL4.cells,Tu];have g6':(σ8.set d (.cells [lv'])) l=some (.loop fr n [9] assign body .busy none):=by rw[Ad hld];exact m6.1
   have ht:T.take i++[T[i]]=T.take (i+1):=by rw[List.take_add_one,List.getElem?_eq_getElem hil];rfl
   rw[ht]at g6;exact⟨⟨_,g6'⟩,g6.loop (σ':=(σ8.set d (.cells [lv'])).set l (.loop fr n [9] assign body .ready none)) g6' htl (fun y hy=>Ad hy)⟩
  ·rintro _ σ5 ⟨g1,g2⟩
   rw[List.take_of_length_le (by omega)]at g1;have hdel:∀y,y≠l→(σ5.del l) y=σ5 y:=fun y hy=>by simp only[St.del];rw[if_neg hy]
   have g3:=g1.loop g2 htl hdel;unfold Ij;rw[g2];refine⟨(by intro h;cases h),?_⟩;unfold Nn
   dsimp only
   obtain⟨_,lv,k1,k2,k3⟩:=g3;simp only[go_sem,Aa,f3,k1];exact Ac (r:=lv) rfl ⟨k2,k3⟩
 exact hm.post (by kernel_rfl) fun r σ' ⟨h1,h2⟩=>⟨_,_,H9 h1 h2,rfl,rfl⟩
end
def txA:ByteArray:=⟨#[97]⟩
def tmX:Tm:=⟨⟨#[88]⟩,false,0,emp⟩
def rlA:Rl:=⟨⟨⟨#[65]⟩,false,0,emp⟩,⟨#[112]⟩,[tmX],.zero,[⟨.zero,⟨#[113]⟩,[tmX],.zero⟩]⟩
def faA:Fa:=⟨txA,txA,⟨#[113]⟩,[⟨true,1,emp⟩]⟩
def fpA:Fa:=⟨txA,txA,⟨#[112]⟩,[⟨true,1,emp⟩]⟩
def liv(T:List Fa)(B:List De)(g q:List Fa):ES:=⟨txA,[txA],[rlA],T,9,B,g,q,[],false⟩
def deA:De:=⟨0,fpA,[faA]⟩
theorem Ajm:newS txA [txA] 9 [rlA]=liv [] [] [] []:=by kernel_rfl
theorem Aec:Lz (liv [] [] [] []) faA=(0,liv [] [] [faA] [faA]):=by kernel_rfl
theorem Aed:Kd (liv [] [] [faA] [faA])=(true,liv [faA] [deA] [faA] [fpA]):=by kernel_rfl
theorem Aee:Kd (liv [faA] [deA] [faA] [fpA])=(true,liv [fpA,faA] [deA] [faA] []):=by kernel_rfl
theorem Ajn:delS (liv [fpA,faA] [deA] [faA] []) faA=(0,liv [] [] [] []):=by kernel_rfl
theorem Z0:Y0 (liv [] [] [faA] [faA]):=fun _ f q hq _ _ i hi j hj=>by
 injection hq with e1 e2;subst e1;obtain rfl:i=0:=by have:i<1:=hi;omega
 obtain rfl:j=0:=by have:j<1:=hj;omega
 exact Nat.le_of_ble_eq_true (by kernel_rfl)
theorem Z1:Y0 (liv [faA] [deA] [faA] [fpA]):=fun _ f q hq _ _ i hi j hj=>by
 injection hq with e1 e2;subst e1;obtain rfl:i=0:=by have:i<1:=hi;omega
 obtain rfl:j=0:=by have:j<1:=hj;omega
 exact Nat.le_of_ble_eq_true (by kernel_rfl)
theorem Ae5:∀r∈[rlA],r.S4:=fun r hr=>by
 rw[List.mem_singleton.1 hr];exact⟨⟨by decide,fun l hl=>by rw[List.mem_singleton.1 hl];decide⟩,by decide⟩
theorem Xu:SOk 2 (liv [] [] [] []):=by
 rw[←Ajm];exact Afp (n:=0) (Ad2 (by omega) (by omega) Ae5 (by decide) (by decide)) 1
theorem Aef:SOk 3 (liv [] [] [faA] [faA]):=by
 have:=(Ahr (f:=faA) (g:=0) Xu (Nat.le_refl _) (by decide)).1;rw[Aec]at this;exact this
theorem Aeg:SOk 60005 (liv [faA] [deA] [faA] [fpA]):=by
 have:=Afb Aef Z0;rw[Aed]at this;exact this
theorem Aeh:SOk 120007 (liv [fpA,faA] [deA] [faA] []):=by
 have:=Afb Aeg Z1;rw[Aee]at this;exact this
theorem Akv:SOk 120007 (liv [] [] [] []):=Xu.le (by decide)
section
variable{σ:St}
theorem elive_at(hp:∀σ,AT Tryz.prog 42 [str ⟨#[65,58,32,112,40,88,41,32,58,45,32,113,40,88,41,46]⟩] σ fun r σ'=>r= .tup [.sl 11 (rlC [rlA]),int 0,int 0]∧σ'=σ):AT Tryz.prog 12 [] σ fun r σ'=>r=boo true∧σ'=σ:=by
 refine AT.ob Tryz.func12 rfl ?_;simp only[go_sem];refine(hp σ).p ?_;simp only[go_sem];have hnew:=Agy (σ:=σ) txA [txA] 9 [rlA] (by decide) (by decide) Ae5;refine(AT.weak hnew (show VWs σ σ [str txA,.fsl 1 [[str txA]],int 9,.sl 11 (rlC [rlA])] [str txA,.sl 1 (stC [txA]),int 9,.sl 11 (rlC [rlA])]from vws_same Vw)).mono ?_;rintro _ σ1 (⟨rfl,hbad,hs3⟩|⟨_,_,_,_,x,a,rfl,E1,F1⟩)
 ·rcases hbad with h|h|h
  ·exact absurd (List.mem_singleton.2 rfl) h
  ·obtain⟨r,hr,y,hy,hne⟩:=h
   rw[List.mem_singleton.1 hr]at hy;rw[List.mem_singleton.1 hy]at hne;exact absurd rfl hne
  ·exact absurd ⟨by omega,by omega⟩ h
 rw[Ajm]at E1;simp only[go_sem];clear hnew;refine Al fun q hq _=>?_;have nq:¬Dh x a q:=fun hf=>by obtain⟨o,ho⟩:=Adx E1 hf;rw[hq]at ho;cases ho
 have sq:σ q=none:=Cj (fun y o hy=>(F1 y o hy).1) hq;simp only[go_sem,Ab,B5];have hvw:∀{τ τ':St},VWs τ τ' [str txA,str txA,str ⟨#[113]⟩,.fsl 3 [[boo true,int 1,str emp]]] faA.cs:=fun{τ τ'}=>
  vws_same (vws_same (vws_same (vws_cons (LAt.full.vw_same fun z hz=>absurd hz A3) Cm)))
 have sv:SV (σ1.set q (.cells [str txA,str txA,str ⟨#[113]⟩,.fsl 3 [[boo true,int 1,str emp]]])) (σ1.set q (.cells faA.cs)):=K8 (o:=.cells [str txA,str txA,str ⟨#[113]⟩,.fsl 3 [[boo true,int 1,str emp]]]) Ab hvw fun y o hy ho=>by rw[Ad hy];exact ho
 have E2:EV false (σ1.set q (.cells faA.cs)) x a (liv [] [] [] []) false:=E1.more (A9 hq fun _ _ h=>h);have hq2:(σ1.set q (.cells faA.cs)) q=some (.cells faA.cs):=Ab;have F2:∀y o,σ y=some o→(σ1.set q (.cells faA.cs)) y=some o:=fun y o hy=>by rw[Ad fun e=>by rw[e,sq]at hy;cases hy];exact(F1 y o hy).1
 have hsm:faA.Sm:=by show([⟨true,1,emp⟩]:List Cn).length≤_;simp
 refine(AT.pre (Xk E2 Xu (by decide) faA) (by kernel_rfl) sv (vws_same (vws_cons (.agg [str txA,str txA,str ⟨#[113]⟩,.fsl 3 [[boo true,int 1,str emp]]] faA.cs rfl hvw.2) Cm))).mono ?_;generalize σ1.set q (.cells faA.cs)=σ2 at hq2 F2;rintro _ σ3 ⟨rfl,a3,E3,G3⟩;have q3:=G3 _ _ hq2 nq;have F3:∀y o,σ y=some o→σ3 y=some o∧¬Dh x a3 y:=fun y o hy=>G3 _ _ (F2 y o hy) (F1 y o hy).2;rw[Aec]at E3;simp only[go_sem,Aec];refine(Vp E3 Aef (by decide) Z0).mono ?_;rintro _ σ4 ⟨rfl,a4,E4,G4⟩;have q4:=G4 _ _ q3.1 q3.2;have F4:∀y o,σ y=some o→σ4 y=some o∧¬Dh x a4 y:=fun y o hy=>G4 _ _ (F3 y o hy).1 (F3 y o hy).2;rw[Aed]at E4;simp only[go_sem,Aed,Bool.not_true];refine(Vn E4).p ?_;have e1:(((liv [faA] [deA] [faA] [fpA]).queue.length:Nat):Int)=1:=rfl;simp only[go_sem,e1];refine(Vp E4 Aeg (by decide) Z1).mono ?_;rintro _ σ5 ⟨rfl,a5,E5,G5⟩;have q5:=G5 _ _ q4.1 q4.2;have F5:∀y o,σ y=some o→σ5 y=some o∧¬Dh x a5 y:=fun y o hy=>G5 _ _ (F4 y o hy).1 (F4 y o hy).2;rw[Aee]at E5;simp only[go_sem,Aee,Bool.not_true];refine(Rj E5).mono ?_;rintro _ σ6 ⟨b1,b2,rfl,c6⟩;obtain⟨⟨k2,k1⟩,_⟩:=c6.g1;have E6:=E5.more c6.sub;have q6:=c6.sub _ _ q5.1;have F6:∀y o,σ y=some o→σ6 y=some o∧¬Dh x a5 y:=fun y o hy=>⟨c6.sub _ _ (F5 y o hy).1,(F5 y o hy).2⟩;clear c6;simp only[go_sem];refine(Ro (E6.ct) Aeh.tok k1 k2).p ?_;have e2:decide ((((liv [fpA,faA] [deA] [faA] []).T.length:Nat):Int)=2)=true:=rfl;simp only[go_sem,e2,q6];refine(Xj E6 Aeh (by decide) faA hsm).mono ?_;rintro _ σ7 ⟨rfl,a7,E7,G7⟩;have F7:∀y o,σ y=some o→σ7 y=some o:=fun y o hy=>(G7 _ _ (F6 y o hy).1 (F6 y o hy).2).1;rw[Ajn]at E7;simp only[go_sem,Ajn];refine(Rj E7).mono ?_;rintro _ σ8 ⟨b3,b4,rfl,c8⟩;obtain⟨⟨k4,k3⟩,_⟩:=c8.g1;have E8:=E7.more c8.sub;have F8:∀y o,σ y=some o→σ8 y=some o:=fun y o hy=>c8.sub _ _ (F7 y o hy);simp only[go_sem];refine(Ro (E8.ct) Akv.tok k3 k4).p ?_;have e3:decide ((((liv [] [] [] []).T.length:Nat):Int)=0)=true:=rfl;simp only[go_sem,e3];exact Ae (r:=boo true) rfl _ σ (Ao F8) ⟨rfl,rfl⟩
end
theorem Al7{n:Nat}{cs:List AV}(h:Ty Tryz.prog (n+3) 86 cs):∃c:Cn,cs=c.cs∧c.Wf:=by
 have hx:=Aj2 Tryz.underlying86 h;obtain⟨x1,y1,rfl,h1,x2,y2,rfl,h2,x3,y3,rfl,h3,rfl⟩:=hx;obtain⟨b,rfl⟩:=Aio Tryz.underlying4 h1;obtain⟨k,rfl,_⟩:=Alh Tryz.underlying3 h2;obtain⟨s,rfl,hs⟩:=Ud Tryz.underlying9 h3;exact⟨⟨b,k,s⟩,rfl,hs⟩
theorem Acy{n:Nat}:∀(es:List (List AV)),(∀x∈es,Ty Tryz.prog (n+3) 86 x)→∃l:List Cn,es=cnC l∧∀c∈l,c.Wf
 | [],_=>⟨[],rfl,fun x hx=>by cases hx⟩
 |x::es,h=>by
  obtain⟨l,rfl,hl⟩:=Acy es fun y hy=>h y (by simp[hy]);obtain⟨t,rfl,ht⟩:=Al7 (h x (by simp));exact⟨t::l,rfl,fun y hy=>by rcases List.mem_cons.1 hy with rfl|hy;exact ht;exact hl y hy⟩
theorem fa_of{n:Nat}{cs:List AV}(h:Ty Tryz.prog (n+5) 30 cs):∃f:Fa,cs=f.cs∧f.Wf:=by
 have hx:=Aj2 Tryz.underlying30 h;obtain⟨x1,y1,rfl,h1,x2,y2,rfl,h2,x3,y3,rfl,h3,x4,y4,rfl,h4,rfl⟩:=hx;obtain⟨a,rfl,ha⟩:=Ud Tryz.underlying9 h1;obtain⟨b,rfl,hb⟩:=Ud Tryz.underlying9 h2;obtain⟨p,rfl,hp⟩:=Ud Tryz.underlying9 h3;obtain⟨es,rfl,hl,he⟩:=Amx Tryz.underlying28 h4;obtain⟨ts,rfl,hts⟩:=Acy es he;have e1:Tryz.prog.cellsOf 86=3:=by kernel_rfl
 have e2:Tryz.prog.bytesOf 86=32:=by kernel_rfl
 rw[e1];rw[e2,Lo]at hl;exact⟨⟨a,b,p,ts⟩,rfl,by show ts.length≤_;omega,ha,hb,hp,hts⟩
def te3:TE:=⟨⟨false,1,[.int .i64 0],.int .i64⟩,false,false,false,false,false,true,none⟩
theorem Amt:Eg Tryz.prog 3 te3:=⟨by kernel_rfl,by kernel_rfl,by kernel_rfl,by kernel_rfl,by kernel_rfl,by kernel_rfl,by kernel_rfl,fun ls h=>by cases h⟩
def te5:TE:=⟨⟨false,1,[.int .u8 0],.int .u8⟩,false,false,false,false,false,true,none⟩
theorem Amu:Eg Tryz.prog 5 te5:=⟨by kernel_rfl,by kernel_rfl,by kernel_rfl,by kernel_rfl,by kernel_rfl,by kernel_rfl,by kernel_rfl,fun ls h=>by cases h⟩
def te9:TE:=⟨⟨false,1,[.string ⟨#[]⟩],.str⟩,false,false,false,false,false,true,none⟩
theorem Amv:Eg Tryz.prog 9 te9:=⟨by kernel_rfl,by kernel_rfl,by kernel_rfl,by kernel_rfl,by kernel_rfl,by kernel_rfl,by kernel_rfl,fun ls h=>by cases h⟩
def te20:TE:=⟨⟨false,1,[.nilIface],.iface⟩,false,false,false,false,false,false,none⟩
theorem Ak8:Eg Tryz.prog 20 te20:=⟨by kernel_rfl,by kernel_rfl,by kernel_rfl,by kernel_rfl,by kernel_rfl,by kernel_rfl,by kernel_rfl,fun ls h=>by cases h⟩
def te23:TE:=⟨⟨false,1,[.slice none 0 0],.sl 11 160 [.string ⟨#[]⟩,.bool false,.int .i64 0,.string ⟨#[]⟩,.string ⟨#[]⟩,.slice none 0 0,.string ⟨#[]⟩,.bool false,.int .i64 0,.string ⟨#[]⟩,.slice none 0 0] false⟩,true,false,false,false,false,true,none⟩
theorem Ak9:Eg Tryz.prog 23 te23:=⟨by kernel_rfl,by kernel_rfl,by kernel_rfl,by kernel_rfl,by kernel_rfl,by kernel_rfl,by kernel_rfl,fun ls h=>by cases h⟩
def te47:TE:=⟨⟨false,1,[.int .i64 0],.int .i64⟩,false,false,false,false,false,true,none⟩
theorem Ala:Eg Tryz.prog 47 te47:=⟨by kernel_rfl,by kernel_rfl,by kernel_rfl,by kernel_rfl,by kernel_rfl,by kernel_rfl,by kernel_rfl,fun ls h=>by cases h⟩
def te86:TE:=⟨⟨true,3,[.bool false,.int .i64 0,.string ⟨#[]⟩],.st [(0,1,false),(1,1,false),(2,1,false)]⟩,false,false,false,false,false,true,(some [.b,.i .i64,.s])⟩
theorem Alb:Eg Tryz.prog 86 te86:=⟨by kernel_rfl,by kernel_rfl,by kernel_rfl,by kernel_rfl,by kernel_rfl,by kernel_rfl,by kernel_rfl,fun ls h=>by cases h;exact⟨by kernel_rfl,by kernel_rfl,by kernel_rfl⟩⟩
def te88:TE:=⟨⟨true,4,[.string ⟨#[]⟩,.bool false,.int .i64 0,.string ⟨#[]⟩],.st [(0,1,false),(1,3,true)]⟩,false,false,false,false,false,true,(some [.s,.b,.i .i64,.s])⟩
theorem Alc:Eg Tryz.prog 88 te88:=⟨by kernel_rfl,by kernel_rfl,by kernel_rfl,by kernel_rfl,by kernel_rfl,by kernel_rfl,by kernel_rfl,fun ls h=>by cases h;exact⟨by kernel_rfl,by kernel_rfl,by kernel_rfl⟩⟩
def te89:TE:=⟨⟨false,1,[.slice none 0 0],.sl 4 48 [.string ⟨#[]⟩,.bool false,.int .i64 0,.string ⟨#[]⟩] false⟩,true,false,false,false,false,true,none⟩
theorem Ald:Eg Tryz.prog 89 te89:=⟨by kernel_rfl,by kernel_rfl,by kernel_rfl,by kernel_rfl,by kernel_rfl,by kernel_rfl,by kernel_rfl,fun ls h=>by cases h⟩
def te90:TE:=⟨⟨false,1,[.slice none 0 0],.sl 10 136 [.string ⟨#[]⟩,.bool false,.int .i64 0,.string ⟨#[]⟩,.string ⟨#[]⟩,.slice none 0 0,.string ⟨#[]⟩,.bool false,.int .i64 0,.string ⟨#[]⟩] false⟩,true,false,false,false,false,true,none⟩
theorem Ale:Eg Tryz.prog 90 te90:=⟨by kernel_rfl,by kernel_rfl,by kernel_rfl,by kernel_rfl,by kernel_rfl,by kernel_rfl,by kernel_rfl,fun ls h=>by cases h⟩
def te92:TE:=⟨⟨true,11,[.string ⟨#[]⟩,.bool false,.int .i64 0,.string ⟨#[]⟩,.string ⟨#[]⟩,.slice none 0 0,.string ⟨#[]⟩,.bool false,.int .i64 0,.string ⟨#[]⟩,.slice none 0 0],.st [(0,4,true),(4,1,false),(5,1,false),(6,4,true),(10,1,false)]⟩,false,false,false,false,false,true,none⟩
theorem Alf:Eg Tryz.prog 92 te92:=⟨by kernel_rfl,by kernel_rfl,by kernel_rfl,by kernel_rfl,by kernel_rfl,by kernel_rfl,by kernel_rfl,fun ls h=>by cases h⟩
def Aju:TE:=⟨⟨true,10,[.string ⟨#[]⟩,.bool false,.int .i64 0,.string ⟨#[]⟩,.string ⟨#[]⟩,.slice none 0 0,.string ⟨#[]⟩,.bool false,.int .i64 0,.string ⟨#[]⟩],.st [(0,4,true),(4,1,false),(5,1,false),(6,4,true)]⟩,false,false,false,false,false,true,none⟩
theorem Aif:Eg Tryz.prog 104 Aju:=⟨by kernel_rfl,by kernel_rfl,by kernel_rfl,by kernel_rfl,by kernel_rfl,by kernel_rfl,by kernel_rfl,fun ls h=>by cases h⟩
def Ajv:TE:=⟨⟨false,1,[.slice none 0 0],.sl 4 40 [.int .i64 0,.string ⟨#[]⟩,.int .i64 0,.int .i64 0] false⟩,true,false,false,false,false,true,none⟩
theorem Aig:Eg Tryz.prog 130 Ajv:=⟨by kernel_rfl,by kernel_rfl,by kernel_rfl,by kernel_rfl,by kernel_rfl,by kernel_rfl,by kernel_rfl,fun ls h=>by cases h⟩
def Ajw:TE:=⟨⟨false,1,[.pointer none],.ptr 135⟩,false,true,false,false,false,true,none⟩
theorem Aih:Eg Tryz.prog 133 Ajw:=⟨by kernel_rfl,by kernel_rfl,by kernel_rfl,by kernel_rfl,by kernel_rfl,by kernel_rfl,by kernel_rfl,fun ls h=>by cases h⟩
def Ajx:TE:=⟨⟨true,2,[.slice none 0 0,.int .i64 0],.st [(0,1,false),(1,1,false)]⟩,false,false,false,false,false,true,none⟩
theorem Aii:Eg Tryz.prog 135 Ajx:=⟨by kernel_rfl,by kernel_rfl,by kernel_rfl,by kernel_rfl,by kernel_rfl,by kernel_rfl,by kernel_rfl,fun ls h=>by cases h⟩
def Ajy:TE:=⟨⟨true,2,[.int .i64 0,.int .i64 0],.st [(0,1,false),(1,1,false)]⟩,false,false,false,false,false,true,(some [.i .i64,.i .i64])⟩
theorem Aij:Eg Tryz.prog 137 Ajy:=⟨by kernel_rfl,by kernel_rfl,by kernel_rfl,by kernel_rfl,by kernel_rfl,by kernel_rfl,by kernel_rfl,fun ls h=>by cases h;exact⟨by kernel_rfl,by kernel_rfl,by kernel_rfl⟩⟩
def Ajz:TE:=⟨⟨true,4,[.int .i64 0,.string ⟨#[]⟩,.int .i64 0,.int .i64 0],.st [(0,1,false),(1,1,false),(2,1,false),(3,1,false)]⟩,false,false,false,false,false,true,(some [.i .i64,.s,.i .i64,.i .i64])⟩
theorem Aik:Eg Tryz.prog 186 Ajz:=⟨by kernel_rfl,by kernel_rfl,by kernel_rfl,by kernel_rfl,by kernel_rfl,by kernel_rfl,by kernel_rfl,fun ls h=>by cases h;exact⟨by kernel_rfl,by kernel_rfl,by kernel_rfl⟩⟩
def Aj0:TE:=⟨⟨false,1,[.nilFunc],.other⟩,false,false,true,false,false,true,none⟩
theorem Ail:Eg Tryz.prog 218 Aj0:=⟨by kernel_rfl,by kernel_rfl,by kernel_rfl,by kernel_rfl,by kernel_rfl,by kernel_rfl,by kernel_rfl,fun ls h=>by cases h⟩
def tyT:Tr TE:=(.n (.n (.n (.n .e (.n (.n .e (.n .e (.n (.n (.n (.l Aju) .e) .e) .e))) (.n (.n .e (.n (.n (.n (.l te88) .e) .e) .e)) .e))) (.n (.n .e (.n (.n (.n (.n (.n (.l te20) .e) .e) .e) .e) .e)) (.n .e (.n (.n .e (.n (.n (.n (.l te92) .e) .e) .e)) .e)))) (.n (.n (.n (.n (.n (.n .e (.n (.n (.l Ajv) .e) .e)) .e) .e) .e) (.n .e (.n (.n .e (.n (.n (.n (.l te90) .e) .e) (.n (.n (.l Aj0) .e) .e))) (.n (.n .e (.n (.n (.l Ajz) .e) .e)) .e)))) (.n (.n .e (.n (.n .e (.n (.n (.n (.l te86) .e) .e) .e)) .e)) .e))) (.n (.n (.n .e (.n (.n (.n (.n (.n (.n (.l te9) .e) .e) (.n (.n (.l Ajy) .e) .e)) .e) .e) (.n (.n .e (.n (.n (.n (.l te89) .e) .e) .e)) .e))) (.n (.n (.n (.n (.n (.n (.n (.l te5) .e) .e) (.n (.n (.l Ajw) .e) .e)) .e) .e) .e) .e)) (.n (.n (.n (.n (.n (.n (.n (.n (.l te3) .e) .e) .e) .e) .e) .e) .e) (.n (.n (.n (.n (.n .e (.n (.n (.l Ajx) .e) .e)) .e) .e) (.n (.n (.n (.n (.n (.l te23) .e) .e) .e) .e) .e)) (.n (.n .e (.n (.n (.n (.n (.l te47) .e) .e) .e) .e)) .e)))))
theorem tyOk:tyT.All 10 (Eg Tryz.prog):=⟨⟨⟨⟨trivial,⟨⟨trivial,⟨trivial,⟨⟨⟨Aif,trivial⟩,trivial⟩,trivial⟩⟩⟩,⟨⟨trivial,⟨⟨⟨Alc,trivial⟩,trivial⟩,trivial⟩⟩,trivial⟩⟩⟩,⟨⟨trivial,⟨⟨⟨⟨⟨Ak8,trivial⟩,trivial⟩,trivial⟩,trivial⟩,trivial⟩⟩,⟨trivial,⟨⟨trivial,⟨⟨⟨Alf,trivial⟩,trivial⟩,trivial⟩⟩,trivial⟩⟩⟩⟩,⟨⟨⟨⟨⟨⟨trivial,⟨⟨Aig,trivial⟩,trivial⟩⟩,trivial⟩,trivial⟩,trivial⟩,⟨trivial,⟨⟨trivial,⟨⟨⟨Ale,trivial⟩,trivial⟩,⟨⟨Ail,trivial⟩,trivial⟩⟩⟩,⟨⟨trivial,⟨⟨Aik,trivial⟩,trivial⟩⟩,trivial⟩⟩⟩⟩,⟨⟨trivial,⟨⟨trivial,⟨⟨⟨Alb,trivial⟩,trivial⟩,trivial⟩⟩,trivial⟩⟩,trivial⟩⟩⟩,⟨⟨⟨trivial,⟨⟨⟨⟨⟨⟨Amv,trivial⟩,trivial⟩,⟨⟨Aij,trivial⟩,trivial⟩⟩,trivial⟩,trivial⟩,⟨⟨trivial,⟨⟨⟨Ald,trivial⟩,trivial⟩,trivial⟩⟩,trivial⟩⟩⟩,⟨⟨⟨⟨⟨⟨⟨Amu,trivial⟩,trivial⟩,⟨⟨Aih,trivial⟩,trivial⟩⟩,trivial⟩,trivial⟩,trivial⟩,trivial⟩⟩,⟨⟨⟨⟨⟨⟨⟨⟨Amt,trivial⟩,trivial⟩,trivial⟩,trivial⟩,trivial⟩,trivial⟩,trivial⟩,⟨⟨⟨⟨⟨trivial,⟨⟨Aii,trivial⟩,trivial⟩⟩,trivial⟩,trivial⟩,⟨⟨⟨⟨⟨Ak9,trivial⟩,trivial⟩,trivial⟩,trivial⟩,trivial⟩⟩,⟨⟨trivial,⟨⟨⟨⟨Ala,trivial⟩,trivial⟩,trivial⟩,trivial⟩⟩,trivial⟩⟩⟩⟩⟩
noncomputable def fe42:FE:=⟨Tryz.f42,[(3,[.rd 0 true,.rd 1 true,.ef 2 [0,1],.ef 3 [1],.ef 4 []]),(9,[.rd 0 true,.rd 1 false,.ef 2 [0],.rd 3 false,.ef 4 [],.ef 5 []])]⟩
noncomputable def fe83:FE:=⟨Tryz.f83,[]⟩
noncomputable def fe84:FE:=⟨Tryz.f84,[(3,[.rd 0 false,.rd 1 true,.rd 2 false,.rd 3 true,.ef 4 [1,3],.ef 5 [3],.ef 6 []])]⟩
noncomputable def fe85:FE:=⟨Tryz.f85,[]⟩
noncomputable def fe86:FE:=⟨Tryz.f86,[]⟩
noncomputable def fe87:FE:=⟨Tryz.f87,[(10,[.rd 0 false,.rd 1 true,.rd 2 false,.ef 3 [1],.rd 4 false,.ef 5 [],.rd 6 false,.ef 7 []])]⟩
noncomputable def Aiy:FE:=⟨Tryz.f142,[]⟩
noncomputable def Aiz:FE:=⟨Tryz.f143,[(7,[.rd 0 false,.rd 1 false,.rd 2 false,.rd 3 true,.rd 4 false,.ef 5 [3],.rd 6 false,.ef 7 []]),(10,[.rd 0 false,.rd 1 false,.rd 2 false,.rd 3 true,.rd 4 false,.ef 5 [3],.rd 6 false,.ef 7 []]),(24,[.rd 0 false,.rd 1 false,.rd 2 false,.rd 3 true,.rd 4 false,.ef 5 [3],.rd 6 false,.ef 7 []]),(26,[.rd 0 false,.rd 1 false,.rd 2 false,.rd 3 true,.rd 4 false,.ef 5 [3],.rd 6 false,.ef 7 []])]⟩
noncomputable def Ai0:FE:=⟨Tryz.f144,[]⟩
noncomputable def Ai1:FE:=⟨Tryz.f145,[]⟩
noncomputable def Ai2:FE:=⟨Tryz.f146,[]⟩
noncomputable def Ai3:FE:=⟨Tryz.f147,[]⟩
noncomputable def Ai4:FE:=⟨Tryz.f148,[]⟩
noncomputable def Ai5:FE:=⟨Tryz.f149,[]⟩
noncomputable def Ai6:FE:=⟨Tryz.f150,[]⟩
noncomputable def Ai7:FE:=⟨Tryz.f151,[]⟩
noncomputable def Ai8:FE:=⟨Tryz.f182,[]⟩
noncomputable def Ai9:FE:=⟨Tryz.f183,[]⟩
noncomputable def Aja:FE:=⟨Tryz.f184,[]⟩
noncomputable def Ajb:FE:=⟨Tryz.f185,[]⟩
noncomputable def Ajc:FE:=⟨Tryz.f186,[]⟩
noncomputable def Ajd:FE:=⟨Tryz.f187,[]⟩
noncomputable def Aje:FE:=⟨Tryz.f188,[]⟩
noncomputable def Ajf:FE:=⟨Tryz.f189,[]⟩
noncomputable def Ajg:FE:=⟨Tryz.f190,[]⟩
noncomputable def Ajh:FE:=⟨Tryz.f191,[]⟩
noncomputable def Aji:FE:=⟨Tryz.f227,[]⟩
theorem Akk:D4 Tryz.prog 42 fe42:=⟨Tryz.func42,by decide,by kernel_rfl⟩
theorem Akl:D4 Tryz.prog 83 fe83:=⟨Tryz.func83,by decide,by kernel_rfl⟩
theorem Akm:D4 Tryz.prog 84 fe84:=⟨Tryz.func84,by decide,by kernel_rfl⟩
theorem Akn:D4 Tryz.prog 85 fe85:=⟨Tryz.func85,by decide,by kernel_rfl⟩
theorem Ako:D4 Tryz.prog 86 fe86:=⟨Tryz.func86,by decide,by kernel_rfl⟩
theorem Akp:D4 Tryz.prog 87 fe87:=⟨Tryz.func87,by decide,by kernel_rfl⟩
theorem Ag3:D4 Tryz.prog 142 Aiy:=⟨Tryz.func142,by decide,by kernel_rfl⟩
theorem Ag4:D4 Tryz.prog 143 Aiz:=⟨Tryz.func143,by decide,by kernel_rfl⟩
theorem Ag5:D4 Tryz.prog 144 Ai0:=⟨Tryz.func144,by decide,by kernel_rfl⟩
theorem Ag6:D4 Tryz.prog 145 Ai1:=⟨Tryz.func145,by decide,by kernel_rfl⟩
theorem Ag7:D4 Tryz.prog 146 Ai2:=⟨Tryz.func146,by decide,by kernel_rfl⟩
theorem Ag8:D4 Tryz.prog 147 Ai3:=⟨Tryz.func147,by decide,by kernel_rfl⟩
theorem Ag9:D4 Tryz.prog 148 Ai4:=⟨Tryz.func148,by decide,by kernel_rfl⟩
theorem Aha:D4 Tryz.prog 149 Ai5:=⟨Tryz.func149,by decide,by kernel_rfl⟩
theorem Ahb:D4 Tryz.prog 150 Ai6:=⟨Tryz.func150,by decide,by kernel_rfl⟩
theorem Ahc:D4 Tryz.prog 151 Ai7:=⟨Tryz.func151,by decide,by kernel_rfl⟩
theorem Ahd:D4 Tryz.prog 182 Ai8:=⟨Tryz.func182,by decide,by kernel_rfl⟩
theorem Ahe:D4 Tryz.prog 183 Ai9:=⟨Tryz.func183,by decide,by kernel_rfl⟩
theorem Ahf:D4 Tryz.prog 184 Aja:=⟨Tryz.func184,by decide,by kernel_rfl⟩
theorem Ahg:D4 Tryz.prog 185 Ajb:=⟨Tryz.func185,by decide,by kernel_rfl⟩
theorem Ahh:D4 Tryz.prog 186 Ajc:=⟨Tryz.func186,by decide,by kernel_rfl⟩
theorem Ahi:D4 Tryz.prog 187 Ajd:=⟨Tryz.func187,by decide,by kernel_rfl⟩
theorem Ahj:D4 Tryz.prog 188 Aje:=⟨Tryz.func188,by decide,by kernel_rfl⟩
theorem Ahk:D4 Tryz.prog 189 Ajf:=⟨Tryz.func189,by decide,by kernel_rfl⟩
theorem Ahl:D4 Tryz.prog 190 Ajg:=⟨Tryz.func190,by decide,by kernel_rfl⟩
theorem Ahm:D4 Tryz.prog 191 Ajh:=⟨Tryz.func191,by decide,by kernel_rfl⟩
theorem Ahn:D4 Tryz.prog 227 Aji:=⟨Tryz.func227,by decide,by kernel_rfl⟩
noncomputable def ftT:Tr FE:=(.n (.n (.n (.n (.n .e (.n (.n (.n .e (.n (.n (.l Ai0) .e) .e)) .e) .e)) (.n .e (.n .e (.n (.n .e (.n (.n (.l Aja) .e) .e)) .e)))) (.n (.n .e (.n (.n (.n .e (.n (.n (.l Ai4) .e) .e)) (.n (.n (.n (.l fe84) .e) .e) .e)) .e)) (.n .e (.n .e (.n (.n .e (.n (.n (.l Aje) .e) .e)) .e))))) (.n (.n (.n .e (.n (.n (.n .e (.n (.n (.l Ai2) .e) .e)) .e) .e)) (.n (.n .e (.n (.n (.n (.n (.l fe42) .e) .e) .e) .e)) (.n .e (.n (.n .e (.n (.n (.l Ajc) .e) .e)) .e)))) (.n (.n .e (.n (.n (.n .e (.n (.n (.l Ai6) .e) .e)) (.n (.n (.n (.l fe86) .e) .e) .e)) (.n (.n .e (.n (.n (.l Ai8) .e) .e)) .e))) (.n (.n (.n (.n .e (.n (.n (.l Aiy) .e) .e)) .e) .e) (.n .e (.n (.n .e (.n (.n (.l Ajg) .e) .e)) .e)))))) (.n (.n (.n (.n .e (.n (.n (.n .e (.n (.n (.l Ai1) .e) .e)) .e) .e)) (.n .e (.n .e (.n (.n .e (.n (.n (.l Ajb) .e) .e)) .e)))) (.n (.n .e (.n (.n (.n .e (.n (.n (.l Ai5) .e) .e)) (.n (.n (.n (.l fe85) .e) .e) .e)) .e)) (.n .e (.n .e (.n (.n .e (.n (.n (.l Ajf) .e) .e)) .e))))) (.n (.n (.n (.n .e (.n .e (.n .e (.n (.n (.l Aji) .e) .e)))) (.n (.n (.n .e (.n (.n (.l Ai3) .e) .e)) (.n (.n (.n (.l fe83) .e) .e) .e)) .e)) (.n .e (.n .e (.n (.n .e (.n (.n (.l Ajd) .e) .e)) .e)))) (.n (.n .e (.n (.n (.n .e (.n (.n (.l Ai7) .e) .e)) (.n (.n (.n (.l fe87) .e) .e) .e)) (.n (.n .e (.n (.n (.l Ai9) .e) .e)) .e))) (.n (.n (.n (.n .e (.n (.n (.l Aiz) .e) .e)) .e) .e) (.n .e (.n (.n .e (.n (.n (.l Ajh) .e) .e)) .e)))))))
theorem ftOk:ftT.All 10 (D4 Tryz.prog):=⟨⟨⟨⟨⟨trivial,⟨⟨⟨trivial,⟨⟨Ag5,trivial⟩,trivial⟩⟩,trivial⟩,trivial⟩⟩,⟨trivial,⟨trivial,⟨⟨trivial,⟨⟨Ahf,trivial⟩,trivial⟩⟩,trivial⟩⟩⟩⟩,⟨⟨trivial,⟨⟨⟨trivial,⟨⟨Ag9,trivial⟩,trivial⟩⟩,⟨⟨⟨Akm,trivial⟩,trivial⟩,trivial⟩⟩,trivial⟩⟩,⟨trivial,⟨trivial,⟨⟨trivial,⟨⟨Ahj,trivial⟩,trivial⟩⟩,trivial⟩⟩⟩⟩⟩,⟨⟨⟨trivial,⟨⟨⟨trivial,⟨⟨Ag7,trivial⟩,trivial⟩⟩,trivial⟩,trivial⟩⟩,⟨⟨trivial,⟨⟨⟨⟨Akk,trivial⟩,trivial⟩,trivial⟩,trivial⟩⟩,⟨trivial,⟨⟨trivial,⟨⟨Ahh,trivial⟩,trivial⟩⟩,trivial⟩⟩⟩⟩,⟨⟨trivial,⟨⟨⟨trivial,⟨⟨Ahb,trivial⟩,trivial⟩⟩,⟨⟨⟨Ako,trivial⟩,trivial⟩,trivial⟩⟩,⟨⟨trivial,⟨⟨Ahd,trivial⟩,trivial⟩⟩,trivial⟩⟩⟩,⟨⟨⟨⟨trivial,⟨⟨Ag3,trivial⟩,trivial⟩⟩,trivial⟩,trivial⟩,⟨trivial,⟨⟨trivial,⟨⟨Ahl,trivial⟩,trivial⟩⟩,trivial⟩⟩⟩⟩⟩⟩,⟨⟨⟨⟨trivial,⟨⟨⟨trivial,⟨⟨Ag6,trivial⟩,trivial⟩⟩,trivial⟩,trivial⟩⟩,⟨trivial,⟨trivial,⟨⟨trivial,⟨⟨Ahg,trivial⟩,trivial⟩⟩,trivial⟩⟩⟩⟩,⟨⟨trivial,⟨⟨⟨trivial,⟨⟨Aha,trivial⟩,trivial⟩⟩,⟨⟨⟨Akn,trivial⟩,trivial⟩,trivial⟩⟩,trivial⟩⟩,⟨trivial,⟨trivial,⟨⟨trivial,⟨⟨Ahk,trivial⟩,trivial⟩⟩,trivial⟩⟩⟩⟩⟩,⟨⟨⟨⟨trivial,⟨trivial,⟨trivial,⟨⟨Ahn,trivial⟩,trivial⟩⟩⟩⟩,⟨⟨⟨trivial,⟨⟨Ag8,trivial⟩,trivial⟩⟩,⟨⟨⟨Akl,trivial⟩,trivial⟩,trivial⟩⟩,trivial⟩⟩,⟨trivial,⟨trivial,⟨⟨trivial,⟨⟨Ahi,trivial⟩,trivial⟩⟩,trivial⟩⟩⟩⟩,⟨⟨trivial,⟨⟨⟨trivial,⟨⟨Ahc,trivial⟩,trivial⟩⟩,⟨⟨⟨Akp,trivial⟩,trivial⟩,trivial⟩⟩,⟨⟨trivial,⟨⟨Ahe,trivial⟩,trivial⟩⟩,trivial⟩⟩⟩,⟨⟨⟨⟨trivial,⟨⟨Ag4,trivial⟩,trivial⟩⟩,trivial⟩,trivial⟩,⟨trivial,⟨⟨trivial,⟨⟨Ahm,trivial⟩,trivial⟩⟩,trivial⟩⟩⟩⟩⟩⟩⟩
theorem Akr(vs:Array Value):Uf Tryz.prog 84 vs:=fun w=>by
 refine callsDIn_of_wpSIn Tryz.func84 rfl trivial fun c₀ cs hu=>?_;have hsz:14≤(vs++Array.replicate (14-vs.size) undef).size:=by simp;omega
 rw[show Tryz.f84.ntmps=14 from rfl];revert hsz;generalize vs++Array.replicate (14-vs.size) undef=tm;intro hsz;apply wpSIn_seq;apply wpSIn_region;simp[wpOpsSIn,go_sem,recoverD,hu,Exit.thenS];apply wpSIn_seq;apply wpSIn_region;have h3:3<tm.size:=by omega
 have h5:5<tm.size:=by omega
 have h6:6<tm.size:=by omega
 have h7:7<tm.size:=by omega
 simp[wpOpsSIn,go_sem,Exit.thenS,h3,h5,h6,h7,Act.eval,Act.put];refine wpSIn_cond (t:=false) (by simp[Act.eval,h3,h5,h6,h7]) ?_;simp only[Bool.false_eq_true,if_false];refine wpSIn_of_wpIn rfl (wpIn_skip ?_);cases c₀
 simp_all [bodyPostS,results,show Tryz.f84.results= #[]from rfl]
theorem prOk:PrOk Tryz.prog tyT ftT (fun f=>Nat.beq f 84) where
 mx:=by kernel_rfl
 ty:=fun t e ht he=>Tr.all_get tyOk (by simpa using ht) he
 ft:=fun t e ht he=>Tr.all_get ftOk (by simpa using ht) he
 idle:=fun f hf=>by
  rw[Aq]at hf;subst hf;exact⟨⟨_,Tryz.func84,rfl,by decide⟩,Akr⟩
def txtL:RS:=.v (.string ⟨#[65,58,32,112,40,88,41,32,58,45,32,113,40,88,41,46]⟩)
def resT:AV:=.tup [.sl 11 [[.v (.string ⟨#[65]⟩),.v (.bool false),.v (.int .i64 0),.v (.string ⟨#[]⟩),.v (.string ⟨#[112]⟩),.sl 4 [[.v (.string ⟨#[88]⟩),.v (.bool false),.v (.int .i64 0),.v (.string ⟨#[]⟩)]],.v (.string ⟨#[]⟩),.v (.bool false),.v (.int .i64 0),.v (.string ⟨#[]⟩),
 .sl 10 [[.v (.string ⟨#[]⟩),.v (.bool false),.v (.int .i64 0),.v (.string ⟨#[]⟩),.v (.string ⟨#[113]⟩),.sl 4 [[.v (.string ⟨#[88]⟩),.v (.bool false),.v (.int .i64 0),.v (.string ⟨#[]⟩)]],.v (.string ⟨#[]⟩),.v (.bool false),.v (.int .i64 0),.v (.string ⟨#[]⟩)]]]],.v (.int .i64 0),.v (.int .i64 0)]
theorem runP:runV Tryz.prog tyT ftT (fun f=>Nat.beq f 84) 100000 40 12 42 [txtL]=some resT:=by kernel_rfl
theorem parse1_at{σ:St}:AT Tryz.prog 42 [.v (.string ⟨#[65,58,32,112,40,88,41,32,58,45,32,113,40,88,41,46]⟩)] σ fun r σ'=>r=resT∧σ'=σ:=by
 have h:=Aib (σ:=σ) prOk runP (by kernel_rfl) (fun _=>.v (.bool false)) (fun _=>⟨rfl,rfl⟩) (by simp only[RS.wfs,RS.wf,txtL];trivial);have e:RS.ivs ⟨fun i=>i,fun i=>i,fun _=>.v (.bool false)⟩ [txtL]=[.v (.string ⟨#[65,58,32,112,40,88,41,32,58,45,32,113,40,88,41,46]⟩)]:=by
  simp only[RS.ivs,RS.iv,RS.vv,txtL]
 rw[e]at h;exact h
end Go.Proofs.YtmifmncabejffaaGreat
