/-
  Contracts of the functions that the statement reaches, and the plain laws of what they reckon.
  Conditions: none.
-/
import Derived.Test.YtmifmncabejffaaGreatV1EvalFull
import Derived.Test.YtmifmncabejffaaGreatV2EvalFull
import Derived.Test.YtmifmncabejffaaGreatV3EvalFull
import Derived.Test.YtmifmncabejffaaGreatX1EvalFull
import Derived.Test.YtmifmncabejffaaGreatX2EvalFull
set_option linter.unusedVariables false
set_option linter.unusedSimpArgs false
set_option linter.unusedSectionVars false
set_option maxRecDepth 100000
namespace Go.Proofs.YtmifmncabejffaaGreat
open Go Go.Av
section
variable{σ σ1:St}{x:Nat}{a:EA}{s:ES}{n:Nat}
theorem EV.lg(h:EV false σ x a s false):LAt 4 σ a.gv (faC s.given):=h.cg
theorem EV.setG(h:EV false σ x a s false){v:AV}{l:List Fa}(h1:LAt 4 σ1 v (faC l))(hs:∀y o,σ y=some o→¬Own a.gv y→σ1 y=some o∧¬Own v y):
  σ1 x=some (.cells (evC false s a false))∧EV false (σ1.set x (.cells (evC false {s with given:=l} {a with gv:=v} false))) x {a with gv:=v} {s with given:=l} false∧Frm x a {a with gv:=v} σ (σ1.set x (.cells (evC false {s with given:=l} {a with gv:=v} false))):=by
 have kx:=hs _ _ h.cx h.noX.1;have kt:=hs _ _ h.ct h.noT.1;have kb:=hs _ _ h.cb h.noB.1;have nq:∀y,Jd a.qv y→¬Own a.gv y:=fun y ho hg=>h.gq y hg ho;refine⟨kx.1,⟨Ab,by rw[Ag h.xt.symm];exact kt.1,by rw[Ag h.xb.symm];exact kb.1,?_,?_,?_,h.xt,h.xb,h.tb,fun y ho hq=>?_⟩,fun y o hy hn=>?_⟩
 ·show LAt 4 _ v (faC l)
  exact h1.keep fun y o hy ho=>by rw[Ag (fun e=>by rw[e]at ho;exact kx.2 ho)];exact hy
 ·exact h.cq.keep fun y o hy ho=>by rw[Ag (fun e=>by rw[e]at ho;exact h.noX.2.1 ho)];exact(hs y o hy (nq y ho)).1
 ·exact h.co.keep fun y o hy ho=>by rw[Ag (fun e=>by rw[e]at ho;exact h.noX.2.2 ho)];exact(hs y o hy (h.goq ho).1).1
 ·obtain⟨rs,c,hc⟩:=h.cq.rows hq
  exact(hs _ _ hc (nq y hq)).2 ho
 ·have hq:¬Own a.gv y:=fun e=>hn (.inr (.inr (.inr (.inl e))))
  have hx:y≠x:=fun e=>hn (.inl e);have k:=hs y o hy hq;refine⟨by rw[Ag hx];exact k.1,fun hf=>?_⟩;rcases hf with e|e|e|e|e|e
  ·exact hx e
  ·exact hn (.inr (.inl e))
  ·exact hn (.inr (.inr (.inl e)))
  ·exact k.2 e
  ·exact hn (.inr (.inr (.inr (.inr (.inl e)))))
  ·exact hn (.inr (.inr (.inr (.inr (.inr e)))))
def Dp(s:ES)(f:Fa):Int×ES:=if okF f=true then(if f.at'=s.me then(if f∈s.given then(151,s)else(0,{s with given:=Aw Ai [] (s.given++[f]),queue:=s.queue++[f]}))else(250,s))else(40,s)
theorem Nj(h:EV false σ x a s false)(hs:SOk n s)(hn:n≤800000000000)(f:Fa):
  AT Tryz.prog 16 [ptr x,.agg f.cs] σ fun r σ'=>r=int (Dp s f).1∧∃a',EV false σ' x a' (Dp s f).2 false∧Frm x a a' σ σ':=by
 refine AT.ob Tryz.func16 rfl ?_;simp only[go_sem];refine Ctx.nil.alloc fun p σ2 c2=>?_;have hp:=c2.g0;have hsb:=c2.sub;have fp:=c2.f0;clear c2;have h2:=h.more hsb;simp only[go_sem];refine(Ju h2).p ?_;have stay:∀{k:Int},Dp s f=(k,s)→∀{fr:Fr},A9 Tryz.prog fr σ2 (Tryz.f16).results.toList=some (int k)→Dw Tryz.prog (fun r σ'=>r=int (Dp s f).1∧∃a',EV false σ' x a' (Dp s f).2 false∧Frm x a a' σ σ') (Tryz.f16).results.toList fr σ2:=fun e _ hr=>
  Ae hr ⟨by rw[e],a,by rw[e];exact h2,.of hsb⟩
 simp only[go_sem,hp];refine(Sx f).p ?_;have hx2:=h2.cx;cases hok:okF f with
 |false=>
  have e1:okE f=40:=by unfold okE;rw[hok];rfl
  have d2:(!decide (okE f=0))=true:=by rw[e1];rfl
  simp only[go_sem,d2];exact stay (by unfold Dp;rw[hok];rfl) (by rw[e1];rfl)
 |true=>
 have e1:okE f=0:=by unfold okE;rw[hok];rfl
 have d2:(!decide (okE f=0))=false:=by rw[e1];rfl
 have hfs:=Xs hok;simp only[go_sem,d2];refine Af [.rd 0 false,.rd 1 true,.rd 2 false,.rd 3 false,.rd 4 false,.rd 5 true,.rd 6 false] ?_;simp only[go_sem,hp,hx2];by_cases hat:f.at'=s.me
 case neg=>
  simp only[go_sem,decide_eq_false hat];exact stay (by unfold Dp;rw[hok,if_pos rfl,if_neg hat]) rfl
 simp only[go_sem,decide_eq_true hat];refine Af [.rd 0 false,.rd 1 false,.rd 2 false,.rd 3 true,.rd 4 true,.ef 5 []] ?_;simp only[go_sem,hp,hx2];have hgl:=hs.gl;refine(Tj s.given f (.of h2.lg) (by omega) hs.gs hfs).p ?_;by_cases hin:f∈s.given
 ·simp only[go_sem,decide_eq_true hin]
  exact stay (by unfold Dp;rw[hok,if_pos rfl,if_pos hat,if_pos hin]) rfl
 have hfr:Dp s f=(0,{s with given:=Aw Ai [] (s.given++[f]),queue:=s.queue++[f]}):=by unfold Dp;rw[hok,if_pos rfl,if_pos hat,if_neg hin]
 have hfl:f.ar.length≤1000000000000:=hfs;simp only[go_sem,decide_eq_false hin,hp];refine(Ic f.ar hfl).p ?_;have esp:Az f.cs 3 [.sl 3 (cnC f.ar)]=f.cs:=rfl;have eid:σ2.set p (.cells f.cs)=σ2:=B8 hp;simp only[go_sem,hp,esp,eid];refine Af [.rd 0 false,.rd 1 false,.rd 2 false,.rd 3 false,.rd 4 true,.rd 5 true,.rd 6 false,.ef 7 [],.ef 8 [],.rd 9 false,.rd 10 false,.ef 11 []] ?_;simp only[go_sem,hp,hx2];refine Ap (ys:=[f.cs]) rfl (by decide) (by decide) (by decide) (h2.lg.app (by rw[Aj];simp only[List.length_cons,List.length_nil];omega) fun v' σ3 k1 k2=>?_);rw[show faC s.given++[f.cs]=faC (s.given++[f]) by simp[faC]]at k1;simp only[go_sem];refine(Kq (s.given++[f]) (.of k1) (by rw[List.length_append];simp only[List.length_cons,List.length_nil];omega) (fun y hy=>?_)).mono ?_
 ·rcases List.mem_append.1 hy with hy|hy
  ·exact hs.gs y hy
  ·rw[List.mem_singleton.1 hy];exact hfs
 rintro v2 σ4 hM;obtain⟨kx,kE,kF⟩:=h2.setG hM.1.lat fun y o hy ho=>hM.grow _ _ (k2 y o hy ho).1;have hp4:=(hM.2.1 _ _ (k2 _ _ hp (h2.lg.not_own hp)).1);have hpx:p≠x:=fun e=>by rw[e,h.cx]at fp;cases fp
 have esp:Az (evC false s a false) 5 [v2]=evC false {s with given:=Aw Ai [] (s.given++[f])} {a with gv:=v2} false:=rfl;simp only[go_sem,kx,hM.1.lat.one,hM.1.lat.cells,esp,kE.all1];have F3:=(Frm.of hsb).trans kF;obtain⟨s1,hs1⟩:∃s1:ES,s1={s with given:=Aw Ai [] (s.given++[f])}:=⟨_,rfl⟩;rw[←hs1]at kE F3⊢;have q1:s1.queue=s.queue:=by rw[hs1]
 have hp5:(σ4.set x (.cells (evC false s1 {a with gv:=v2} false))) p=some (.cells f.cs):=by rw[Ag hpx];exact hp4
 clear kx kF;generalize σ4.set x (.cells (evC false s1 {a with gv:=v2} false))=σ5 at kE F3 hp5⊢;have hx5:=kE.cx;have hql:=hs.ql;refine Af [.rd 0 false,.rd 1 false,.rd 2 false,.rd 3 false,.rd 4 true,.rd 5 true,.rd 6 false,.ef 7 [],.rd 8 false,.rd 9 false,.ef 10 []] ?_;simp only[go_sem,hx5,hp5];refine Ap (ys:=[f.cs]) rfl (by decide) (by decide) (by decide) (kE.cq.app (by decide) (by simp) (by rw[Aj,q1];simp only[List.length_cons,List.length_nil];omega) fun v' σ4 k1 k2=>?_);rw[show faC s1.queue++[f.cs]=faC (s1.queue++[f]) by simp[faC]]at k1;obtain⟨kx,kE,kF⟩:=kE.setQ k1 k2;have esp:Az (evC false s1 {a with gv:=v2} false) 6 [v']=evC false {s1 with queue:=s1.queue++[f]} {a with gv:=v2,qv:=v'} false:=rfl;simp only[go_sem,kx,k1.one,k1.cells,esp,kE.all1];refine Ae (r:=int 0) rfl ⟨by rw[hfr],_,?_,F3.trans kF⟩;rw[hfr];rw[hs1]at kE⊢;exact kE
end
theorem Apo{B:List De}{base:List Fa}{s:List Fa×Bool}{d:De}(hd:d∈B)(h:LyF B base s.1):LyF B base (C5 s d).1:=by
 unfold C5
 repeat' split
 ·exact h
 ·exact h.step hd
 ·exact h
theorem Af0{B:List De}{base:List Fa}:∀(l:List De) (s:List Fa×Bool),(∀d∈l,d∈B)→LyF B base s.1→LyF B base (l.foldl C5 s).1
 | [],s,_,h=>h
 |d::l,s,hl,h=>Af0 l _ (fun e he=>hl e (List.mem_cons_of_mem _ he)) (Apo (hl d (by simp)) h)
theorem Ajv{B:List De}{base:List Fa}:∀(n:Nat) (out:List Fa),LyF B base out→LyF B base (Jx B n out)
 |0,out,h=>h
 |n+1,out,h=>by
  have h1:LyF B base (rnd B out).1:=Af0 B (out,false) (fun d hd=>hd) h;unfold Jx;split
  ·exact Ajv n _ h1
  ·exact h1
theorem No(B:List De)(base:List Fa):LyF B base (Cb B base):=Ajv _ _ ⟨Bh Ah .nil,fun x hx=>by
 rw[Ar Ah]at hx;simp at hx;exact .inl hx⟩
def Lq(s:ES):List Fa:=(Cb s.B (s.given.filter fun g=>decide (g∈s.T))).filter fun y=>decide (y∈s.T)
section
variable{σ:St}{x p:Nat}{a:EA}{s:ES}{n:Nat}
theorem Ajk(h:EV false σ x a s false)(hs:SOk n s)(hp:σ p=some (.cells [ptr x]))(f:Fa)(hf:f.Sm):AT Tryz.prog 131 [.agg f.cs,ptr p] σ fun r σ'=>r=boo (!decide (f∈s.T))∧σ'=σ:=by
 refine AT.ob Tryz.func131 rfl ?_;simp only[go_sem];refine Ctx.nil.alloc fun q σ1 c1=>?_;have h1:=h.more c1.sub;have hx1:=h1.cx;have hq:=c1.g0;have hp1:=c1.sub _ _ hp;have ht1:TB σ1 a.t s.T s.lim:=h1.ct;refine Af [.rd 0 true,.rd 1 false,.rd 2 false,.rd 3 true,.rd 4 true,.ef 5 [],.rd 6 false,.rd 7 false] ?_;simp only[go_sem,hp1,hq,hx1];refine(Sb ht1 hs.tok f hf).p ?_;simp only[go_sem];exact Ad (r:=boo (!decide (f∈s.T))) rfl _ σ (An c1.sub) ⟨rfl,rfl⟩
theorem Zx(h:EV false σ x a s false)(hs:SOk n s)(hn:n≤800000000000)(w:AV):AT Tryz.prog 76 [ptr x,w] σ fun r σ'=>r= .sl 4 (faC (Lq s))∧σ'=σ:=by
 have hm:AT Tryz.prog 76 [ptr x,w] σ fun r σ'=>LAt 4 σ' r (faC (Lq s))∧Cg σ σ' r:=by
  refine AT.ob Tryz.func76 rfl ?_;simp only[go_sem];refine Ctx.nil.alloc fun p σ1 c1=>?_;have hp:=c1.g0;have h1:=h.more c1.sub;have hx1:=h1.cx;have hgl:=hs.gl;have hbk:=hs.bok (by omega);have hR:Rd 4 σ1 a.gv (faC s.given):=.of h1.lg;have s1:=c1.sub;simp only[go_sem,hp,hx1,hR.len,Aj];refine⟨fun m fr σ'=>∃(i:Nat) (lv:AV),m=s.given.length-i∧i≤s.given.length∧LAt 4 σ' lv (faC ((s.given.take i).filter fun g=>decide (g∈s.T)))∧Cg σ1 σ' lv∧fr 2=ptr p∧fr 5=lv∧fr 12=a.gv∧fr 13=int s.given.length∧fr 14=int i,⟨_,0,A4,rfl,by omega,.none,.nil,rfl,rfl,rfl,rfl,rfl⟩,?_⟩;rintro m fr σ2 ⟨i,lv,rfl,hi,hL,hG,f2,f5,f12,f13,f14⟩;have hR2:=hR.keep hG.sub;have h2:=h1.more hG.sub;have hp2:=hG.sub _ _ hp;have hx2:=h2.cx;simp only[go_sem,f13,f14];refine aIf_by (fun hlt=>?_) (fun hlt=>?_)
  ·have hil:i<s.given.length:=by omega
   have hsm:=hs.gs _ (List.getElem_mem hil);simp only[go_sem,Aa,f12,f14];refine hR2.elem (by omega) (by rw[Aj];omega) fun e0 he0=>?_;simp only[go_sem,Aa];refine he0.load (by decide) (by rw[Int.toNat_natCast,Aq hil];exact Nat.le_refl 4) ?_;simp only[go_sem,Aa,Aq hil];refine Ctx.nil.alloc fun q σ3 c3=>?_;obtain⟨σ4,e4,c4⟩:=c3.abs 0 rfl (.cells s.given[i].cs);have hq:σ4 q=some (.cells s.given[i].cs):=c4.g0;have h4:=h2.more c4.sub;have hx4:=h4.cx;have hp4:=c4.sub _ _ hp2;have L4:LAt 4 σ4 lv _:=hL.keep fun y o hy _=>c4.sub y o hy;have G4:Cg σ1 σ4 lv:=fun y o hy=>⟨c4.sub _ _ (hG y o hy).1,(hG y o hy).2⟩;have ht4:TB σ4 a.t s.T s.lim:=h4.ct;simp only[go_sem,Aa,c3.g0,e4];clear e4 c4 c3 he0;refine Af [.rd 0 true,.rd 1 false,.rd 2 false,.rd 3 true,.rd 4 true,.ef 5 []] ?_;simp only[go_sem,Aa,f2,hp4,hx4,hq];refine(Sb ht4 hs.tok s.given[i] hsm).p ?_;have et:=Iw (p:=fun g=>decide (g∈s.T)) hil;have nx:=As i (by omega);by_cases hm:s.given[i]∈s.T
   ·rw[if_pos (decide_eq_true hm)]at et
    simp only[go_sem,Aa,decide_eq_true hm,f5,hq];have tl:((s.given.take i).filter fun g=>decide (g∈s.T)).length≤s.given.length:=Nm;refine Ap (ys:=[s.given[i].cs]) rfl (by decide) (by decide) (by decide) (L4.app (by rw[Aj];simp only[List.length_cons,List.length_nil];omega) fun lv' σ5 hL5 hs5=>?_);have e5:faC ((s.given.take i).filter fun g=>decide (g∈s.T))++[s.given[i].cs]=faC ((s.given.take (i+1)).filter fun g=>decide (g∈s.T)):=by rw[et];simp[faC]
    rw[e5]at hL5;have G5:=G4.step hs5;simp only[go_sem,Aa,f14,nx];exact⟨s.given.length-(i+1),by omega,i+1,lv',rfl,by omega,hL5,G5,f2,rfl,f12,f13,rfl⟩
   ·rw[if_neg (by simpa using hm),List.append_nil]at et
    simp only[go_sem,Aa,decide_eq_false hm,f14,nx];exact⟨s.given.length-(i+1),by omega,i+1,lv,rfl,by omega,by rw[et];exact L4,G4,f2,f5,f12,f13,rfl⟩
  ·rw[List.take_of_length_le (by omega)]at hL
   obtain⟨bs,hbs⟩:∃bs,bs=s.given.filter fun g=>decide (g∈s.T):=⟨_,rfl⟩;have hbl:bs.length≤s.given.length:=by rw[hbs];exact List.length_filter_le _ _
   have hbm:∀y∈bs,y.Sm:=fun y hy=>hs.gs y (by rw[hbs]at hy;exact(List.mem_filter.1 hy).1);have eN:Lq s=(Cb s.B bs).filter fun y=>decide (y∈s.T):=by rw[hbs];rfl
   rw[←hbs]at hL;have ly:=No s.B bs;have hb2:BK σ2 a.b s.B:=h2.cb;simp only[go_sem,Aa,f2,hp2,hx2,f5];refine(Ace hb2 hbk bs (.of hL) (by omega) hbm).mono ?_;rintro v σ3 ⟨k1,k2,k3⟩;have hbl':=hs.bl;have hlen:(Cb s.B bs).length≤1000000000000:=by have:=ly.len;omega
   simp only[go_sem,Aa];simp only[Fq,C9];simp only[go_sem,Aa,f2];refine(Aec (β:=σ1) (Cb s.B bs) (fun y=>!decide (y∈s.T)) k1 hlen (fun y o hy=>k2 _ _ (hG.sub _ _ hy)) (fun y hy=>Df hG.sub (k3 y hy)) fun σ' hs' y hy=>Ajk (h1.more hs') hs (hs' _ _ hp) y ?_).mono ?_
   ·rcases ly.own y hy with hy|⟨d,hd,e⟩
    ·exact hbm y hy
    ·rw[←e];exact(hs.bs d hd).1
   rintro r σ4 ⟨q1,q2⟩;simp only[go_sem,Aa];simp only[Bool.not_not]at q1;exact Ae (r:=r) rfl ⟨by rw[eN];exact q1,fun y o hy=>q2 y o (s1 y o hy)⟩
 exact hm.post (by kernel_rfl) fun r σ' ⟨h1,h2⟩=>⟨_,_,Gz h1 h2,rfl,rfl⟩
end
structure SK(s s':ES):Prop where
 me:s'.me=s.me
 names:s'.names=s.names
 rules:s'.rules=s.rules
 T:s'.T=s.T
 lim:s'.lim=s.lim
 given:s'.given=s.given
 full:s'.full=s.full
theorem SK.refl(s:ES):SK s s:=⟨rfl,rfl,rfl,rfl,rfl,rfl,rfl⟩
theorem SK.trans{s s' s'':ES}(h:SK s s')(k:SK s' s''):SK s s'':=⟨k.me.trans h.me,k.names.trans h.names,k.rules.trans h.rules,k.T.trans h.T,k.lim.trans h.lim,k.given.trans h.given,k.full.trans h.full⟩
theorem Vj(s:ES)(i:Nat)(b:List Fa):Dt s i b=s∨∃f q o,hdE s.me (s.rules.getD i ⟨.zero,emp,[],.zero,[]⟩) b=some f∧(⟨i,f,b⟩:De)∉s.B∧okF f=true∧Dt s i b={s with B:=A1 Bg ⟨i,f,b⟩ s.B,queue:=s.queue++q,outs:=s.outs++o}∧(q=[]∨q=[f])∧(o=[]∨o=[(f,false)]):=by
 unfold Dt;cases hh:hdE s.me (s.rules.getD i ⟨.zero,emp,[],.zero,[]⟩) b with
 |none=>exact .inl rfl
 |some f=>
  simp only;by_cases h1:f.at'∈s.names∧okF f=true
  ·rw[if_pos h1]
   by_cases h2:(⟨i,f,b⟩:De)∈s.B
   ·rw[if_pos h2];exact .inl rfl
   ·rw[if_neg h2]
    refine .inr ?_;by_cases h3:f.at'=s.me
    ·rw[if_pos h3]
     by_cases h4:f∈s.T
     ·rw[if_pos h4];exact⟨f,[],[],rfl,h2,h1.2,by simp,.inl rfl,.inl rfl⟩
     ·rw[if_neg h4];exact⟨f,[f],[],rfl,h2,h1.2,by simp,.inr rfl,.inl rfl⟩
    ·rw[if_neg h3]
     by_cases h4:0<(ofF s.B f).length
     ·rw[if_pos h4];exact⟨f,[],[],rfl,h2,h1.2,by simp,.inl rfl,.inl rfl⟩
     ·rw[if_neg h4];exact⟨f,[],[(f,false)],rfl,h2,h1.2,by simp,.inl rfl,.inr rfl⟩
  ·rw[if_neg h1];exact .inl rfl
theorem Z3(s:ES)(i:Nat)(b:List Fa):SK s (Dt s i b):=by
 rcases Vj s i b with h|⟨f,q,o,_,_,_,h,_,_⟩
 ·rw[h];exact .refl s
 ·rw[h];exact⟨rfl,rfl,rfl,rfl,rfl,rfl,rfl⟩
theorem SOk.le{n m:Nat}{s:ES}(h:SOk n s)(hm:n≤m):SOk m s:={h with bo:=Nat.le_trans h.bo hm,ql:=Nat.le_trans h.ql hm}
theorem Tn{n:Nat}{s:ES}(h:SOk n s)(i:Nat){b:List Fa}(hb:b.length≤1000000000000)(hbs:∀y∈b,y.Sm):SOk (n+2) (Dt s i b):=by
 rcases Vj s i b with e|⟨f,q,o,_,hn,hok,e,hq,ho⟩
 ·rw[e];exact h.le (by omega)
 ·have hf:=Xs hok
  rw[e];have hql:q.length≤1∧∀y∈q,y.Sm:=by rcases hq with rfl|rfl<;>simp[hf]
  have hol:o.length≤1∧∀y∈o,y.1.Sm:=by rcases ho with rfl|rfl<;>simp[hf]
  have h1:=h.ql;have h2:=h.bo;refine{h with br:=Fu A8 h.br,bo:=?_,bs:=fun d hd=>?_,ql:=?_,qs:=fun y hy=>?_,os:=fun y hy=>?_}
  ·have:=I9 (c:=Bg) (b:=(⟨i,f,b⟩:De)) (l:=s.B)
   show(A1 Bg ⟨i,f,b⟩ s.B).length+(s.outs++o).length≤n+2;rw[List.length_append];omega
  ·rcases(Cs A8).1 hd with rfl|hd
   ·exact⟨hf,hb,hbs⟩
   ·exact h.bs d hd
  ·show(s.queue++q).length≤n+2
   rw[List.length_append];omega
  ·rcases List.mem_append.1 hy with hy|hy
   ·exact h.qs y hy
   ·exact hql.2 y hy
  ·rcases List.mem_append.1 hy with hy|hy
   ·exact h.os y hy
   ·exact hol.2 y hy
def bdS(i:Nat)(l:List (List Fa))(s:ES):ES:=l.foldl (fun s b=>Dt s i b) s
def ltS(me:ByteArray)(f:Fa)(T:List Fa)(i:Nat)(r:Rl)(k:Nat)(s:ES):ES:=(List.range k).foldl (fun s (j:Nat)=>bdS i (Ea r me (j:Int) f T) s) s
def rlZ:Rl:=⟨.zero,emp,[],.zero,[]⟩
def rlS(me:ByteArray)(f:Fa)(T:List Fa)(rules:List Rl)(k:Nat)(s:ES):ES:=(List.range k).foldl (fun s i=>ltS me f T i (rules.getD i rlZ) (rules.getD i rlZ).bo.length s) s
theorem N6{i:Nat}{l:List (List Fa)}{k:Nat}(s:ES)(h:k<l.length):bdS i (l.take (k+1)) s=Dt (bdS i (l.take k) s) i l[k]:=by
 unfold bdS;rw[List.take_add_one,List.getElem?_eq_getElem h];simp only[Option.toList,List.foldl_append,List.foldl_cons,List.foldl_nil]
theorem Il{me:ByteArray}{f:Fa}{T:List Fa}{i:Nat}{r:Rl}{k:Nat}{s:ES}:ltS me f T i r (k+1) s=bdS i (Ea r me k f T) (ltS me f T i r k s):=by
 unfold ltS;rw[List.range_succ,List.foldl_append];rfl
theorem Iv{me:ByteArray}{f:Fa}{T:List Fa}{rules:List Rl}{k:Nat}{s:ES}:rlS me f T rules (k+1) s=ltS me f T k (rules.getD k rlZ) (rules.getD k rlZ).bo.length (rlS me f T rules k s):=by
 unfold rlS;rw[List.range_succ,List.foldl_append];rfl
theorem Gb(i:Nat):∀(l:List (List Fa)) (s:ES),SK s (bdS i l s)
 | [],s=>.refl s
 |b::l,s=>(Z3 s i b).trans (Gb i l (Dt s i b))
theorem Pe(me:ByteArray)(f:Fa)(T:List Fa)(i:Nat)(r:Rl)(s:ES):∀k,SK s (ltS me f T i r k s)
 |0=>.refl s
 |k+1=>by rw[Il];exact(Pe me f T i r s k).trans (Gb i _ _)
theorem Iu(me:ByteArray)(f:Fa)(T:List Fa)(rules:List Rl)(s:ES):∀k,SK s (rlS me f T rules k s)
 |0=>.refl s
 |k+1=>by rw[Iv];exact(Iu me f T rules s k).trans (Pe me f T k _ _ _)
theorem Wx{r:Rl}{me:ByteArray}{j:Int}{f:Fa}{T:List Fa}(hf:f.Sm)(hT:∀y∈T,y.Sm){b:List Fa}(hb:b∈Ea r me j f T):b.length=r.bo.length∧∀y∈b,y.Sm:=by
 unfold Ea at hb;rw[Ar Dm]at hb;have hb:b∈Je r me j f T:=by simpa using hb
 unfold Je at hb;split at hb
 ·have:=Xb r.ho r.bo (Ca j f T) (fun k x hx=>by
   unfold Ca at hx;split at hx
   ·rw[List.mem_singleton.1 hx];exact hf
   ·exact hT x hx) (Ht r j) _ (List.replicate r.bo.length .zero) (fun x hx=>by rw[List.eq_of_mem_replicate hx];show([]:List Cn).length≤_;simp) b hb
  rw[List.length_replicate]at this;exact this
 ·cases hb
theorem Qd{n:Nat}(i:Nat){m:Nat}(hm:m≤1000000000000):∀(l:List (List Fa)) (s:ES),SOk n s→(∀b∈l,b.length=m∧∀y∈b,y.Sm)→SOk (n+2*l.length) (bdS i l s)
 | [],s,h,_=>h
 |b::l,s,h,hl=>by
  have hb:=hl b (by simp);have:=Qd i hm l (Dt s i b) (Tn h i (by omega) hb.2) fun c hc=>hl c (by simp[hc]);exact this.le (by simp only[List.length_cons];omega)
def Cr(l:List Rl):Nat→Nat
 |0=>0
 |k+1=>Cr l k+(l.getD k rlZ).bo.length
theorem Xp(l:List Rl){i:Nat}:∀{k:Nat},i≤k→Cr l i≤Cr l k
 |0,h=>by rw[Nat.le_zero.1 h];exact Nat.le_refl _
 |k+1,h=>by
  by_cases e:i=k+1
  ·rw[e];exact Nat.le_refl _
  ·have:=Xp l (show i≤k by omega)
   show Cr l i≤Cr l k+_;omega
theorem Aky{n:Nat}{me:ByteArray}{f:Fa}{T:List Fa}(i:Nat){r:Rl}{s:ES}(h:SOk n s)(hr:r.S4)(hf:f.Sm)(hT:∀y∈T,y.Sm):∀(k:Nat),k≤r.bo.length→(∀j:Nat,j<k→(Je r me j f T).length≤30001)→SOk (n+k*60002) (ltS me f T i r k s)
 |0,_,_=>h.le (Nat.le_add_right _ _)
 |k+1,hk,hw=>by
  have h1:=Aky i h hr hf hT k (by omega) fun j hj=>hw j (by omega);have h2:=hw k (by omega);have h3:(Ea r me k f T).length≤30001:=Nat.le_trans Bn (by simp only[List.length_nil];omega);have hbo:=hr.1.1;rw[Il];exact(Qd i (m:=r.bo.length) (by omega) _ _ h1 fun b hb=>Wx hf hT hb).le (by omega)
theorem Alt{n:Nat}{me:ByteArray}{f:Fa}{T:List Fa}{rules:List Rl}{s:ES}(h:SOk n s)(hr:∀r∈rules,r.S4)(hf:f.Sm)(hT:∀y∈T,y.Sm):∀(k:Nat),k≤rules.length→(∀i (hi:i<rules.length) (j:Nat),j<rules[i].bo.length→(Je rules[i] me j f T).length≤30001)→SOk (n+Cr rules k*60002) (rlS me f T rules k s)
 |0,_,_=>by show SOk (n+0*60002) s;exact h.le (Nat.le_add_right _ _)
 |k+1,hk,hw=>by
  have h1:=Alt h hr hf hT k (by omega) hw;have e:rules.getD k rlZ=rules[k]:=Dk (by omega) _;have h2:=Aky (me:=me) (T:=T) k h1 (hr _ (List.getElem_mem (show k<rules.length by omega))) hf hT rules[k].bo.length (Nat.le_refl _) fun j hj=>hw k (by omega) j hj;rw[Iv];show SOk (n+(Cr rules k+(rules.getD k rlZ).bo.length)*60002) _;rw[e];exact h2.le (by omega)
theorem V6{X:Fa→Prop}:∀{B:List De} {s:List Fa×Bool},(∀x∈s.1,X x)→(∀d∈B,(∀y∈d.bo,X y)→X d.hd)→∀x∈(B.foldl C5 s).1,X x
 | [],s,h,_=>h
 |d::B,s,h,hB=>V6 (B:=B) (s:=C5 s d) (by
   unfold C5;split
   ·exact h
   ·split
    ·rename_i hb
     intro x hx;rcases(Cs Ah).1 hx with rfl|hx
     ·exact hB d (by simp) fun y hy=>h y (hb y hy)
     ·exact h x hx
    ·exact h) fun e he=>hB e (List.mem_cons_of_mem _ he)
theorem Vk{X:Fa→Prop}{B:List De}(hB:∀d∈B,(∀y∈d.bo,X y)→X d.hd):∀(n:Nat) (out:List Fa),(∀x∈out,X x)→∀x∈Jx B n out,X x
 |0,out,h=>h
 |n+1,out,h=>by
  have h1:∀x∈(rnd B out).1,X x:=V6 (B:=B) (s:=(out,false)) h hB;unfold Jx;split
  ·exact Vk hB n _ h1
  ·exact h1
theorem Uz{X:Fa→Prop}{B:List De}{base:List Fa}(hb:∀x∈base,X x)(hB:∀d∈B,(∀y∈d.bo,X y)→X d.hd):∀x∈Cb B base,X x:=
 Vk hB _ _ fun x hx=>by
  rw[Ar Ah]at hx;exact hb x (by simpa using hx)
theorem Z5{x:Fa}{B:List De}:∀(n:Nat) {out:List Fa},x∈out→x∈Jx B n out
 |0,_,h=>h
 |n+1,out,h=>by
  have h1:x∈(rnd B out).1:=Ps (B:=B) (s:=(out,false)) h;unfold Jx;split
  ·exact Z5 n h1
  ·exact h1
theorem Xg{x:Fa}{B:List De}{base:List Fa}(h:x∈base):x∈Cb B base:=Z5 _ ((Ar Ah).2 (.inl h))
theorem Q3:∀{B:List De} {s:List Fa×Bool},s.2=false→(B.foldl C5 s).2=false→(B.foldl C5 s).1=s.1∧∀d∈B,(∀y∈d.bo,y∈s.1)→d.hd∈s.1
 | [],s,_,_=>⟨rfl,fun d hd=>by cases hd⟩
 |d::B,s,h,h2=>by
  rw[List.foldl_cons]at h2⊢;have flag:∀{B:List De} {s:List Fa×Bool},s.2=true→(B.foldl C5 s).2=true:=fun{B}=>by
   induction B with
   |nil=>exact fun h=>h
   |cons e B ih=>
    intro s h;rw[List.foldl_cons];refine ih ?_;unfold C5;split
    ·exact h
    ·split
     ·rfl
     ·exact h
  by_cases h1:d.hd∈s.1
  ·have e:C5 s d=s:=by unfold C5;rw[if_pos h1]
   rw[e]at h2⊢;obtain⟨k1,k2⟩:=Q3 (B:=B) h h2;refine⟨k1,fun x hx hy=>?_⟩;rcases List.mem_cons.1 hx with rfl|hx
   ·exact h1
   ·exact k2 x hx hy
  ·by_cases h3:∀x∈d.bo,x∈s.1
   ·have e:C5 s d=(A1 Ai d.hd s.1,true):=by unfold C5;rw[if_neg h1,if_pos h3]
    rw[e,flag rfl]at h2;cases h2
   ·have e:C5 s d=s:=by unfold C5;rw[if_neg h1,if_neg h3]
    rw[e]at h2⊢;obtain⟨k1,k2⟩:=Q3 (B:=B) h h2;refine⟨k1,fun x hx hy=>?_⟩;rcases List.mem_cons.1 hx with rfl|hx
    ·exact absurd hy h3
    ·exact k2 x hx hy
theorem fou_closed{B:List De}:∀(n:Nat) (out:List Fa),O4 B out<n→∀d∈B,(∀y∈d.bo,y∈Jx B n out)→d.hd∈Jx B n out
 |0,out,h,_,_,_=>by omega
 |n+1,out,h,d,hd,hy=>by
  unfold Jx at hy⊢;split
  ·rename_i hc
   rw[if_pos hc]at hy;have:=Xl hc;exact fou_closed n _ (by omega) d hd hy
  ·rename_i hc
   rw[if_neg hc]at hy;obtain⟨k1,k2⟩:=Q3 (B:=B) (s:=(out,false)) rfl (by simpa[rnd]using hc);have k1:(rnd B out).1=out:=k1;rw[k1]at hy⊢;exact k2 d hd hy
theorem To{B:List De}{base:List Fa}{d:De}(hd:d∈B)(hy:∀y∈d.bo,y∈Cb B base):d.hd∈Cb B base:=
 fou_closed (B.length+1) _ (Nat.lt_succ_of_le (List.length_filter_le _ _)) d hd hy
def Der(me:ByteArray)(names:List ByteArray)(rs:List Rl)(d:De):Prop:=∃i:Nat,∃h:i<rs.length,d.ru=i∧hdE me rs[i] d.bo=some d.hd∧d.hd.at'∈names∧okF d.hd=true
inductive LM(me:ByteArray)(names:List ByteArray)(rs:List Rl)(G:List Fa):Fa→Prop
 |base {f:Fa} (h:f∈G):LM me names rs G f
 |step {d:De} (h:Der me names rs d) (hb:∀y∈d.bo,LM me names rs G y):LM me names rs G d.hd
theorem LM.mono{me:ByteArray}{names:List ByteArray}{rs:List Rl}{G G':List Fa}(hG:∀f∈G,f∈G'){f:Fa}(h:LM me names rs G f):LM me names rs G' f:=by
 induction h with
 |base h=>exact .base (hG _ h)
 |step h _ ih=>exact .step h ih
theorem Ov{me:ByteArray}{r:Rl}{b:List Fa}{f:Fa}(h:hdE me r b=some f):∃e0 e1,Bd r.ho (nmC me) []=some e0∧Cy r.ho r.bo b e0=some e1∧C8 r e1=some f:=by
 unfold hdE at h;obtain⟨e0,h0,h⟩:=Option.bind_eq_some_iff.1 h;obtain⟨e1,h1,h⟩:=Option.bind_eq_some_iff.1 h;exact⟨e0,e1,h0,h1,h⟩
theorem Ae3{me:ByteArray}{r:Rl}{b:List Fa}{f:Fa}(h:hdE me r b=some f):b.length=r.bo.length:=by
 obtain⟨e0,e1,_,h1,_⟩:=Ov h;exact Rx h1
theorem Aal{r:Rl}{me:ByteArray}{j:Int}{f:Fa}{T b:List Fa}{g:Fa}(h:hdE me r b=some g)(hc:∀i (hi:i<b.length),b[i]∈Ca j f T i):b∈Ea r me j f T:=by
 obtain⟨e0,e1,h0,h1,_⟩:=Ov h;exact Xq.2 ⟨e0,h0,by rw[h1];rfl,hc⟩
theorem Abk:∀{l:List (Tm×Cn)} {e e':List Bi},Fy l e=some e'→∀p∈l,C6 p.1 e'=some p.2
 | [],_,_,_,p,hp=>by cases hp
 |q::l,e,e',h,p,hp=>by
  unfold Fy at h;obtain⟨e1,h1,h2⟩:=Option.bind_eq_some_iff.1 h;rcases List.mem_cons.1 hp with rfl|hp
  ·obtain⟨k,rfl⟩:=Q9 h2
   exact P4 (Sc h1)
  ·exact Abk h2 p hp
theorem Y4{ho:Tm}:∀{ls:List Li} {xs:List Fa} {e e':List Bi},Cy ho ls xs e=some e'→∃k,e'=e++k
 | [],[],e,e',h=>by
  unfold Cy at h;exact⟨[],by simpa using h.symm⟩
 | [],_::_,e,e',h=>by simp[Cy]at h
 |_::_,[],e,e',h=>by simp[Cy]at h
 |l::ls,x::xs,e,e',h=>by
  unfold Cy at h;obtain⟨e1,h1,h⟩:=Option.bind_eq_some_iff.1 h;obtain⟨k1,rfl⟩:=Tv h1;obtain⟨k2,rfl⟩:=Y4 h;exact⟨k1++k2,by rw[List.append_assoc]⟩
theorem Aip{ho:Tm}{me:ByteArray}:∀{ls:List Li} {xs:List Fa} {e e':List Bi},(∀l∈ls,l.at'= .zero)→C6 ho e=some (nmC me)→Cy ho ls xs e=some e'→∀y∈xs,y.at'=me
 | [],[],e,e',_,_,h,y,hy=>by cases hy
 | [],_::_,e,e',_,_,h,y,hy=>by simp[Cy]at h
 |_::_,[],e,e',_,_,h,y,hy=>by cases hy
 |l::ls,x::xs,e,e',hz,hv,h,y,hy=>by
  unfold Cy at h;obtain⟨e1,h1,h⟩:=Option.bind_eq_some_iff.1 h;have hm:=Tv h1;obtain⟨k,rfl⟩:=hm;have hv1:C6 ho (e++k)=some (nmC me):=P4 hv;rcases List.mem_cons.1 hy with rfl|hy
  ·unfold Be at h1
   split at h1
   ·have:=Abk h1 (orT l.at' ho,nmC y.at') (by unfold eqs;simp)
    simp only at this;rw[hz l (by simp),show orT .zero ho=ho by unfold orT;rw[if_pos rfl],hv1]at this;injection this with this;exact(congrArg Cn.s this).symm
   ·cases h1
  ·exact Aip (fun l hl=>hz l (by simp[hl])) hv1 h y hy
theorem Ar1{me:ByteArray}{r:Rl}{b:List Fa}{f:Fa}(hz:∀l∈r.bo,l.at'= .zero)(h:hdE me r b=some f):∀y∈b,y.at'=me:=by
 obtain⟨e0,e1,h0,h1,_⟩:=Ov h;exact Aip hz (Sc h0) h1
def A5(s:ES):Bool×ES:=if s.full=true then(false,s)else match s.queue with
 | []=>(false,s)
 |f::q=>if f∈s.T∨(f∉s.given∧(ofF s.B f).length=0)then(true,{s with queue:=q})
  else if(Bs s.T s.lim f).2=0 then(true,rlS s.me f (Bs s.T s.lim f).1 s.rules s.rules.length {s with queue:=q,T:=(Bs s.T s.lim f).1})
  else(true,{s with queue:=q,T:=(Bs s.T s.lim f).1,full:=true})
theorem Xy{T:List Fa}{lim:Int}{f:Fa}(h:TOk T lim)(hl:(T.length:Int)≤lim)(hm:lim≤4096)(hf:f.Sm):TOk (Bs T lim f).1 lim∧((Bs T lim f).1.length:Int)≤lim:=by
 unfold Bs;have hi:=I9 (c:=Ai) (b:=f) (l:=T)
 repeat' split
 all_goals first|exact⟨h,hl⟩|skip
 refine⟨⟨Fu Ah h.rises,?_,fun y hy=>?_,h.lim⟩,?_⟩
 ·show(A1 Ai f T).length≤1000000
  omega
 ·rcases(Cs Ah).1 hy with rfl|hy
  ·exact hf
  ·exact h.sm _ hy
 ·show((A1 Ai f T).length:Int)≤lim
  omega
def Hv(s:ES):Prop:=s.full=false→∀f q,s.queue=f::q→¬(f∈s.T∨(f∉s.given∧(ofF s.B f).length=0))→(Bs s.T s.lim f).2=0→∀i (hi:i<s.rules.length) (j:Nat),j<s.rules[i].bo.length→(Je s.rules[i] s.me j f (Bs s.T s.lim f).1).length≤30001
theorem Uf{n:Nat}{s:ES}(h:SOk n s)(hw:Hv s):SOk (n+Cr s.rules s.rules.length*60002) (A5 s).2:=by
 unfold A5;split
 ·exact h.le (Nat.le_add_right _ _)
 rename_i hfl;split
 ·exact h.le (Nat.le_add_right _ _)
 rename_i f q hq;have hf:=h.qs f (by rw[hq];simp);have hql:=h.ql;rw[hq]at hql;simp only[List.length_cons]at hql;obtain⟨p1,p2⟩:=Xy h.tok h.tl h.lm hf;have h1:SOk n {s with queue:=q}:={h with ql:=(by show q.length≤n;omega),qs:=fun y hy=>h.qs y (by rw[hq];exact List.mem_cons_of_mem _ hy)};have h2:SOk n {s with queue:=q,T:=(Bs s.T s.lim f).1}:={h1 with tok:=p1,tl:=p2};split
 ·exact h1.le (Nat.le_add_right _ _)
 rename_i hns;split
 ·rename_i hp
  exact Alt h2 h.rs hf p1.sm _ (Nat.le_refl _) (hw (by simpa using hfl) f q hq hns hp)
 ·exact{h2.le (Nat.le_add_right _ _)with}
theorem Gs{σ:St}{x:Nat}{a:EA}{s:ES}(h:EV false σ x a s false){y:Nat}(hf:Bo x a y):∃o,σ y=some o:=by
 rcases hf with rfl|rfl|rfl|e|e|e
 ·exact⟨_,h.cx⟩
 ·exact⟨_,h.ct⟩
 ·exact⟨_,h.cb⟩
 ·obtain⟨c,hc⟩:=h.grow e;exact⟨_,hc⟩
 ·obtain⟨r,c,hc⟩:=h.cq.rows e;exact⟨_,hc⟩
 ·obtain⟨c,hc⟩:=h.co.own_rows e;exact⟨_,hc⟩
theorem Ti{σ:St}(r:Rl)(me:ByteArray)(first:Int)(f:Fa)(l:List Fa)(hr:r.S3)(hf:f.Sm)(hl:l.length≤1000000)(hls:∀y∈l,y.Sm)(hn:(Je r me first f l).length≤1000000):
  AT Tryz.prog 53 [.agg r.cs,str me,int first,.agg f.cs,.sl 4 (faC l)] σ fun v σ'=>v= .sl 1 (boC (Ea r me first f l))∧σ'=σ:=
 (Agq r me first f l hr hf hl hls hn).post (by kernel_rfl) fun v σ' h=>⟨_,_,h.view,rfl,rfl⟩
structure SI(σ0:St)(x:Nat)(a:EA)(p d:Nat)(f:Fa)(T:List Fa)(lv:AV)(σ:St)(a':EA)(s':ES):Prop where
 ev:EV false σ x a' s' false
 fr:Frm x a a' σ0 σ
 kp:σ p=some (.cells f.cs)
 np:¬Bo x a' p
 kd:σ d=some (.cells [lv])
 nd:¬Bo x a' d
 rd:Rd 4 σ lv (faC T)
 own:∀y,Own lv y→¬Bo x a' y∧∀o,σ0 y=some o→Bo x a y
 od:∀o,σ0 d=some o→Bo x a d
 pd:p≠d
theorem SI.let{σ0 σ:St}{x p d:Nat}{a a':EA}{f:Fa}{T:List Fa}{lv:AV}{s':ES}(h:SI σ0 x a p d f T lv σ a' s'):
  ∃σ',SV σ σ'∧VW σ σ' lv (.sl 4 (faC T))∧SI σ0 x a p d f T (.sl 4 (faC T)) σ' a' s'∧∀y cs,y≠d→σ y=some (.cells cs)→σ' y=some (.cells cs):=by
 rcases h.rd with e|hL
 ·subst e
  exact⟨σ,Es fun _ _ h=>.inl h,.refl _,h,fun _ _ _ hy=>hy⟩
 have hod:¬Own lv d:=hL.not_own h.kd;have hv:VW σ ((St.free σ lv).set d (.cells [.sl 4 (faC T)])) lv (.sl 4 (faC T)):=hL.vw_same fun y hy=>by
  rw[Ag fun e=>by subst e;exact hod hy];exact Oo hy
 have keep:∀{y o},y≠d→¬Own lv y→σ y=some o→((St.free σ lv).set d (.cells [.sl 4 (faC T)])) y=some o:=fun{y o} h1 h2 h3=>by
  rw[Ag h1,I8 h2];exact h3
 refine⟨_,Ks h.kd (show OW _ _ (.cells _) (.cells _)from vws_cons hv By) fun y o hne hy=>?_,hv,⟨h.ev.keep fun y o hy hf=>keep (fun e=>h.nd (e▸hf)) (fun e=>(h.own y e).1 hf) hy,fun y o hy hn=>?_,keep h.pd (hL.not_own h.kp) h.kp,h.np,Ab,h.nd,.inl rfl,fun y hy=>absurd hy Gy,h.od,h.pd⟩,fun y cs hne hy=>keep hne (hL.not_own hy) hy⟩
 ·by_cases ho:Own lv y
  ·rw[Oo ho]at hy;cases hy
  ·rwa[I8 ho]at hy
 ·have k:=h.fr y o hy hn
  exact⟨keep (fun e=>hn (by rw[e];exact h.od o (e▸hy))) (fun e=>hn ((h.own y e).2 o hy)) k.1,k.2⟩
theorem SI.more{σ0 σ σ':St}{x p d:Nat}{a a':EA}{f:Fa}{T:List Fa}{lv:AV}{s':ES}(h:SI σ0 x a p d f T lv σ a' s')(hs:∀y o,σ y=some o→σ' y=some o):SI σ0 x a p d f T lv σ' a' s':=
 have hr:Rd 4 σ' lv (faC T):=by
  rcases h.rd with e|e
  ·exact .inl e
  ·exact .inr (e.keep fun y o hy _=>hs y o hy)
 {h with ev:=h.ev.more hs,fr:=fun y o hy hn=>⟨hs _ _ (h.fr y o hy hn).1,(h.fr y o hy hn).2⟩,kp:=hs _ _ h.kp,kd:=hs _ _ h.kd,rd:=hr}
theorem SI.go{σ0 σ σ':St}{x p d:Nat}{a a' a2:EA}{f:Fa}{T:List Fa}{s' s2:ES}(h:SI σ0 x a p d f T (.sl 4 (faC T)) σ a' s')(he:EV false σ' x a2 s2 false)(hf:Frm x a' a2 σ σ'):SI σ0 x a p d f T (.sl 4 (faC T)) σ' a2 s2:=
 ⟨he,h.fr.trans hf,(hf _ _ h.kp h.np).1,(hf _ _ h.kp h.np).2,(hf _ _ h.kd h.nd).1,(hf _ _ h.kd h.nd).2,.inl rfl,fun y hy=>absurd hy Gy,h.od,h.pd⟩
structure Fnd(s s':ES)(P:Nat→List Fa→Prop):Prop where
 sk:SK s s'
 B:∀d,d∈s'.B↔d∈s.B∨Der s.me s.names s.rules d∧∃i:Nat,d.ru=i∧P i d.bo
 qm:∀f∈s.queue,f∈s'.queue
 qn:∀d∈s'.B,d.hd.at'=s.me→d.hd∉s.T→d∈s.B∨d.hd∈s'.queue
 qo:∀f∈s'.queue,f∈s.queue∨f.at'=s.me∧f∉s.T∧okF f=true
theorem Fnd.refl(s:ES):Fnd s s fun _ _=>False:=⟨.refl s,fun d=>⟨.inl,fun h=>h.elim _root_.id fun h=>by obtain⟨_,_,_,h⟩:=h;exact h.elim⟩,fun _ h=>h,fun d hd _ _=>.inl hd,fun _ h=>.inl h⟩
theorem Fnd.trans{s s' s'':ES}{P Q:Nat→List Fa→Prop}(h:Fnd s s' P)(k:Fnd s' s'' Q):Fnd s s'' fun i b=>P i b∨Q i b where
 sk:=h.sk.trans k.sk
 B:=fun d=>by
  rw[k.B,h.B,h.sk.me,h.sk.names,h.sk.rules];constructor
  ·rintro((h|⟨h,i,e,p⟩)|⟨h,i,e,p⟩)
   ·exact .inl h
   ·exact .inr ⟨h,i,e,.inl p⟩
   ·exact .inr ⟨h,i,e,.inr p⟩
  ·rintro(h|⟨h,i,e,p|p⟩)
   ·exact .inl (.inl h)
   ·exact .inl (.inr ⟨h,i,e,p⟩)
   ·exact .inr ⟨h,i,e,p⟩
 qm:=fun f hf=>k.qm f (h.qm f hf)
 qn:=fun d hd ha hT=>by
  rcases k.qn d hd (ha.trans h.sk.me.symm) (by rw[h.sk.T];exact hT)with h1|h1
  ·exact(h.qn d h1 ha hT).imp _root_.id fun h2=>k.qm _ h2
  ·exact .inr h1
 qo:=fun f hf=>by
  rcases k.qo f hf with h1|⟨h1,h2,h3⟩
  ·exact h.qo f h1
  ·exact .inr ⟨h1.trans h.sk.me,by rw[←h.sk.T];exact h2,h3⟩
theorem Fnd.conv{s s':ES}{P Q:Nat→List Fa→Prop}(h:Fnd s s' P)(e:∀i b,P i b↔Q i b):Fnd s s' Q:=⟨h.sk,fun d=>by
 rw[h.B];exact or_congr Iff.rfl (and_congr Iff.rfl (exists_congr fun i=>and_congr Iff.rfl (e i d.bo))),h.qm,h.qn,h.qo⟩
theorem Aos(s:ES){i:Nat}(hi:i<s.rules.length)(b:List Fa):Fnd s (Dt s i b) fun j c=>j=i∧c=b:=by
 have e:s.rules.getD i ⟨.zero,emp,[],.zero,[]⟩=s.rules[i]:=Dk hi _;have der:∀{f},hdE s.me s.rules[i] b=some f→f.at'∈s.names∧okF f=true→Der s.me s.names s.rules ⟨i,f,b⟩:=fun h1 h2=>⟨i,hi,rfl,h1,h2⟩;have uniq:∀{d:De},Der s.me s.names s.rules d→d.ru=i→d.bo=b→∃f,hdE s.me s.rules[i] b=some f∧(f.at'∈s.names∧okF f=true)∧d=⟨i,f,b⟩:=fun{d} ⟨j,hj,e1,e2,e3⟩ e4 e5=>by
  have:j=i:=by rw[e1]at e4;exact Int.ofNat.inj e4
  subst this;refine⟨d.hd,by rw[←e5];exact e2,e3,?_⟩;cases d
  simp only at e1 e5⊢;rw[e1,e5]
 have hS:Dt s i b=match hdE s.me s.rules[i] b with
   |none=>s
   |some f=>if f.at'∈s.names∧okF f=true then
     if(⟨i,f,b⟩:De)∈s.B then s
     else if f.at'=s.me then(if f∈s.T then{s with B:=A1 Bg ⟨i,f,b⟩ s.B}else{s with B:=A1 Bg ⟨i,f,b⟩ s.B,queue:=s.queue++[f]})
     else(if 0<(ofF s.B f).length then{s with B:=A1 Bg ⟨i,f,b⟩ s.B}else{s with B:=A1 Bg ⟨i,f,b⟩ s.B,outs:=s.outs++[(f,false)]})
    else s:=by unfold Dt;rw[e];first|done|rfl
 cases hh:hdE s.me s.rules[i] b with
 |none=>
  have hs:Dt s i b=s:=by rw[hS,hh]
  rw[hs];refine⟨.refl s,fun d=>⟨.inl,fun h=>h.elim _root_.id fun⟨hd,j,e1,e2,e3⟩=>?_⟩,fun _ h=>h,fun d hd _ _=>.inl hd,fun _ h=>.inl h⟩;obtain⟨f,h1,_⟩:=uniq hd (by rw[e1,e2]) e3;rw[hh]at h1;cases h1
 |some f=>
  rw[hh]at hS;simp only at hS;by_cases hok:f.at'∈s.names∧okF f=true
  case neg=>
   rw[if_neg hok]at hS;rw[hS];refine⟨.refl s,fun d=>⟨.inl,fun h=>h.elim _root_.id fun⟨hd,j,e1,e2,e3⟩=>?_⟩,fun _ h=>h,fun d hd _ _=>.inl hd,fun _ h=>.inl h⟩;obtain⟨f',h1,h2,_⟩:=uniq hd (by rw[e1,e2]) e3;rw[hh]at h1;injection h1 with h1;subst h1;exact absurd h2 hok
  rw[if_pos hok]at hS;have all:∀d:De,(Der s.me s.names s.rules d∧∃j:Nat,d.ru=j∧j=i∧d.bo=b)↔d=⟨i,f,b⟩:=fun d=>by
   constructor
   ·rintro⟨hd,j,e1,e2,e3⟩
    obtain⟨f',h1,_,h3⟩:=uniq hd (by rw[e1,e2]) e3;rw[hh]at h1;injection h1 with h1;subst h1;exact h3
   ·rintro rfl
    exact⟨der hh hok,i,rfl,rfl,rfl⟩
  by_cases hin:(⟨i,f,b⟩:De)∈s.B
  ·rw[if_pos hin]at hS
   rw[hS];exact⟨.refl s,fun d=>by rw[all];exact⟨.inl,fun h=>h.elim _root_.id fun h=>h▸hin⟩,fun _ h=>h,fun d hd _ _=>.inl hd,fun _ h=>.inl h⟩
  rw[if_neg hin]at hS;have hB:∀d,d∈A1 Bg ⟨i,f,b⟩ s.B↔d∈s.B∨Der s.me s.names s.rules d∧∃j:Nat,d.ru=j∧j=i∧d.bo=b:=fun d=>by
   rw[Cs A8,all];exact or_comm
  have k:=Z3 s i b;by_cases ha:f.at'=s.me
  ·rw[if_pos ha]at hS
   by_cases hT:f∈s.T
   ·rw[if_pos hT]at hS
    refine⟨k,?_,?_,?_,?_⟩<;>rw[hS]
    ·exact hB
    ·exact fun _ h=>h
    ·intro d hd _ hn
     rcases(Cs A8).1 hd with rfl|hd
     ·exact absurd hT hn
     ·exact .inl hd
    ·exact fun _ h=>.inl h
   ·rw[if_neg hT]at hS
    refine⟨k,?_,?_,?_,?_⟩<;>rw[hS]
    ·exact hB
    ·exact fun _ h=>List.mem_append_left _ h
    ·intro d hd _ hn
     rcases(Cs A8).1 hd with rfl|hd
     ·exact .inr (List.mem_append_right _ (by simp))
     ·exact .inl hd
    ·intro g hg
     rcases List.mem_append.1 hg with hg|hg
     ·exact .inl hg
     ·rw[List.mem_singleton.1 hg];exact .inr ⟨ha,hT,hok.2⟩
  ·rw[if_neg ha]at hS
   have hq:(Dt s i b).queue=s.queue∧(Dt s i b).B=A1 Bg ⟨i,f,b⟩ s.B:=by
    rw[hS];split<;>exact⟨rfl,rfl⟩
   refine⟨k,?_,?_,?_,?_⟩
   ·rw[hq.2];exact hB
   ·rw[hq.1];exact fun _ h=>h
   ·rw[hq.2]
    intro d hd h1 hn;rcases(Cs A8).1 hd with rfl|hd
    ·exact absurd h1 ha
    ·exact .inl hd
   ·rw[hq.1];exact fun _ h=>.inl h
theorem Wv{i:Nat}:∀(l:List (List Fa)) (s:ES),i<s.rules.length→Fnd s (bdS i l s) fun j c=>j=i∧c∈l
 | [],s,_=>(Fnd.refl s).conv fun j c=>by simp
 |b::l,s,hi=>by
  have h1:=Aos s hi b;have h2:=Wv l (Dt s i b) (by rw[h1.sk.rules];exact hi);exact(h1.trans h2).conv fun j c=>by
   rw[List.mem_cons];constructor
   ·rintro(⟨h,h'⟩|⟨h,h'⟩)
    ·exact⟨h,.inl h'⟩
    ·exact⟨h,.inr h'⟩
   ·rintro⟨h,h'|h'⟩
    ·exact .inl ⟨h,h'⟩
    ·exact .inr ⟨h,h'⟩
theorem Afc{me:ByteArray}{f:Fa}{T:List Fa}{i:Nat}{r:Rl}{s:ES}(hi:i<s.rules.length):∀k,Fnd s (ltS me f T i r k s) fun j c=>j=i∧∃q:Nat,q<k∧c∈Ea r me q f T
 |0=>(Fnd.refl s).conv fun j c=>by simp
 |k+1=>by
  have h1:=Afc (me:=me) (f:=f) (T:=T) (r:=r) hi k;rw[Il];have h2:=Wv (i:=i) (Ea r me k f T) (ltS me f T i r k s) (by rw[h1.sk.rules];exact hi);exact(h1.trans h2).conv fun j c=>by
   constructor
   ·rintro(⟨h,q,hq,h'⟩|⟨h,h'⟩)
    ·exact⟨h,q,by omega,h'⟩
    ·exact⟨h,k,by omega,h'⟩
   ·rintro⟨h,q,hq,h'⟩
    by_cases e:q=k
    ·subst e;exact .inr ⟨h,h'⟩
    ·exact .inl ⟨h,q,by omega,h'⟩
theorem Afy{me:ByteArray}{f:Fa}{T:List Fa}{rules:List Rl}{s:ES}(hr:s.rules=rules):∀k,k≤rules.length→Fnd s (rlS me f T rules k s) fun j c=>j<k∧∃q:Nat,q<(rules.getD j rlZ).bo.length∧c∈Ea (rules.getD j rlZ) me q f T
 |0,_=>(Fnd.refl s).conv fun j c=>by simp
 |k+1,hk=>by
  have h1:=Afy (me:=me) (f:=f) (T:=T) hr k (by omega);rw[Iv];have h2:=Afc (me:=me) (f:=f) (T:=T) (i:=k) (r:=rules.getD k rlZ) (s:=rlS me f T rules k s) (by rw[h1.sk.rules,hr];omega) (rules.getD k rlZ).bo.length;exact(h1.trans h2).conv fun j c=>by
   constructor
   ·rintro(⟨h,h'⟩|⟨rfl,h'⟩)
    ·exact⟨by omega,h'⟩
    ·exact⟨by omega,h'⟩
   ·rintro⟨h,h'⟩
    by_cases e:j=k
    ·subst e;exact .inr ⟨rfl,h'⟩
    ·exact .inl ⟨by omega,h'⟩
def Cu(p:ES×List Fa)(d:De):ES×List Fa:=({p.1 with B:=p.1.B.filter fun y=>!decide (y=d)},if d.hd.at'≠p.1.me∧(ofF (p.1.B.filter fun y=>!decide (y=d)) d.hd).length=0 then p.2++[d.hd]else p.2)
def Q7(p:ES×List Fa)(g:Fa):ES×List Fa:=({p.1 with T:=(Ha p.1.T g).1},p.2)
def Cp(p:ES×List Fa)(g:Fa):ES×List Fa:=(Py p.1.B g).foldl Cu (Q7 p g)
def C7(s:ES):List Fa:=(Aw Ai [] s.T).filter fun y=>!decide (y∈Lq s)
def Bq(s:ES)(f:Fa):ES:={s with given:=(Aw Ai [] s.given).filter fun y=>!decide (y∈[f])}
def Gr(s:ES)(f:Fa):Int×ES:=if f∈s.given then
  (0,{((C7 (Bq s f)).foldl Cp (Bq s f,[])).1 with outs:=((C7 (Bq s f)).foldl Cp (Bq s f,[])).1.outs++(Aw Ai [] ((C7 (Bq s f)).foldl Cp (Bq s f,[])).2).map fun y=>(y,true)})
 else(152,s)
structure GOk(n:Nat)(p:ES×List Fa):Prop where
 ok:SOk n p.1
 le:p.1.B.length+p.1.outs.length+p.2.length≤n
 sm:∀y∈p.2,y.Sm
theorem Acd{α:Type}[DecidableEq α]{d:α}:∀{l:List α},d∈l→(l.filter fun y=>!decide (y=d)).length+1≤l.length
 |a::l,h=>by
  by_cases e:a=d
  ·have:=List.length_filter_le (fun y=>!decide (y=d)) l
   simp only[List.filter_cons,decide_eq_true e,Bool.not_true,List.length_cons];simp only[Bool.false_eq_true,if_false];omega
  ·have h':d∈l:=(List.mem_cons.1 h).resolve_left fun e'=>e e'.symm
   have:=Acd h';simp only[List.filter_cons,decide_eq_false e,Bool.not_false,if_true,List.length_cons];omega
theorem Ab3{n:Nat}{p:ES×List Fa}{d:De}(h:GOk n p)(hd:d∈p.1.B):GOk n (Cu p d):=by
 have h1:=Acd hd;have h2:=h.le;have hds:=h.ok.bs d hd;refine⟨{h.ok with br:=h.ok.br.filter _,bo:=?_,bs:=fun e he=>h.ok.bs e (List.mem_filter.1 he).1},?_,fun y hy=>?_⟩
 ·show(p.1.B.filter fun y=>!decide (y=d)).length+p.1.outs.length≤n
  omega
 ·show(p.1.B.filter fun y=>!decide (y=d)).length+p.1.outs.length+(Cu p d).2.length≤n
  unfold Cu;simp only;split
  ·rw[List.length_append];simp only[List.length_cons,List.length_nil];omega
  ·omega
 ·unfold Cu at hy
  simp only at hy;split at hy
  ·rcases List.mem_append.1 hy with hy|hy
   ·exact h.sm y hy
   ·rw[List.mem_singleton.1 hy];exact hds.1
  ·exact h.sm y hy
theorem Asz{T:List Fa}{lim:Int}{g:Fa}(h:TOk T lim):TOk (Ha T g).1 lim∧(Ha T g).1.length≤T.length:=by
 unfold Ha;split
 ·have:=List.length_filter_le (fun y=>!decide (y=g)) T
  have hl:=h.len;exact⟨⟨h.rises.filter _,by show(T.filter fun y=>!decide (y=g)).length≤1000000;omega,fun y hy=>h.sm y (List.mem_filter.1 hy).1,h.lim⟩,this⟩
 ·exact⟨h,Nat.le_refl _⟩
theorem Adv{n:Nat}{p:ES×List Fa}{g:Fa}(h:GOk n p):GOk n (Q7 p g):=by
 have:=Asz (g:=g) h.ok.tok;have h2:=h.ok.tl;exact⟨{h.ok with tok:=this.1,tl:=(by show((Ha p.1.T g).1.length:Int)≤p.1.lim;omega)},h.le,h.sm⟩
theorem Xn{n:Nat}{s:ES}{f:Fa}(h:SOk n s):SOk n (Bq s f):=by
 have h1:=List.length_filter_le (fun y=>!decide (y∈[f])) (Aw Ai [] s.given);have h2:=Bn (c:=Ai) (s:=[]) (l:=s.given);have h3:=h.gl;simp only[List.length_nil]at h2
 exact{h with gr:=(Bh Ah .nil).filter _,gl:=(by show((Aw Ai [] s.given).filter fun y=>!decide (y∈[f])).length≤1000000;omega),gs:=fun y hy=>h.gs y (by
  have:=(List.mem_filter.1 hy).1;rw[Ar Ah]at this;simpa using this)}
theorem Mf{α β:Type}{f:β→α→β}{l:List α}{k:Nat}(z:β)(h:k<l.length):(l.take (k+1)).foldl f z=f ((l.take k).foldl f z) l[k]:=by
 rw[List.take_add_one,List.getElem?_eq_getElem h];simp only[Option.toList,List.foldl_append,List.foldl_cons,List.foldl_nil]
theorem W5{p:ES×List Fa}{d e:De}(he:e∈p.1.B)(hn:e≠d):e∈(Cu p d).1.B:=List.mem_filter.2 ⟨he,by simpa using hn⟩
theorem S8{e:De}:∀(l:List De) (p:ES×List Fa),e∈p.1.B→e∉l→e∈(l.foldl Cu p).1.B
 | [],p,h,_=>h
 |d::l,p,h,hn=>S8 l (Cu p d) (W5 h fun e=>hn (by simp[e])) fun h=>hn (List.mem_cons_of_mem _ h)
theorem Aff{α:Type}{l:List α}(h:l.Nodup){k:Nat}(hk:k<l.length):l[k]∉l.take k:=fun hm=>by
 rw[List.mem_take_iff_getElem]at hm;obtain⟨i,hi,e⟩:=hm;exact List.pairwise_iff_getElem.1 h i k (by omega) hk (by omega) e
section
variable{σ:St}
theorem Agt(l:List ByteArray)(hl:l.length≤1000000000):AT Tryz.prog 50 [.sl 1 (stC l)] σ fun r σ'=>Ow 1 σ' r (stC l)∧Cg σ σ' r:=by
 refine AT.ob Tryz.func50 rfl ?_;simp only[go_sem];by_cases he:stC l=[]
 ·refine⟨fun h=>absurd he h,fun _ b=>?_⟩
  refine aIf_bool (fun _=>?_) (fun _=>?_)
  ·simp only[go_sem]
   exact Ae (r:=A4) rfl ⟨.inl ⟨he,.inl rfl⟩,.nil⟩
  ·simp only[go_sem]
   refine Ap (ys:=stC l) (by simp[src]) (by decide) (by decide) (by decide) ?_;rw[he];refine⟨rfl,fun _=>?_,fun h=>absurd rfl h⟩;simp only[go_sem];exact Ae (r:=.fsl 1 []) rfl ⟨.inl ⟨rfl,.inr rfl⟩,fun y p hy=>⟨hy,A3⟩⟩
 ·refine⟨fun _=>?_,fun h=>absurd h he⟩
  refine Ap (ys:=stC l) (by simp[src]) (by decide) (by decide) (by decide) (Ow.of_app .full he (by rw[Pw];simp only[List.length_nil];omega) fun lv σ1 h1 h2 _=>?_);simp only[go_sem];exact Ae (r:=lv) rfl ⟨h1,fun y p hy=>h2 y p hy A3⟩
theorem Abz(l:List ByteArray)(hl:l.length≤1000000000):AT Tryz.prog 50 [.sl 1 (stC l)] σ fun r σ'=>r= .sl 1 (stC l)∧σ'=σ:=
 (Agt l hl).post (by kernel_rfl) fun r σ' ⟨h,G⟩=>⟨_,_,Gz h.lat G,rfl,rfl⟩
theorem Agu(l:List Tm)(hl:l.length≤1000000000):AT Tryz.prog 97 [.sl 4 (tmC l)] σ fun r σ'=>Ow 4 σ' r (tmC l)∧Cg σ σ' r:=by
 refine AT.ob Tryz.func97 rfl ?_;simp only[go_sem];by_cases he:tmC l=[]
 ·refine⟨fun h=>absurd he h,fun _ b=>?_⟩
  refine aIf_bool (fun _=>?_) (fun _=>?_)
  ·simp only[go_sem]
   exact Ae (r:=A4) rfl ⟨.inl ⟨he,.inl rfl⟩,.nil⟩
  ·simp only[go_sem]
   refine Ap (ys:=tmC l) (by simp[src]) (by decide) (by decide) (by decide) ?_;rw[he];refine⟨rfl,fun _=>?_,fun h=>absurd rfl h⟩;simp only[go_sem];exact Ae (r:=.fsl 4 []) rfl ⟨.inl ⟨rfl,.inr rfl⟩,fun y p hy=>⟨hy,A3⟩⟩
 ·refine⟨fun _=>?_,fun h=>absurd h he⟩
  refine Ap (ys:=tmC l) (by simp[src]) (by decide) (by decide) (by decide) (Ow.of_app .full he (by rw[Ku];simp only[List.length_nil];omega) fun lv σ1 h1 h2 _=>?_);simp only[go_sem];exact Ae (r:=lv) rfl ⟨h1,fun y p hy=>h2 y p hy A3⟩
theorem Sy(l:List Tm)(hl:l.length≤1000000000):AT Tryz.prog 97 [.sl 4 (tmC l)] σ fun r σ'=>r= .sl 4 (tmC l)∧σ'=σ:=
 (Agu l hl).post (by kernel_rfl) fun r σ' ⟨h,G⟩=>⟨_,_,Gz h.lat G,rfl,rfl⟩
theorem Ags(l:List Li)(hl:l.length≤1000000000):AT Tryz.prog 98 [.sl 10 (liC l)] σ fun r σ'=>Ow 10 σ' r (liC l)∧Cg σ σ' r:=by
 refine AT.ob Tryz.func98 rfl ?_;simp only[go_sem];by_cases he:liC l=[]
 ·refine⟨fun h=>absurd he h,fun _ b=>?_⟩
  refine aIf_bool (fun _=>?_) (fun _=>?_)
  ·simp only[go_sem]
   exact Ae (r:=A4) rfl ⟨.inl ⟨he,.inl rfl⟩,.nil⟩
  ·simp only[go_sem]
   refine Ap (ys:=liC l) (by simp[src]) (by decide) (by decide) (by decide) ?_;rw[he];refine⟨rfl,fun _=>?_,fun h=>absurd rfl h⟩;simp only[go_sem];exact Ae (r:=.fsl 10 []) rfl ⟨.inl ⟨rfl,.inr rfl⟩,fun y p hy=>⟨hy,A3⟩⟩
 ·refine⟨fun _=>?_,fun h=>absurd h he⟩
  refine Ap (ys:=liC l) (by simp[src]) (by decide) (by decide) (by decide) (Ow.of_app .full he (by rw[D7];simp only[List.length_nil];omega) fun lv σ1 h1 h2 _=>?_);simp only[go_sem];exact Ae (r:=lv) rfl ⟨h1,fun y p hy=>h2 y p hy A3⟩
end
def Rl.csv(r:Rl)(v:AV):List AV:=[str r.ho.v,boo r.ho.b,int r.ho.n,str r.ho.s,str r.nm,.sl 4 (tmC r.ar),str r.at'.v,boo r.at'.b,int r.at'.n,str r.at'.s,v]
theorem Rl.csv_one(r:Rl){v:AV}(h:v.one=true):(r.csv v).all AV.one=true:=by
 show(true&&(true&&(true&&(true&&(true&&(true&&(true&&(true&&(true&&(true&&(v.one&&true)))))))))))=true;rw[h];rfl
@[go_sem] theorem Rl.csv_len(r:Rl)(v:AV):(r.csv v).length=11:=rfl
@[go_sem] theorem Rl.csv_take(r:Rl)(v:AV):(r.csv v).take 11=r.csv v:=rfl
@[go_sem] theorem Rl.csv_10(r:Rl)(v:AV):(r.csv v).getD 10 (.v undef)=v:=rfl
theorem Yf{l:List Li}{i:Nat}(h:i<l.length):(liC l).set i (Az ((liC l).getD i []) 5 [.sl 4 (tmC l[i].ar)])=liC l:=by
 rw[D6 h];refine List.ext_getElem (by simp) fun j h1 h2=>?_;rw[List.getElem_set];split
 ·rename_i e
  subst e;simp only[liC,List.getElem_map];rfl
 ·rfl
def RrX(σ0 σ:St)(r:Rl)(e:List AV):Prop:=∃a,e=r.csv a∧Rd 10 σ a (liC r.bo)∧∀x,Own a x→σ0 x=none
theorem Rd.vw'{q:Nat}{σ0 σ:St}{a:AV}{es:List (List AV)}(h:Rd q σ a es)(hf:∀x,Own a x→σ0 x=none):VW σ σ0 a (.sl q es):=by
 rcases h with rfl|h
 ·exact .refl _
 ·exact h.vw_same hf
theorem RrX.vws{σ0 σ:St}{r:Rl}{e:List AV}(h:RrX σ0 σ r e):VWs σ σ0 e r.cs:=by
 obtain⟨a,rfl,h1,h2⟩:=h;exact vws_same (vws_same (vws_same (vws_same (vws_same (vws_same (vws_same (vws_same (vws_same (vws_same (vws_cons (h1.vw' h2) By))))))))))
structure CR(σ0 σ:St)(lv:AV)(es:List (List AV))(b:List Rl):Prop where
 sub:∀x o,σ0 x=some o→σ x=some o
 la:LAt 11 σ lv es
 own:∀x,Own lv x→σ0 x=none
 len:es.length=b.length
 el:∀j (h:j<b.length),RrX σ0 σ b[j] (es.getD j [])
theorem CR.view{σ0 σ:St}{lv:AV}{es:List (List AV)}{b:List Rl}(h:CR σ0 σ lv es b):Hf σ lv σ0 (.sl 11 (rlC b)):=view_of (Es fun x o hx=>.inl (h.sub x o hx)) (h.la.vw h.own (by rw[Ci,h.len]) fun i hi=>by
 have:=h.len;rw[C4 (by omega)];exact(h.el i (by omega)).vws)
theorem CR.app{σ0 σ1 σ7 σ8:St}{lv lv' v:AV}{es:List (List AV)}{b:List Rl}{r:Rl}(h:CR σ0 σ1 lv es b)(hs:∀y o,σ1 y=some o→σ7 y=some o)(hv:LAt 10 σ7 v (liC r.bo))(hn:∀y,Own v y→σ0 y=none)(h8:LAt 11 σ8 lv' (es++[r.csv v]))(hs8:∀y o,σ7 y=some o→¬Own lv y→σ8 y=some o∧¬Own lv' y):CR σ0 σ8 lv' (es++[r.csv v]) (b++[r]):=by
 have nol:∀y o,σ0 y=some o→¬Own lv y:=fun y o hy ho=>by have:=h.own y ho;rw[hy]at this;cases this
 have n3:∀{y es' cap},σ7 y=some (.rows 10 es' false cap)→¬Own lv y:=fun{y es' cap} hy ho=>by
  obtain⟨c,hc⟩:=h.la.own_rows ho;rw[hs _ _ hc]at hy;cases hy
 refine⟨fun y o hy=>(hs8 y o (hs y o (h.sub y o hy)) (nol y o hy)).1,h8,fun y ho=>?_,by simp[h.len],fun j hj=>?_⟩
 ·cases hy:σ0 y with
  |none=>rfl
  |some o=>exact absurd ho (hs8 y o (hs y o (h.sub y o hy)) (nol y o hy)).2
 ·have hl:=h.len
  by_cases e:j<b.length
  ·obtain⟨a,a1,a2,a3⟩:=h.el j e
   refine⟨a,?_,?_,a3⟩
   ·rw[List.getD_eq_getElem?_getD,List.getElem?_append_left (by omega),←List.getD_eq_getElem?_getD,a1,List.getElem_append_left e]
   ·rw[List.getElem_append_left e]
    have a4:Rd 10 σ7 a (liC b[j].bo):=a2.keep hs;rcases a4 with a4|a4
    ·exact .inl a4
    ·exact .inr (a4.keep fun y o hy ho=>by
      obtain⟨c,hc⟩:=a4.own_rows ho;exact(hs8 y o hy (n3 hc)).1)
  ·have ej:j=b.length:=by simp at hj;omega
   subst ej;refine⟨v,?_,?_,hn⟩
   ·rw[List.getD_eq_getElem?_getD,List.getElem?_append_right (by omega),hl];simp
   ·rw[List.getElem_append_right (Nat.le_refl _)]
    simp only[Nat.sub_self,List.getElem_cons_zero]
    exact .inr (hv.keep fun y o hy ho=>by
     obtain⟨c,hc⟩:=hv.own_rows ho;exact(hs8 y o hy (n3 hc)).1)
section
variable{σ:St}
theorem An3(l:List Rl)(hl:l.length≤1000000)(hr:∀r∈l,r.S4):AT Tryz.prog 51 [.sl 11 (rlC l)] σ fun r σ'=>r= .sl 11 (rlC l)∧σ'=σ:=by
 have hm:AT Tryz.prog 51 [.sl 11 (rlC l)] σ fun v σ'=>∃es,CR σ σ' v es l:=by
  refine AT.ob Tryz.func51 rfl ?_;simp only[go_sem,Ci];refine⟨fun m fr σ'=>∃(i:Nat) (lv:AV) (es:List (List AV)),m=l.length-i∧i≤l.length∧CR σ σ' lv es (l.take i)∧fr 3=lv∧fr 7= .sl 11 (rlC l)∧fr 8=int l.length∧fr 9=int i,⟨_,0,A4,[],rfl,by omega,⟨fun _ _ h=>h,.none,fun y hy=>absurd hy B4,rfl,fun j hj=>by simp at hj⟩,rfl,rfl,rfl,rfl⟩,?_⟩;rintro m fr σ1 ⟨i,lv,es,rfl,hi,hC,f3,f7,f8,f9⟩;simp only[go_sem,f8,f9];refine aIf_by (fun hlt=>?_) (fun hlt=>?_)
  case' refine_2=>
   rw[List.take_of_length_le (by omega)]at hC;simp only[go_sem,Aa,f3];exact Ae (r:=lv) rfl ⟨es,hC⟩
  have hil:i<l.length:=by omega
  obtain⟨r,hrr⟩:∃r,r=l[i]:=⟨_,rfl⟩;have hr4:=hr _ (List.getElem_mem hil);rw[←hrr]at hr4;have rg:(rlC l).getD i []=r.cs:=by rw[hrr];exact C4 hil
  have h1:=hr4.1.1;have h2:=hr4.1.2;have h3:=hr4.2;simp only[go_sem,Aa,f7,f9,rg,Ci];refine⟨by omega,Ctx.nil.alloc fun p σ2 c2=>?_⟩;obtain⟨σ3,e3,c3⟩:=c2.abs 0 rfl (.cells r.cs);have hp:σ3 p=some (.cells r.cs):=c3.g0;have hs3:=c3.sub;have fp:=c2.f0;simp only[go_sem,Aa,c2.g0,e3,hp];clear e3 c3 c2;refine(Sy r.ar (by omega)).p ?_;have e1:Az r.cs 5 [.sl 4 (tmC r.ar)]=r.cs:=rfl;have e2:σ3.set p (.cells r.cs)=σ3:=B8 hp;simp only[go_sem,Aa,hp,e1,e2];refine(Ags r.bo (by omega)).mono ?_;rintro v σ4 ⟨hO,hG⟩;have hp4:=hG _ _ hp;have e4:Az r.cs 10 [v]=r.csv v:=rfl;obtain⟨σ5,e5⟩:∃σ5,σ5=σ4.set p (.cells (r.csv v)):=⟨_,rfl⟩;have hp5:σ5 p=some (.cells (r.csv v)):=by rw[e5];exact Ab
  have hO5:Ow 10 σ5 v (liC r.bo):=hO.keep fun y o hy ho=>by rw[e5,Ag (fun e=>by rw[e]at ho;exact hp4.2 ho)];exact hy
  have hs5:∀y o,σ1 y=some o→σ5 y=some o:=fun y o hy=>by
   rw[e5,Ag (fun e=>by rw[e,fp]at hy;cases hy)];exact(hG _ _ (hs3 _ _ hy)).1
  have hn5:∀y,Own v y→σ y=none:=fun y ho=>Df (fun z o hz=>hs3 _ _ (hC.sub z o hz)) (hG.own ho);have o5:=r.csv_one hO.lat.one;simp only[go_sem,Aa,hp4.1,hO.lat.one,hO.lat.cells,e4,←e5,hp5,hO5.lat.len,D7,o5];clear e5;refine⟨fun m fr σ'=>∃j:Nat,m=r.bo.length-j∧j≤r.bo.length∧σ'=σ5∧fr 3=lv∧fr 5=ptr p∧fr 7= .sl 11 (rlC l)∧fr 8=int l.length∧fr 9=int i∧fr 23=int r.bo.length∧fr 24=int j,⟨_,0,rfl,by omega,rfl,f3,rfl,f7,f8,f9,rfl,rfl⟩,?_⟩;clear f3 f7 f8 f9;rintro m fr σ5 ⟨j,rfl,hj,rfl,f3,f5,f7,f8,f9,f23,f24⟩;simp only[go_sem,f23,f24];refine aIf_by (fun hlt=>?_) (fun hlt=>?_)
  ·have hjl:j<r.bo.length:=by omega
   rcases hO5 with⟨h0,_⟩|⟨b,cap,rfl,hcap,hb⟩
   ·have:=congrArg List.length h0
    rw[D7,List.length_nil]at this;omega
   have e5:=Yf hjl;have e6:σ5.set b (.rows 10 (liC r.bo) false cap)=σ5:=B8 hb;have sx:=h2 _ (List.getElem_mem hjl);have fl:=D7 r.bo;rw[fl]at hcap;simp only[go_sem,Aa,f5,f24];refine Af [.rd 0 false,.rd 1 true,.rd 2 false,.rd 3 false,.rd 4 true,.rd 5 false,.rd 6 false,.rd 7 false,.rd 8 true,.ef 9 [1],.rd 10 false,.rd 11 false,.ef 12 []] ?_;simp only[go_sem,Aa,f5,f24,hp5,hb,D6 hjl,fl];refine⟨by omega,by omega,(Sy r.bo[j].ar (by omega)).p ?_⟩;simp only[go_sem,Aa,f3,f5,f23,f24,hp5,hb,fl,e5,e6,As j (by omega)];refine⟨by omega,by omega,r.bo.length-(j+1),by omega,j+1,?_⟩
   (and_intros<;>first|assumption|rfl|omega)
  ·simp only[go_sem,Aa,f3,f5,hp5,o5]
   have hcl:=hC.len;rw[List.length_take]at hcl;refine Ap (ys:=[r.csv v]) rfl (by decide) (by decide) (by decide) ((hC.la.keep fun y o hy _=>hs5 y o hy).app (by simp only[List.length_cons,List.length_nil];omega) fun lv' σ8 h8 s8=>?_);have hC8:=hC.app hs5 hO5.lat hn5 h8 s8;rw[show l.take i++[r]=l.take (i+1) by rw[List.take_add_one,List.getElem?_eq_getElem hil,hrr];rfl]at hC8;simp only[go_sem,Aa,f9,As i (by omega)];exact⟨l.length-(i+1),by omega,i+1,lv',_,rfl,by omega,hC8,rfl,f7,f8,rfl⟩
 exact hm.post (by kernel_rfl) fun r σ' ⟨es,h⟩=>⟨_,_,h.view,rfl,rfl⟩
end
section
variable{σ:St}{x:Nat}{a:EA}{s:ES}{n:Nat}
theorem Oj(h:EV false σ x a s false)(hs:SOk n s)(hn:n+Cr s.rules s.rules.length*60002≤800000000000)(hw:Hv s):
  AT Tryz.prog 37 [ptr x] σ fun r σ'=>r=boo (A5 s).1∧∃a',EV false σ' x a' (A5 s).2 false∧Frm x a a' σ σ':=by
 refine AT.ob Tryz.func37 rfl ?_;simp only[go_sem];refine(Ju h).p ?_;have hx:=h.cx;cases hfu:s.full with
 |true=>
  have e:A5 s=(false,s):=by unfold A5;rw[hfu];rfl
  simp only[go_sem,hx,hfu];exact Ae (r:=boo false) rfl ⟨by rw[e],a,by rw[e];exact h,.refl⟩
 |false=>
 cases hq:s.queue with
 |nil=>
  have e:A5 s=(false,s):=by unfold A5;rw[hfu,hq];rfl
  have d0:decide ((s.queue.length:Int)=0)=true:=by rw[hq];rfl
  simp only[go_sem,hx,hfu,h.cq.len,Aj,d0];exact Ae (r:=boo false) rfl ⟨by rw[e],a,by rw[e];exact h,.refl⟩
 |cons f q=>
 have d0:decide ((s.queue.length:Int)=0)=false:=by rw[hq];simp;omega
 have hfs:f.Sm:=hs.qs f (by rw[hq];simp);have hcq:LQ 4 σ a.qv (f.cs::faC q):=by have:=h.cq;rw[hq]at this;exact this
 have hst:A5 s=if f∈s.T∨(f∉s.given∧(ofF s.B f).length=0)then(true,{s with queue:=q})
  else if(Bs s.T s.lim f).2=0 then(true,rlS s.me f (Bs s.T s.lim f).1 s.rules s.rules.length {s with queue:=q,T:=(Bs s.T s.lim f).1})
  else(true,{s with queue:=q,T:=(Bs s.T s.lim f).1,full:=true}):=by unfold A5;rw[hfu,if_neg (by simp),hq]
 simp only[go_sem,hx,hfu,h.cq.len,Aj,d0];refine hcq.first (by decide) rfl fun pp hpp=>?_;simp only[go_sem,Aa];refine hpp _ _ _ ?_;simp only[go_sem,Aa];refine Ctx.nil.alloc fun p σ1 c1=>?_;obtain⟨σ2,e2,c2⟩:=c1.abs 0 rfl (.cells f.cs);have hp:σ2 p=some (.cells f.cs):=c2.g0;have hsb:=c2.sub;have fp:σ p=none:=c1.f0;have h2:=h.more hsb;have hx2:=h2.cx;have hcq2:LQ 4 σ2 a.qv (f.cs::faC q):=hcq.keep fun y o hy _=>hsb y o hy;simp only[go_sem,Aa,c1.g0,e2,hx2];clear e2 c2 c1 hpp;refine hcq2.tail fun v' k1 k2=>?_;obtain⟨kx,kE,kF⟩:=h2.setQ (l:=q) (σ1:=σ2) k1 fun y o hy hn=>⟨hy,fun e=>hn ((k2 y).1 e)⟩;have esp:Az (evC false s a false) 6 [v']=evC false {s with queue:=q} {a with qv:=v'} false:=rfl;simp only[go_sem,Aa,hx2,k1.one,k1.cells,esp,kE.all1];have npa:¬Bo x a p:=fun hf=>by obtain⟨o,ho⟩:=Gs h hf;rw[fp]at ho;cases ho
 have kp:=kF _ _ hp npa;have F3:=(Frm.of hsb).trans kF;obtain⟨a1,ha1⟩:∃a1:EA,a1={a with qv:=v'}:=⟨_,rfl⟩;obtain⟨s1,hs1⟩:∃s1:ES,s1={s with queue:=q}:=⟨_,rfl⟩;rw[←hs1,←ha1]at kE F3 kp⊢;have K1:SK s s1:=by rw[hs1];exact⟨rfl,rfl,rfl,rfl,rfl,rfl,rfl⟩
 have B1:s1.B=s.B:=by rw[hs1]
 have O1:SOk n s1:=by
  have:=hs.ql;rw[hq]at this;rw[hs1];exact{hs with ql:=(by show q.length≤n;simp only[List.length_cons]at this;omega),qs:=fun y hy=>hs.qs y (by rw[hq];exact List.mem_cons_of_mem _ hy)}
 clear kx kF hx2 h2 k1 k2 hcq2 hcq hp esp;generalize σ2.set x (.cells (evC false s1 a1 false))=σ3 at kE F3 kp⊢;obtain⟨hp,np⟩:=kp;have hx3:=kE.cx;have ht3:TB σ3 a1.t s.T s.lim:=by have:=kE.ct;rw[K1.T,K1.lim]at this;exact this
 refine Af [.rd 0 false,.rd 1 false,.rd 2 false,.rd 3 true,.rd 4 true,.ef 5 [],.rd 6 false,.rd 7 false,.rd 8 false,.rd 9 false,.rd 10 true,.rd 11 true,.ef 12 [],.rd 13 false,.rd 14 false,.rd 15 false,.rd 16 false,.rd 17 false,.rd 18 true,.rd 19 true,.ef 20 [],.rd 21 false,.rd 22 false,.rd 23 false,.rd 24 false] ?_;simp only[go_sem,Aa,hx3,hp];refine(Sb ht3 hs.tok f hfs).p ?_;have hg3:LAt 4 σ3 a1.gv (faC s.given):=by have:=kE.lg;rw[K1.given]at this;exact this
 have hb3:BK σ3 a1.b s.B:=by have:=kE.cb;rw[B1]at this;exact this
 have hgl:=hs.gl;have hbk:=hs.bok (by omega);have skip:A5 s=(true,s1)→∀{fr:Fr},A9 Tryz.prog fr σ3 (Tryz.f37).results.toList=some (boo true)→Dw Tryz.prog (fun r σ'=>r=boo (A5 s).1∧∃a',EV false σ' x a' (A5 s).2 false∧Frm x a a' σ σ') (Tryz.f37).results.toList fr σ3:=fun e _ hr=>
  Ae hr ⟨by rw[e],a1,by rw[e];exact kE,F3⟩
 by_cases hT:f∈s.T
 ·rw[if_pos (.inl hT),←hs1]at hst
  simp only[go_sem,Aa,decide_eq_true hT,Bool.not_true];exact skip hst rfl
 simp only[go_sem,Aa,decide_eq_false hT,Bool.not_false,hx3,hp];refine(Tj s.given f (.of hg3) (by omega) hs.gs hfs).p ?_;by_cases hgi:f∈s.given
 case' pos=>
  have hns:¬(f∈s.T∨(f∉s.given∧(ofF s.B f).length=0)):=fun h=>h.elim hT fun h=>h.1 hgi;rw[if_neg hns]at hst;simp only[go_sem,Aa,decide_eq_true hgi,Bool.not_true]
 case' neg=>
  simp only[go_sem,Aa,decide_eq_false hgi,Bool.not_false,hx3,hp];refine(Ak9 hb3 hbk f hfs).p ?_;by_cases hof:(ofF s.B f).length=0
  case' pos=>
   rw[if_pos (.inr ⟨hgi,hof⟩),←hs1]at hst;have d3:=decide_eq_true (show((ofF s.B f).length:Int)=0 by omega);simp only[go_sem,Aa,d3];exact skip hst rfl
  have hns:¬(f∈s.T∨(f∉s.given∧(ofF s.B f).length=0)):=fun h=>h.elim hT fun h=>hof h.2;rw[if_neg hns]at hst;have d3:=decide_eq_false (show¬((ofF s.B f).length:Int)=0 by omega);simp only[go_sem,Aa,d3]
 all_goals
  obtain⟨T2,er,hP⟩:∃T2 er,Bs s.T s.lim f=(T2,er):=⟨_,_,rfl⟩;obtain⟨pT,pl⟩:=Xy hs.tok hs.tl hs.lm hfs;have hw:=hw hfu f q hq hns;simp only[hP]at hst hw pT pl;refine Af [.rd 0 false,.rd 1 false,.rd 2 false,.rd 3 true,.rd 4 true,.ef 5 [],.rd 6 false] ?_;simp only[go_sem,Aa,hx3,hp];refine(Ap6 ht3 hs.tok f hfs).mono ?_;rintro _ σ4 ⟨rfl,rfl⟩;simp only[hP];have E4:=kE.setT (T:=T2);obtain⟨s2,hs2⟩:∃s2:ES,s2={s1 with T:=T2}:=⟨_,rfl⟩;rw[←hs2,K1.lim]at E4;have F4:Frm x a a1 σ (σ3.set a1.t (tbC T2 s.lim)):=F3.trans .setT;have hp4:(σ3.set a1.t (tbC T2 s.lim)) p=some (.cells f.cs):=by rw[Ag (fun e=>np (.inr (.inl e)))];exact hp
  have O2:SOk n s2:=by rw[hs2];exact{O1 with tok:=(by show TOk T2 s1.lim;rw[K1.lim];exact pT),tl:=(by show(T2.length:Int)≤s1.lim;rw[K1.lim];exact pl)}
  have r2:s2.rules=s.rules:=by rw[hs2];exact K1.rules
  have m2:s2.me=s.me:=by rw[hs2];exact K1.me
  have e2:s2={s with queue:=q,T:=T2}:=by rw[hs2,hs1]
  have hst2:er=0→A5 s=(true,rlS s.me f T2 s.rules s.rules.length s2):=fun he=>by rw[hst,if_pos he,e2]
  clear skip hg3 hb3 ht3 hx3 kE F3 hp hs2 O1 K1 hs1;generalize σ3.set a1.t (tbC T2 s.lim)=σ4 at E4 F4 hp4⊢;have hx4:=E4.cx;by_cases he:er=0
  case neg=>
   have kE:=E4.setX (f:=true) (hv':=false);have esp:Az (evC false s2 a1 false) 8 [boo true]=evC false {s2 with full:=true} a1 false:=rfl;rw[if_neg he]at hst;simp only[go_sem,Aa,decide_eq_false he,hx4,esp,kE.all1];refine Ae (r:=boo true) rfl ⟨by rw[hst],a1,?_,F4.trans .setX⟩;rw[hst,e2];rw[e2]at kE;exact kE
  have hw:=hw he;simp only[go_sem,Aa,decide_eq_true he];refine Ay fun d hd hdm=>?_;clear hdm;have hI0:=OnI.start hd;obtain⟨σ5,e5⟩:∃σ',σ'=σ4.set d (.cells [A4]):=⟨_,rfl⟩;rw[←e5]at hI0⊢;clear e5;have hx5:=hI0.sub hx4;simp only[go_sem,Aa,hx5];refine Yj.mono ?_;rintro _ σ6 ⟨b1,b2,rfl,c⟩;have hI6:=hI0.more c.sub;have hb1:σ6 b1=some (.cells [ptr a1.t]):=c.g1.1.2;have hb2:σ6 b2=some (.cells [fnv 117]):=c.g1.1.1;have n1:b1≠d:=hI0.ne c.f1;have n2:b2≠d:=hI0.ne c.f0;have htb:TB σ4 a1.t T2 s.lim:=by
   have:=E4.ct;rw[e2]at this;exact this
  clear hI0 hx5 c;simp only[go_sem,Aa];refine Qs (fun fr=>fr 0=ptr x∧fr 3=ptr p∧fr 4=ptr d) ⟨rfl,rfl,rfl⟩ fun assign body fr hA hB hF=>?_;obtain⟨f0,f3,f4⟩:=hF;intro n' l hl hlm;clear hlm;have htl:=hI6.none hl;have hsl:∀y o,σ6 y=some o→(σ6.set l (.loop fr n' [81] assign body .ready none)) y=some o:=B7 hl fun _ _ h=>h;have tlen:=pT.len;refine(Q8 (t:=a1.t) (b1:=b1) (b2:=b2) pT (fun i σ'=>OnI σ4 d (T2.take i) σ'∧σ' l=some (.loop fr n' [81] assign body .ready none)∧σ' b1=some (.cells [ptr a1.t])∧σ' b2=some (.cells [fnv 117])) ?_ ?_ ?_ ⟨by simpa using hI6.more hsl,Ab,hsl _ _ hb1,hsl _ _ hb2⟩).mono ?_
  ·rintro i σ5 ⟨g1,g2,g3,g4⟩
   exact⟨g1.sub htb,g3,g4⟩
  ·rintro i σ5 σ6 ⟨g1,g2,g3,g4⟩ hs
   exact⟨g1.more hs,hs _ _ g2,hs _ _ g3,hs _ _ g4⟩
  ·rintro i σ5 hil ⟨g1,g2,gb1,gb2⟩
   refine Uw hA g2 rfl (by rw[hA,hB];rfl) ?_;have hbg:=fun k fr1 σ1=>Ww (P:=Tryz.prog) (l:=l) (fr:=fr) (fr1:=fr1) (σ1:=σ1) (ps:=[81]) (n:=n') (assign:=assign) (k:=k) hB;simp only[go_sem];refine Ay fun q' hq' hqm=>?_;obtain⟨σ6,e6⟩:∃s,s=σ5.set q' (.cells T2[i].cs):=⟨_,rfl⟩;have hs6:∀y o,σ5 y=some o→σ6 y=some o:=by rw[e6];exact B7 hq' fun _ _ h=>h
   have hq6:σ6 q'=some (.cells T2[i].cs):=by rw[e6];exact Ab
   have g1':=g1.more hs6;have g2':=hs6 _ _ g2;have gb1':=hs6 _ _ gb1;have gb2':=hs6 _ _ gb2;simp only[go_sem,Ab,Ct,←e6,hbg];clear e6 hqm hq' g1 g2 gb1 gb2;refine⟨g2',?_⟩;have g3:=g1'.loop (σ':=σ6.set l (.loop fr n' [81] assign body .busy none)) g2' htl fun y hy=>Ag hy;have g4:(σ6.set l (.loop fr n' [81] assign body .busy none)) l=some (.loop fr n' [81] assign body .busy none):=Ab;have ncl:∀{y cs},σ6 y=some (.cells cs)→(σ6.set l (.loop fr n' [81] assign body .busy none)) y=some (.cells cs):=fun{y cs} hy=>by rw[Ag (fun e=>by rw[e,g2']at hy;cases hy)];exact hy
   have g5:=ncl hq6;have g6:=ncl gb1';have g7:=ncl gb2';clear ncl gb1' gb2' hq6 g1' g2' hs6;generalize σ6.set l (.loop fr n' [81] assign body .busy none)=σ7 at g3 g4 g5 g6 g7⊢;obtain⟨hd0,lv,k1,k2,k3⟩:=g3;have hld:l≠d:=fun e=>by rw[e,k1]at g4;cases g4
   have nl:¬Own lv l:=fun ho=>by obtain⟨cap,h⟩:=k2.own_rows ho;rw[g4]at h;cases h
   simp only[go_sem,Aa,f4,k1,g5];refine Ap (ys:=[T2[i].cs]) rfl (by decide) (by decide) (by decide) (k2.app (by rw[Aj,List.length_take];simp only[List.length_cons,List.length_nil];omega) fun lv' σ8 hL4 hs4=>?_);obtain⟨y6,y7⟩:=OnI.app hd0 k1 k2 k3 hL4 hs4;have m6:=hs4 _ _ g4 nl;have mb1:=(hs4 _ _ g6 (k2.not_own g6)).1;have mb2:=(hs4 _ _ g7 (k2.not_own g7)).1;simp only[go_sem,Aa,y7,f4,hL4.one,hL4.cells,X5];have g6':(σ8.set d (.cells [lv'])) l=some (.loop fr n' [81] assign body .busy none):=by rw[Ag hld];exact m6.1
   have ht:T2.take i++[T2[i]]=T2.take (i+1):=by rw[List.take_add_one,List.getElem?_eq_getElem hil];rfl
   rw[ht]at y6;have nb1:b1≠l:=fun e=>by rw[e,m6.1]at mb1;cases mb1
   have nb2:b2≠l:=fun e=>by rw[e,m6.1]at mb2;cases mb2
   exact⟨⟨_,g6'⟩,y6.loop (σ':=(σ8.set d (.cells [lv'])).set l (.loop fr n' [81] assign body .ready none)) g6' htl (fun y hy=>Ag hy),by rw[Ag nb1,Ag n1];exact mb1,by rw[Ag nb2,Ag n2];exact mb2⟩
  ·rintro _ σ5 ⟨g1,g2,g3,g4⟩
   rw[List.take_of_length_le (by omega)]at g1;have hdel:∀y,y≠l→(σ5.del l) y=σ5 y:=fun y hy=>by simp only[St.del];rw[if_neg hy]
   have g5:=g1.loop g2 htl hdel;unfold Nc;rw[g2];refine⟨(by intro h;cases h),?_⟩;unfold Sj
   dsimp only
   clear g1 g2 g3 g4 hdel hb1 hb2 hsl hI6 hl htl;generalize σ5.del l=σ7 at g5⊢;obtain⟨_,lv,k1,k2,k3⟩:=g5;have old:∀y,σ4 y=none→¬Bo x a1 y∧∀o,σ y=some o→Bo x a y:=fun y hy=>⟨fun hf=>(by obtain⟨o,ho⟩:=Gs E4 hf;rw[hy]at ho;cases ho),fun o ho=>Classical.byContradiction fun hn=>by rw[(F4 y o ho hn).1]at hy;cases hy⟩;have I7:SI σ x a p d f T2 lv σ7 a1 s2:=⟨E4.more k3.sub,F4.trans (.of k3.sub),k3.sub _ _ hp4,np,k1,(old d hd).1,.inr k2,fun y hy=>old y (k3.own hy),(old d hd).2,fun e=>by rw[e,hd]at hp4;cases hp4⟩;have hx7:=I7.ev.cx;clear k1 k2 k3 old E4 F4 hp4 hd hx4 htb;have O20:SOk (n+Cr s.rules 0*60002) (rlS s.me f T2 s.rules 0 s2):=O2.le (Nat.le_add_right _ _);have eR:(rlC s2.rules)=rlC s.rules:=by rw[r2]
   simp only[go_sem,Aa,f0,hx7,eR];refine⟨fun m fr σ'=>∃(i:Nat) (lv:AV) (a':EA) (s':ES),m=s.rules.length-i∧i≤s.rules.length∧s'=rlS s.me f T2 s.rules i s2∧SOk (n+Cr s.rules i*60002) s'∧SI σ x a p d f T2 lv σ' a' s'∧fr 0=ptr x∧fr 3=ptr p∧fr 4=ptr d∧fr 89= .sl 11 (rlC s.rules)∧fr 90=int s.rules.length∧fr 91=int i,⟨_,0,lv,a1,s2,rfl,by omega,rfl,O20,I7,f0,f3,f4,rfl,rfl,rfl⟩,?_⟩;clear I7 O20 hx7 f0 f3 f4;rintro m fr σ1 ⟨i,lv,a',s',rfl,hi,hs',hO,hI,f0,f3,f4,f89,f90,f91⟩;simp only[go_sem,f90,f91];refine aIf_by (fun hlt=>?_) (fun hlt=>?_)
   case' refine_2=>
    have ei:i=s.rules.length:=by omega
    rw[hst2 he]at hst;subst ei;simp only[go_sem,Aa];exact Ae (r:=boo true) rfl ⟨by rw[hst2 he],a',by rw[hst2 he,←hs'];exact hI.ev,hI.fr⟩
   have hil:i<s.rules.length:=by omega
   obtain⟨r,hr⟩:∃r,r=s.rules[i]:=⟨_,rfl⟩;have hr4:=hs.rs _ (List.getElem_mem hil);have hw:=hw i hil;rw[←hr]at hr4 hw;have rg:(rlC s.rules).getD i []=r.cs:=by rw[hr];exact C4 hil
   have hgr:s.rules.getD i rlZ=r:=by rw[Dk hil,hr]
   have hbo:=hr4.1.1;have hrl:=hs.rl;have hls:Cr s.rules (i+1)=Cr s.rules i+r.bo.length:=by rw[←hgr];rfl
   have hll:=Xp s.rules (show i+1≤s.rules.length by omega);simp only[go_sem,Aa,f89,f91,rg,Ci];refine⟨by omega,Ctx.nil.alloc fun y σ2 c2=>?_⟩;obtain⟨σ3,e3,c3⟩:=c2.abs 0 rfl (.cells r.cs);have hy:σ3 y=some (.cells r.cs):=c3.g0;have ny:¬Bo x a' y:=fun hf=>by
    obtain⟨o,ho⟩:=Gs hI.ev hf;have:=c2.f0;rw[ho]at this;cases this
   have nyd:y≠d:=fun e=>by
    have:=c2.f0;rw[e,hI.kd]at this;cases this
   have hI:=hI.more c3.sub;simp only[go_sem,Aa,c2.g0,e3,hy];clear e3 c3 c2;obtain⟨z,hz⟩:∃z,z=0:=⟨_,rfl⟩;have OJ:SOk (n+Cr s.rules i*60002+z*60002) s':=SOk.le hO (Nat.le_add_right _ _);refine⟨fun m fr σ'=>∃(j:Nat) (lv:AV) (a':EA) (s':ES),m=r.bo.length-j∧j≤r.bo.length∧s'=ltS s.me f T2 i r j (rlS s.me f T2 s.rules i s2)∧SOk (n+Cr s.rules i*60002+j*60002) s'∧SI σ x a p d f T2 lv σ' a' s'∧σ' y=some (.cells r.cs)∧¬Bo x a' y∧fr 0=ptr x∧fr 3=ptr p∧fr 4=ptr d∧fr 6=int i∧fr 7=ptr y∧fr 89= .sl 11 (rlC s.rules)∧fr 90=int s.rules.length∧fr 91=int i∧fr 98=int r.bo.length∧fr 99=int j,⟨_,0,lv,a',s',rfl,by omega,hs',hz▸OJ,hI,hy,ny,f0,f3,f4,rfl,rfl,f89,f90,f91,rfl,rfl⟩,?_⟩;clear hI OJ hO hs' hz f0 f3 f4 f89 f90 f91 hy ny;rintro m fr σ1 ⟨j,lv,a',s',rfl,hj,hs',hO,hI,hy,ny,f0,f3,f4,f6,f7,f89,f90,f91,f98,f99⟩;simp only[go_sem,f98,f99];refine aIf_by (fun hlt=>?_) (fun hlt=>?_)
   case' refine_2=>
    have ej:j=r.bo.length:=by omega
    have O':SOk (n+Cr s.rules (i+1)*60002) s':=hO.le (by omega);have es':s'=rlS s.me f T2 s.rules (i+1) s2:=by rw[Iv,hgr,hs',ej]
    simp only[go_sem,Aa,f91,As i (by omega)];refine⟨s.rules.length-(i+1),by omega,i+1,lv,a',s',rfl,by omega,es',O',hI,f0,f3,f4,f89,f90,rfl⟩
   have hjl:j<r.bo.length:=by omega
   have hw:=hw j hjl;obtain⟨σ2,hsv,hvw,I2,hk⟩:=hI.let;have hx1:=hI.ev.cx;have kp1:=hI.kp;have kd1:=hI.kd;have K':SK s2 s':=by rw[hs'];exact(Iu _ _ _ _ _ _).trans (Pe _ _ _ _ _ _ _)
   have me':s'.me=s.me:=K'.me.trans m2;have rl':s'.rules=s.rules:=K'.rules.trans r2;simp only[go_sem,Aa,f99];refine Af [.rd 0 true,.rd 1 false,.rd 2 false,.rd 3 false,.rd 4 true,.rd 5 false,.rd 6 true,.rd 7 true,.rd 10 false,.ef 8 [],.rd 9 false] ?_;simp only[go_sem,Aa,f0,f3,f4,f7,hy,hx1,kp1,kd1];refine AT.pre (args':=[.agg r.cs,str s'.me,int j,.agg f.cs,.sl 4 (faC T2)]) ((Ti r s'.me j f T2 hr4.1 hfs pT.len pT.sm (by rw[me'];omega)).mono ?_) (by kernel_rfl) hsv (vws_same (vws_same (vws_same (vws_same (vws_cons hvw By)))));rintro _ σ3 ⟨rfl,rfl⟩;rw[me'];have hbl:(Ea r s.me j f T2).length≤30001:=Nat.le_trans Bn (by simp only[List.length_nil];omega);have hbm:∀b∈Ea r s.me j f T2,b.length=r.bo.length∧∀y∈b,y.Sm:=fun b hb=>Wx hfs pT.sm hb;have hy2:=hk y _ nyd hy;obtain⟨L,hL⟩:∃L,L=Ea r s.me j f T2:=⟨_,rfl⟩;rw[←hL]at hbl hbm⊢;have bcl:(boC L).length=L.length:=by simp[boC]
   clear hsv hvw hk hI hx1 kp1 kd1 hy;simp only[go_sem,Aa,bcl];obtain⟨z,hz⟩:∃z,z=0:=⟨_,rfl⟩;have OK0:SOk (n+Cr s.rules i*60002+j*60002+2*z) s':=SOk.le hO (Nat.le_add_right _ _);refine⟨fun m fr σ'=>∃(k:Nat) (a':EA) (s':ES),m=L.length-k∧k≤L.length∧s'=bdS i (L.take k) (ltS s.me f T2 i r j (rlS s.me f T2 s.rules i s2))∧SOk (n+Cr s.rules i*60002+j*60002+2*k) s'∧SI σ x a p d f T2 (.sl 4 (faC T2)) σ' a' s'∧σ' y=some (.cells r.cs)∧¬Bo x a' y∧fr 0=ptr x∧fr 3=ptr p∧fr 4=ptr d∧fr 6=int i∧fr 7=ptr y∧fr 89= .sl 11 (rlC s.rules)∧fr 90=int s.rules.length∧fr 91=int i∧fr 98=int r.bo.length∧fr 99=int j∧fr 110= .sl 1 (boC L)∧fr 111=int L.length∧fr 112=int k,⟨_,0,a',s',rfl,by omega,hs',hz▸OK0,I2,hy2,ny,f0,f3,f4,f6,f7,f89,f90,f91,f98,f99,rfl,rfl,rfl⟩,?_⟩;clear I2 OK0 hO hs' hz hy2 ny f0 f3 f4 f6 f7 f89 f90 f91 f98 f99 K' me' rl';rintro m fr σ1 ⟨k,a',s',rfl,hk,hs',hO,hI,hy,ny,f0,f3,f4,f6,f7,f89,f90,f91,f98,f99,f110,f111,f112⟩;simp only[go_sem,f111,f112];refine aIf_by (fun hlt=>?_) (fun hlt=>?_)
   case' refine_2=>
    have ek:k=L.length:=by omega
    have O':SOk (n+Cr s.rules i*60002+(j+1)*60002) s':=hO.le (by omega);have es':s'=ltS s.me f T2 i r (j+1) (rlS s.me f T2 s.rules i s2):=by rw[Il,hs',ek,List.take_length,hL]
    simp only[go_sem,Aa,f99,As j (by omega)];refine⟨r.bo.length-(j+1),by omega,j+1,.sl 4 (faC T2),a',s',rfl,by omega,es',O',hI,hy,ny,f0,f3,f4,f6,f7,f89,f90,f91,f98,rfl⟩
   have hkl:k<L.length:=by omega
   have K':SK s2 s':=by rw[hs'];exact((Iu _ _ _ _ _ _).trans (Pe _ _ _ _ _ _ _)).trans (Gb _ _ _)
   have rl':s'.rules=s.rules:=K'.rules.trans r2;have hb:=hbm _ (List.getElem_mem hkl);have hil':i<s'.rules.length:=by rw[rl'];exact hil
   have hri:s'.rules[i]=r:=by rw[hr];exact List.getElem_of_eq rl' hil'
   have O':SOk (n+Cr s.rules i*60002+j*60002+2*(k+1)) (Dt s' i L[k]):=Tn hO i (by omega) hb.2;have es':Dt s' i L[k]=bdS i (L.take (k+1)) (ltS s.me f T2 i r j (rlS s.me f T2 s.rules i s2)):=by rw[N6 _ hkl,hs']
   simp only[go_sem,Aa,f0,f6,f110,f112,Db hkl,bcl];refine⟨by omega,(Z6 hI.ev hO (by omega) i hil' L[k] (by rw[hri];exact hb.1) hb.2).mono ?_⟩;rintro _ σ2 ⟨a2,E2,G2⟩;have ky:=G2 _ _ hy ny;simp only[go_sem,Aa,f112,As k (by omega)];refine⟨L.length-(k+1),by omega,k+1,a2,_,rfl,by omega,es',O',hI.go E2 G2,ky.1,ky.2,f0,f3,f4,f6,f7,f89,f90,f91,f98,f99,f110,f111,rfl⟩
end
def K0(l:List Rl):Prop:=∃r∈l,∃y∈r.bo,y.at'≠.zero
def Lj(me:ByteArray)(names:List ByteArray)(lim:Int)(rules:List Rl):ES:=⟨me,names,rules,[],lim,[],[],[],[],false⟩
def faZ:Fa:=⟨emp,emp,emp,[]⟩
def Rc(me:ByteArray)(rules:List Rl)(k:Nat)(s:ES):ES:=(List.range k).foldl (fun s i=>if(rules.getD i rlZ).bo.length=0 then bdS i (Ea (rules.getD i rlZ) me (-1) faZ []) s else s) s
def Ch(me:ByteArray)(names:List ByteArray)(lim:Int)(rules:List Rl):ES:=Rc me rules rules.length (Lj me names lim rules)
theorem Hb{me:ByteArray}{rules:List Rl}{k:Nat}{s:ES}:Rc me rules (k+1) s=if(rules.getD k rlZ).bo.length=0 then bdS k (Ea (rules.getD k rlZ) me (-1) faZ []) (Rc me rules k s)else Rc me rules k s:=by
 unfold Rc;rw[List.range_succ,List.foldl_append];rfl
theorem Ep(me:ByteArray)(rules:List Rl)(s:ES):∀k,SK s (Rc me rules k s)
 |0=>.refl s
 |k+1=>by
  rw[Hb];split
  ·exact(Ep me rules s k).trans (Gb _ _ _)
  ·exact Ep me rules s k
theorem Z4{r:Rl}{me:ByteArray}{j:Int}{f:Fa}{T:List Fa}(h:r.bo.length=0):(Je r me j f T).length≤1:=by
 unfold Je;split
 ·have e:Ht r j=[]:=by
   have h1:=Kp r j;have h2:Perm r.bo.length (Ht r j):=(Pm r j).1;rw[h]at h2;cases ho:Ht r j with
   |nil=>rfl
   |cons k l=>
    have:=h2.2 k (by rw[ho];simp);omega
  rw[e];show(Ce r.ho r.bo (Ca j f T) [] _ _).length≤1;rw[Ce];simp
 ·simp
theorem Lk{n:Nat}{me:ByteArray}{names:List ByteArray}{lim:Int}{rules:List Rl}(h1:1≤lim)(h2:lim≤4096)(hr:∀r∈rules,r.S4)(hl:rules.length≤1000000)(hn:names.length≤1000000):SOk n (Lj me names lim rules) where
 tok:=⟨.nil,Nat.zero_le _,(fun f hf=>by cases hf),(by show lim≠0;omega)⟩
 tl:=by show((0:Nat):Int)≤lim;omega
 lm:=h2
 br:=.nil
 bo:=Nat.zero_le _
 bs:=fun d hd=>by cases hd
 ql:=Nat.zero_le _
 qs:=fun d hd=>by cases hd
 os:=fun d hd=>by cases hd
 gr:=.nil
 gl:=Nat.zero_le _
 gs:=fun d hd=>by cases hd
 rs:=hr
 rl:=hl
 nl:=hn
theorem Ux{n:Nat}{me:ByteArray}{rules:List Rl}{s:ES}(h:SOk n s):∀k,SOk (n+2*k) (Rc me rules k s)
 |0=>h
 |k+1=>by
  have ih:=Ux (me:=me) (rules:=rules) h k;rw[Hb];split
  ·rename_i h0
   have h1:=Z4 (me:=me) (j:= -1) (f:=faZ) (T:=[]) h0;have h2:(Ea (rules.getD k rlZ) me (-1) faZ []).length≤1:=Nat.le_trans Bn (by simp only[List.length_nil];omega)
   exact(Qd k (m:=0) (by omega) _ _ ih fun b hb=>by
    have:=Wx (by show([]:List Cn).length≤_;simp) (fun y hy=>by cases hy) hb;rw[h0]at this;exact this).le (by omega)
  ·exact ih.le (by omega)
section
variable{σ:St}
theorem Xc(me:ByteArray)(names:List ByteArray)(lim:Int)(rules:List Rl)(hn:names.length≤1000000)(hl:rules.length≤1000000)(hr:∀r∈rules,r.S4):
  AT Tryz.prog 15 [str me,.sl 1 (stC names),int lim,.sl 11 (rlC rules)] σ fun v σ'=>
   (v= .tup [.v (.pointer none),int 2]∧(me∉names∨K0 rules∨¬(1≤lim∧lim≤4096))∧∀y o,σ y=some o→σ' y=some o)∨
   (me∈names∧¬K0 rules∧1≤lim∧lim≤4096∧∃x a,v= .tup [ptr x,int 0]∧EV false σ' x a (Ch me names lim rules) false∧∀y o,σ y=some o→σ' y=some o∧¬Bo x a y):=by
 refine AT.ob Tryz.func15 rfl ?_;have no:(me∉names∨K0 rules∨¬(1≤lim∧lim≤4096))→∀{fr:Fr} {σ':St},(∀y o,σ y=some o→σ' y=some o)→A9 Tryz.prog fr σ' (Tryz.f15).results.toList=some (.tup [.v (.pointer none),int 2])→Dw Tryz.prog (fun v σ'=>(v= .tup [.v (.pointer none),int 2]∧(me∉names∨K0 rules∨¬(1≤lim∧lim≤4096))∧∀y o,σ y=some o→σ' y=some o)∨(me∈names∧¬K0 rules∧1≤lim∧lim≤4096∧∃x a,v= .tup [ptr x,int 0]∧EV false σ' x a (Ch me names lim rules) false∧∀y o,σ y=some o→σ' y=some o∧¬Bo x a y)) (Tryz.f15).results.toList fr σ':=fun h _ _ hs hr=>
  Ae hr (.inl ⟨rfl,h,hs⟩)
 simp only[go_sem];refine(Acl (l:=names) (s:=me) (by omega) .sl).p ?_;by_cases hnm:me∈names
 case neg=>
  simp only[go_sem,decide_eq_false hnm,Bool.not_false];exact no (.inl hnm) (fun _ _ h=>h) rfl
 simp only[go_sem,decide_eq_true hnm,Bool.not_true,Ci];refine⟨fun m fr σ'=>∃i:Nat,m=rules.length-i∧i≤rules.length∧(∀k (hk:k<rules.length),k<i→∀y∈rules[k].bo,y.at'= .zero)∧(∀y o,σ y=some o→σ' y=some o)∧fr 0=str me∧fr 1= .sl 1 (stC names)∧fr 2=int lim∧fr 3= .sl 11 (rlC rules)∧fr 25= .sl 11 (rlC rules)∧fr 26=int rules.length∧fr 27=int i,⟨_,0,rfl,by omega,fun k hk h=>by omega,fun _ _ h=>h,rfl,rfl,rfl,rfl,rfl,rfl,rfl⟩,?_⟩;rintro m fr σ1 ⟨i,rfl,hi,hz,hsb,f0,f1,f2,f3,f25,f26,f27⟩;simp only[go_sem,f26,f27];refine aIf_by (fun hlt=>?_) (fun hlt=>?_)
 case' refine_1=>
  have hil:i<rules.length:=by omega
  obtain⟨r,hrr⟩:∃r,r=rules[i]:=⟨_,rfl⟩;have hr4:=hr _ (List.getElem_mem hil);rw[←hrr]at hr4;have rg:(rlC rules).getD i []=r.cs:=by rw[hrr];exact C4 hil
  have h1:=hr4.1.1;simp only[go_sem,Aa,f25,f27,rg,Ci];refine⟨by omega,Ctx.nil.alloc fun p σ2 c2=>?_⟩;obtain⟨σ3,e3,c3⟩:=c2.abs 0 rfl (.cells r.cs);have hp:σ3 p=some (.cells r.cs):=c3.g0;have hs3:∀y o,σ y=some o→σ3 y=some o:=fun y o hy=>c3.sub _ _ (hsb y o hy);have lcl:=D7 r.bo;simp only[go_sem,Aa,c2.g0,e3,hp,lcl];clear e3 c3 c2 hsb;refine⟨fun m fr σ'=>∃j:Nat,m=r.bo.length-j∧j≤r.bo.length∧(∀k (hk:k<r.bo.length),k<j→r.bo[k].at'= .zero)∧(∀y o,σ y=some o→σ' y=some o)∧fr 0=str me∧fr 1= .sl 1 (stC names)∧fr 2=int lim∧fr 3= .sl 11 (rlC rules)∧fr 25= .sl 11 (rlC rules)∧fr 26=int rules.length∧fr 27=int i∧fr 32= .sl 10 (liC r.bo)∧fr 33=int r.bo.length∧fr 34=int j,⟨_,0,rfl,by omega,fun k hk h=>by omega,hs3,f0,f1,f2,f3,f25,f26,f27,rfl,rfl,rfl⟩,?_⟩;clear f0 f1 f2 f3 f25 f26 f27 hs3 hp;rintro m fr σ1 ⟨j,rfl,hj,hz2,hsb,f0,f1,f2,f3,f25,f26,f27,f32,f33,f34⟩;simp only[go_sem,f33,f34];refine aIf_by (fun hlt=>?_) (fun hlt=>?_)
  ·have hjl:j<r.bo.length:=by omega
   simp only[go_sem,Aa,f32,f34,D6 hjl,lcl];refine⟨by omega,Ctx.nil.alloc fun q σ2 c2=>?_⟩;obtain⟨σ3,e3,c3⟩:=c2.abs 0 rfl (.cells r.bo[j].cs);have hq:σ3 q=some (.cells r.bo[j].cs):=c3.g0;have hs3:∀y o,σ y=some o→σ3 y=some o:=fun y o hy=>c3.sub _ _ (hsb y o hy);simp only[go_sem,Aa,c2.g0,e3,hq];clear e3 c3 c2 hsb hq;refine Al4 ?_;by_cases hat:r.bo[j].at'= .zero
   ·simp only[go_sem,Aa,decide_eq_true hat,f34,As j (by omega)]
    refine⟨r.bo.length-(j+1),by omega,j+1,rfl,by omega,fun k hk hkj=>?_,hs3,f0,f1,f2,f3,f25,f26,f27,f32,f33,rfl⟩;by_cases e:k=j
    ·subst e;exact hat
    ·exact hz2 k hk (by omega)
   ·simp only[go_sem,Aa,decide_eq_false hat]
    refine no (.inr (.inl ⟨r,by rw[hrr];exact List.getElem_mem hil,_,List.getElem_mem hjl,hat⟩)) hs3 rfl
  ·simp only[go_sem,Aa,f27,As i (by omega)]
   refine⟨rules.length-(i+1),by omega,i+1,rfl,by omega,fun k hk hki=>?_,hsb,f0,f1,f2,f3,f25,f26,rfl⟩;by_cases e:k=i
   ·subst e
    intro y hy;rw[←hrr]at hy;obtain⟨q,hq,e⟩:=List.mem_iff_getElem.1 hy;rw[←e];exact hz2 q hq (by omega)
   ·exact hz k hk (by omega)
 have hgood:¬K0 rules:=fun⟨r,hm,y,hy,hne⟩=>by
  obtain⟨k,hk,e⟩:=List.mem_iff_getElem.1 hm;exact hne (hz k hk (by omega) y (by rw[e];exact hy))
 clear hz;simp only[go_sem,Aa,f2];refine(Ap5 lim).mono ?_;intro v σ2 htn;by_cases hlim:1≤lim∧lim≤4096
 case neg=>
  rw[if_neg hlim]at htn;obtain⟨rfl,rfl⟩:=htn;simp only[go_sem,Aa];exact no (.inr (.inr hlim)) hsb rfl
 rw[if_pos hlim]at htn;obtain⟨t,ft,rfl,rfl⟩:=htn;obtain⟨σ2,e2⟩:∃s,s=σ1.set t (tbC [] lim):=⟨_,rfl⟩;have ht2:σ2 t=some (tbC [] lim):=by rw[e2];exact Ab
 have hs2:∀y o,σ1 y=some o→σ2 y=some o:=by rw[e2];exact B7 ft fun _ _ h=>h
 rw[←e2];clear e2;simp only[go_sem,Aa,f0,f1,f3];refine(Abz names (by omega)).p ?_;simp only[go_sem,Aa,f0,f1,f3];refine(An3 rules hl hr).p ?_;simp only[go_sem,Aa,f0,f1,f3];refine Ams.mono ?_;rintro _ _ ⟨b,fb,rfl,rfl⟩;obtain⟨σ3,e3⟩:∃s,s=σ2.set b (bkC []):=⟨_,rfl⟩;have hb3:σ3 b=some (bkC []):=by rw[e3];exact Ab
 have hs3:∀y o,σ2 y=some o→σ3 y=some o:=by rw[e3];exact B7 fb fun _ _ h=>h
 rw[←e3];clear e3;simp only[go_sem,Aa,f0];refine Ay fun x hx hxm=>?_;clear hxm;obtain⟨a0,ha0⟩:∃a0:EA,a0=⟨t,b,A4,A4,A4⟩:=⟨_,rfl⟩;obtain⟨s0,hs0⟩:∃s0,s0=Lj me names lim rules:=⟨_,rfl⟩;have O0:SOk 0 s0:=by rw[hs0];exact Lk hlim.1 hlim.2 hr hl hn
 have hcells:([.v (.string me),.sl 1 (stC names),.sl 11 (rlC rules),.v (.pointer (some ⟨t,0,none⟩)),.v (.pointer (some ⟨b,0,none⟩)),.v (.slice none 0 0),.v (.slice none 0 0),.v (.slice none 0 0),.v (.bool false)]:List AV)=evC false s0 a0 false:=by rw[hs0,ha0];rfl
 rw[hcells];have ht3:=hs3 _ _ ht2;have nxt:x≠t:=fun e=>by rw[e,ht3]at hx;cases hx
 have nxb:x≠b:=fun e=>by rw[e,hb3]at hx;cases hx
 have ntb:t≠b:=fun e=>by rw[←e,ht2]at fb;cases fb
 have nq0:∀y,¬Own a0.gv y∧¬Jd a0.qv y∧¬Own a0.ov y:=fun y=>by rw[ha0];exact⟨B4,T4,B4⟩
 have at0:a0.t=t:=by rw[ha0]
 have ab0:a0.b=b:=by rw[ha0]
 have E4:EV false (σ3.set x (.cells (evC false s0 a0 false))) x a0 s0 false:=⟨Ab,by rw[at0,Ag nxt.symm,ht3,hs0];rfl,by rw[ab0,Ag nxb.symm,hb3,hs0];rfl,by rw[if_neg (by decide),ha0,hs0];exact .none,by rw[ha0,hs0];exact .nil,by rw[ha0,hs0];exact .none,by rw[at0];exact nxt,by rw[ab0];exact nxb,by rw[at0,ab0];exact ntb,fun y ho=>absurd ho (nq0 y).1⟩;have F4:∀y o,σ y=some o→(σ3.set x (.cells (evC false s0 a0 false))) y=some o∧¬Bo x a0 y:=fun y o hy=>by
  have y1:=hsb y o hy;have y3:=hs3 _ _ (hs2 _ _ y1);have nyx:y≠x:=fun e=>by rw[e,hx]at y3;cases y3
  refine⟨by rw[Ag nyx];exact y3,fun hf=>?_⟩;rcases hf with e|e|e|e|e|e
  ·exact nyx e
  ·rw[e,at0,ft]at y1;cases y1
  ·have y2:=hs2 _ _ y1
   rw[e,ab0,fb]at y2;cases y2
  ·exact(nq0 y).1 e
  ·exact(nq0 y).2.1 e
  ·exact(nq0 y).2.2 e
 have m0:s0.me=me:=by rw[hs0];rfl
 have r0:s0.rules=rules:=by rw[hs0];rfl
 generalize σ3.set x (.cells (evC false s0 a0 false))=σ4 at E4 F4⊢;clear hx nxt nxb ntb nq0 at0 ab0 ht3 hb3 hs3 fb ht2 hs2 ft hsb hcells;have hx4:=E4.cx;simp only[go_sem,Aa,hx4,r0,Ci];refine⟨fun m fr σ'=>∃(i:Nat) (a':EA) (s':ES),m=rules.length-i∧i≤rules.length∧s'=Rc me rules i s0∧SOk (2*i) s'∧EV false σ' x a' s' false∧(∀y o,σ y=some o→σ' y=some o∧¬Bo x a' y)∧fr 0=str me∧fr 16=ptr x∧fr 64= .sl 11 (rlC rules)∧fr 65=int rules.length∧fr 66=int i,⟨_,0,a0,s0,rfl,by omega,rfl,O0,E4,F4,f0,rfl,rfl,rfl,rfl⟩,?_⟩;clear E4 F4 f0 f1 f2 f3 f25 f26 f27 hx4 O0;rintro m fr σ1 ⟨i,a',s',rfl,hi,hs',hO,hE,hF,f0,f16,f64,f65,f66⟩;simp only[go_sem,f65,f66];refine aIf_by (fun hlt=>?_) (fun hlt=>?_)
 case' refine_2=>
  have ei:i=rules.length:=by omega
  rw[ei]at hs';simp only[go_sem,Aa,f16];exact Ae (r:=.tup [ptr x,int 0]) rfl (.inr ⟨hnm,hgood,hlim.1,hlim.2,x,a',rfl,by rw[show Ch me names lim rules=s' by rw[hs',hs0];rfl];exact hE,hF⟩)
 have hil:i<rules.length:=by omega
 obtain⟨r,hrr⟩:∃r,r=rules[i]:=⟨_,rfl⟩;have hr4:=hr _ (List.getElem_mem hil);rw[←hrr]at hr4;have rg:(rlC rules).getD i []=r.cs:=by rw[hrr];exact C4 hil
 have hgr:rules.getD i rlZ=r:=by rw[Dk hil,hrr]
 have K':SK s0 s':=by rw[hs'];exact Ep _ _ _ _
 have lcl:=D7 r.bo;have nx:=As i (by omega);simp only[go_sem,Aa,f64,f66,rg,Ci];refine⟨by omega,Ctx.nil.alloc fun p σ2 c2=>?_⟩;obtain⟨σ3,e3,c3⟩:=c2.abs 0 rfl (.cells r.cs);have hp:σ3 p=some (.cells r.cs):=c3.g0;have np:¬Bo x a' p:=fun hf=>by
  obtain⟨o,ho⟩:=Gs hE hf;have:=c2.f0;rw[ho]at this;cases this
 have hE:=hE.more c3.sub;have hF:∀y o,σ y=some o→σ3 y=some o∧¬Bo x a' y:=fun y o hy=>⟨c3.sub _ _ (hF y o hy).1,(hF y o hy).2⟩;simp only[go_sem,Aa,c2.g0,e3,hp,lcl];clear e3 c3 c2;have es:=Hb (me:=me) (rules:=rules) (k:=i) (s:=s0);rw[hgr,←hs']at es;by_cases hbo:r.bo.length=0
 case neg=>
  rw[if_neg hbo]at es;have d1:=decide_eq_false (show¬(r.bo.length:Int)=0 by omega);simp only[go_sem,Aa,d1,f66,nx];exact⟨rules.length-(i+1),by omega,i+1,a',s',rfl,by omega,es.symm,hO.le (by omega),hE,hF,f0,f16,f64,f65,rfl⟩
 rw[if_pos hbo]at es;have d1:=decide_eq_true (show(r.bo.length:Int)=0 by omega);simp only[go_sem,Aa,d1,f0,hp];have hz1:=Z4 (me:=me) (j:= -1) (f:=faZ) (T:=[]) hbo;have zsm:faZ.Sm:=by show([]:List Cn).length≤_;simp
 refine(AT.weak (args:=[.agg r.cs,str me,int (-1),.agg [str emp,str emp,str emp,A4],A4]) (Ti r me (-1) faZ [] hr4.1 zsm (by simp) (fun y hy=>by cases hy) (by omega)) (vws_same (vws_same (vws_same (vws_cons (.agg [str emp,str emp,str emp,A4] faZ.cs rfl (show VWs σ3 σ3 [str emp,str emp,str emp,A4] faZ.cs from vws_same (vws_same (vws_same (vws_cons (.nil 3) By)))).2) (vws_cons (.nil 4) By)))))).p ?_;have hbm:∀b∈Ea r me (-1) faZ [],b.length=r.bo.length∧∀y∈b,y.Sm:=fun b hb=>Wx zsm (fun y hy=>by cases hy) hb;have hbl:(Ea r me (-1) faZ []).length≤1:=Nat.le_trans Bn (by simp only[List.length_nil];omega);obtain⟨L,hL⟩:∃L,L=Ea r me (-1) faZ []:=⟨_,rfl⟩;rw[←hL]at hbm hbl es⊢;have bcl:(boC L).length=L.length:=by simp[boC]
 have OK0:SOk (2*i+2*0) s':=hO.le (by omega);simp only[go_sem,Aa,bcl];refine⟨fun m fr σ'=>∃(k:Nat) (a':EA) (s2:ES),m=L.length-k∧k≤L.length∧s2=bdS i (L.take k) s'∧SOk (2*i+2*k) s2∧EV false σ' x a' s2 false∧(∀y o,σ y=some o→σ' y=some o∧¬Bo x a' y)∧fr 0=str me∧fr 16=ptr x∧fr 17=int i∧fr 64= .sl 11 (rlC rules)∧fr 65=int rules.length∧fr 66=int i∧fr 78= .sl 1 (boC L)∧fr 79=int L.length∧fr 80=int k,⟨_,0,a',s',rfl,by omega,rfl,OK0,hE,hF,f0,f16,rfl,f64,f65,f66,rfl,rfl,rfl⟩,?_⟩;clear OK0 hE hF f0 f16 f64 f65 f66 hp np;rintro m fr σ2 ⟨k,a2,s2,rfl,hk,hs2,hO2,hE,hF,f0,f16,f17,f64,f65,f66,f78,f79,f80⟩;simp only[go_sem,f79,f80];refine aIf_by (fun hlt=>?_) (fun hlt=>?_)
 case' refine_2=>
  have ek:k=L.length:=by omega
  rw[ek,List.take_length,←es]at hs2;simp only[go_sem,Aa,f66,nx];exact⟨rules.length-(i+1),by omega,i+1,a2,s2,rfl,by omega,hs2,hO2.le (by omega),hE,hF,f0,f16,f64,f65,rfl⟩
 have hkl:k<L.length:=by omega
 have hb:=hbm _ (List.getElem_mem hkl);have K2:SK s0 s2:=by rw[hs2];exact K'.trans (Gb _ _ _)
 have rl2:s2.rules=rules:=K2.rules.trans r0;have hil2:i<s2.rules.length:=by rw[rl2];exact hil
 have hri:s2.rules[i]=r:=by rw[hrr];exact List.getElem_of_eq rl2 hil2
 simp only[go_sem,Aa,f16,f17,f78,f80,Db hkl,bcl];refine⟨by omega,(Z6 hE hO2 (by omega) i hil2 L[k] (by rw[hri];exact hb.1) hb.2).mono ?_⟩;rintro _ σ3 ⟨a3,E3,G3⟩;have O3:SOk (2*i+2*(k+1)) (Dt s2 i L[k]):=Tn hO2 i (by omega) hb.2;simp only[go_sem,Aa,f80,As k (by omega)];exact⟨L.length-(k+1),by omega,k+1,a3,_,rfl,by omega,by rw[N6 _ hkl,hs2],O3,E3,fun y o hy=>G3 y o (hF y o hy).1 (hF y o hy).2,f0,f16,f17,f64,f65,f66,f78,f79,rfl⟩
end
structure Inv(s:ES):Prop where
 good:¬K0 s.rules
 gme:∀f∈s.given,f.at'=s.me∧okF f=true
 tme:∀f∈s.T,f.at'=s.me
 B:∀d,d∈s.B↔Der s.me s.names s.rules d∧∀y∈d.bo,y∈s.T
 q:∀f,f∉s.T→(f∈s.given∨f.at'=s.me∧∃d∈s.B,d.hd=f)→f∈s.queue
 qme:∀f∈s.queue,f.at'=s.me∧okF f=true
 fnd:∀f∈s.T,LM s.me s.names s.rules s.given f
theorem Aj7{s:ES}(h:Inv s)(f:Fa):Inv (Dp s f).2:=by
 unfold Dp;split
 ·rename_i hok
  split
  ·rename_i ha
   split
   ·exact h
   ·have hm:∀x,x∈Aw Ai [] (s.given++[f])↔x∈s.given∨x=f:=fun x=>by rw[Ar Ah];simp
    refine⟨h.good,fun x hx=>?_,h.tme,h.B,fun x hn hx=>?_,fun x hx=>?_,fun x hx=>(h.fnd x hx).mono fun y hy=>(hm y).2 (.inl hy)⟩
    ·rcases(hm x).1 hx with hx|rfl
     ·exact h.gme x hx
     ·exact⟨ha,hok⟩
    ·show x∈s.queue++[f]
     rcases hx with hx|hx
     ·rcases(hm x).1 hx with hx|rfl
      ·exact List.mem_append_left _ (h.q x hn (.inl hx))
      ·exact List.mem_append_right _ (by simp)
     ·exact List.mem_append_left _ (h.q x hn (.inr hx))
    ·rcases List.mem_append.1 hx with hx|hx
     ·exact h.qme x hx
     ·rw[List.mem_singleton.1 hx];exact⟨ha,hok⟩
  ·exact h
 ·exact h
theorem Afj{B:List De}{f:Fa}:(ofF B f).length≠0↔∃d∈B,d.hd=f:=by
 rw[ne_eq,List.length_eq_zero_iff];unfold ofF;rw[List.filter_eq_nil_iff];simp
theorem Ao0{s:ES}(h:Inv s)(hl:(s.T.length:Int)<s.lim∨(A5 s).2.full=false)(hfu:s.full=false):Inv (A5 s).2∧(A5 s).2.full=false:=by
 unfold A5 at hl⊢;rw[if_neg (by rw[hfu];decide)]at hl⊢;cases hq:s.queue with
 |nil=>exact⟨h,hfu⟩
 |cons f q=>
  rw[hq]at hl;simp only at hl⊢;have hf:=h.qme f (by rw[hq];simp);have qm:∀x,x∈s.queue→x≠f→x∈q:=fun x hx hne=>by
   rw[hq]at hx;exact(List.mem_cons.1 hx).resolve_left hne
  have qs:∀x∈q,x∈s.queue:=fun x hx=>by rw[hq];exact List.mem_cons_of_mem _ hx
  by_cases hsk:f∈s.T∨(f∉s.given∧(ofF s.B f).length=0)
  ·rw[if_pos hsk]at hl⊢
   refine⟨⟨h.good,h.gme,h.tme,h.B,fun x hn hx=>qm x (h.q x hn hx) fun e=>?_,fun x hx=>h.qme x (qs x hx),h.fnd⟩,hfu⟩;subst e;rcases hsk with k|⟨k1,k2⟩
   ·exact hn k
   ·rcases hx with hx|⟨_,hx⟩
    ·exact k1 hx
    ·exact Afj.2 hx k2
  ·rw[if_neg hsk]at hl⊢
   have hfT:f∉s.T:=fun e=>hsk (.inl e);by_cases hp:(Bs s.T s.lim f).2=0
   case neg=>
    rw[if_neg hp]at hl⊢;rcases hl with hl|hl
    ·exfalso
     apply hp;unfold Bs;rw[if_pos hf.2,if_neg hfT,if_neg (by omega)]
    ·cases hl
   rw[if_pos hp]at hl⊢;have eT:(Bs s.T s.lim f).1=A1 Ai f s.T:=by
    unfold Bs at hp⊢;rw[if_pos hf.2,if_neg hfT]at hp⊢;split at hp
    ·simp at hp
    ·rename_i hh;rw[if_neg hh]
   rw[eT]at hl⊢;have hT:∀x,x∈A1 Ai f s.T↔x=f∨x∈s.T:=fun x=>Cs Ah;obtain⟨s1,e1⟩:∃s1:ES,s1={s with queue:=q,T:=A1 Ai f s.T}:=⟨_,rfl⟩;have F:=Afy (me:=s.me) (f:=f) (T:=A1 Ai f s.T) (rules:=s.rules) (s:=s1) (by rw[e1]) s.rules.length (Nat.le_refl _);rw[←e1]at hl⊢;generalize rlS s.me f (A1 Ai f s.T) s.rules s.rules.length s1=s2 at F hl⊢;have m1:s1.me=s.me:=by rw[e1]
   have n1:s1.names=s.names:=by rw[e1]
   have r1:s1.rules=s.rules:=by rw[e1]
   have T1:s1.T=A1 Ai f s.T:=by rw[e1]
   have g1:s1.given=s.given:=by rw[e1]
   have q1:s1.queue=q:=by rw[e1]
   have B1:s1.B=s.B:=by rw[e1]
   have f1:s1.full=false:=by rw[e1];exact hfu
   have hLM:LM s.me s.names s.rules s.given f:=by
    rcases Classical.em (f∈s.given)with hg|hg
    ·exact .base hg
    ·have:(ofF s.B f).length≠0:=fun e=>hsk (.inr ⟨hg,e⟩)
     obtain⟨d,hd,rfl⟩:=Afj.1 this;obtain⟨k1,k2⟩:=(h.B d).1 hd;exact .step k1 fun y hy=>h.fnd y (k2 y hy)
   have hB2:∀d,d∈s2.B↔Der s.me s.names s.rules d∧∀y∈d.bo,y∈A1 Ai f s.T:=fun d=>by
    rw[F.B,B1,m1,n1,r1,h.B];constructor
    ·rintro(⟨k1,k2⟩|⟨k1,i,e,hi,j,hj,hb⟩)
     ·exact⟨k1,fun y hy=>(hT y).2 (.inr (k2 y hy))⟩
     ·refine⟨k1,fun y hy=>?_⟩
      obtain⟨_,_,_,hc⟩:=Xq.1 hb;obtain⟨n,hn,rfl⟩:=List.mem_iff_getElem.1 hy;have:=hc n hn;unfold Ca at this;split at this
      ·rw[List.mem_singleton.1 this];exact(hT f).2 (.inl rfl)
      ·exact this
    ·rintro⟨k1,k2⟩
     by_cases ho:∀y∈d.bo,y∈s.T
     ·exact .inl ⟨k1,ho⟩
     ·obtain⟨y,hy⟩:=Classical.not_forall.1 ho
      obtain⟨hy,hyn⟩:=Classical.not_imp.1 hy;have hyf:y=f:=((hT y).1 (k2 y hy)).resolve_right hyn;subst hyf;obtain⟨n,hn,e⟩:=List.mem_iff_getElem.1 hy;have kk:=k1;obtain⟨i,hi,e1,e2,_⟩:=kk;have hln:=Ae3 e2;refine .inr ⟨k1,i,e1,hi,n,by rw[Dk hi];omega,?_⟩;rw[Dk hi];refine Aal e2 fun m hm=>?_;unfold Ca;split
      ·rename_i hc
       have:m=n:=by omega
       subst this;rw[e];simp
      ·exact k2 _ (List.getElem_mem hm)
   refine⟨⟨by rw[F.sk.rules,r1];exact h.good,by rw[F.sk.given,g1,F.sk.me,m1];exact h.gme,?_,?_,?_,?_,?_⟩,by rw[F.sk.full];exact f1⟩
   ·rw[F.sk.T,T1,F.sk.me,m1]
    intro x hx;rcases(hT x).1 hx with rfl|hx
    ·exact hf.1
    ·exact h.tme x hx
   ·intro d
    rw[hB2,F.sk.me,m1,F.sk.names,n1,F.sk.rules,r1,F.sk.T,T1]
   ·intro x hn hx
    rw[F.sk.T,T1]at hn;rw[F.sk.given,g1,F.sk.me,m1]at hx;have hxf:x≠f:=fun e=>hn ((hT x).2 (.inl e));have hxT:x∉s.T:=fun e=>hn ((hT x).2 (.inr e));rcases hx with hx|⟨ha,d,hd,rfl⟩
    ·exact F.qm x (by rw[q1];exact qm x (h.q x hxT (.inl hx)) hxf)
    ·rcases F.qn d hd (by rw[m1];exact ha) (by rw[T1];exact hn)with k|k
     ·rw[B1]at k
      exact F.qm _ (by rw[q1];exact qm _ (h.q _ hxT (.inr ⟨ha,d,k,rfl⟩)) hxf)
     ·exact k
   ·intro x hx
    rw[F.sk.me,m1];rcases F.qo x hx with k|⟨k1,_,k3⟩
    ·rw[q1]at k;exact h.qme x (qs x k)
    ·exact⟨k1.trans m1,k3⟩
   ·intro x hx
    rw[F.sk.T,T1]at hx;rw[F.sk.me,m1,F.sk.names,n1,F.sk.rules,r1,F.sk.given,g1];rcases(hT x).1 hx with rfl|hx
    ·exact hLM
    ·exact h.fnd x hx
theorem Aix{e:De}:∀(l:List De) (p:ES×List Fa),e∈(l.foldl Cu p).1.B↔e∈p.1.B∧e∉l
 | [],p=>by simp
 |d::l,p=>by
  rw[List.foldl_cons,Aix l (Cu p d)];show(e∈p.1.B.filter (fun y=>!decide (y=d))∧e∉l)↔_;rw[List.mem_filter,List.mem_cons,not_or];simp only[Bool.not_eq_true',decide_eq_false_iff_not];exact⟨fun⟨⟨a,b⟩,c⟩=>⟨a,b,c⟩,fun⟨a,b,c⟩=>⟨⟨a,b⟩,c⟩⟩
theorem At8{e:De}{p:ES×List Fa}{g:Fa}:e∈(Cp p g).1.B↔e∈p.1.B∧g∉e.bo:=by
 unfold Cp;rw[Aix];show(e∈p.1.B∧e∉Py p.1.B g)↔_;unfold Py;rw[List.mem_filter,not_and];simp only[decide_eq_true_eq];exact⟨fun⟨a,b⟩=>⟨a,b a⟩,fun⟨a,b⟩=>⟨a,fun _=>b⟩⟩
theorem Apw{T:List Fa}{g x:Fa}:x∈(Ha T g).1↔x∈T∧x≠g:=by
 unfold Ha;split
 ·rw[List.mem_filter];simp
 ·rename_i h
  exact⟨fun hx=>⟨hx,fun e=>h (e▸hx)⟩,fun hx=>hx.1⟩
theorem At9{x:Fa}{p:ES×List Fa}{g:Fa}:x∈(Cp p g).1.T↔x∈p.1.T∧x≠g:=by
 have:∀(l:List De) (p:ES×List Fa),(l.foldl Cu p).1.T=p.1.T:=fun l=>by
  induction l with
  |nil=>exact fun _=>rfl
  |cons d l ih=>exact fun p=>ih (Cu p d)
 unfold Cp;rw[this];exact Apw
theorem Aj2{e:De}:∀(G:List Fa) (p:ES×List Fa),e∈(G.foldl Cp p).1.B↔e∈p.1.B∧∀g∈G,g∉e.bo
 | [],p=>by simp
 |g::G,p=>by
  rw[List.foldl_cons,Aj2 G,At8];simp only[List.mem_cons,forall_eq_or_imp];exact and_assoc
theorem Aj3{x:Fa}:∀(G:List Fa) (p:ES×List Fa),x∈(G.foldl Cp p).1.T↔x∈p.1.T∧x∉G
 | [],p=>by simp
 |g::G,p=>by
  rw[List.foldl_cons,Aj3 G,At9,List.mem_cons,not_or];exact and_assoc
theorem Vl:∀(G:List Fa) (p:ES×List Fa),(G.foldl Cp p).1.me=p.1.me∧(G.foldl Cp p).1.names=p.1.names∧(G.foldl Cp p).1.rules=p.1.rules∧(G.foldl Cp p).1.given=p.1.given∧(G.foldl Cp p).1.queue=p.1.queue∧(G.foldl Cp p).1.full=p.1.full
 | [],p=>⟨rfl,rfl,rfl,rfl,rfl,rfl⟩
 |g::G,p=>by
  have k:∀(l:List De) (p:ES×List Fa),(l.foldl Cu p).1.me=p.1.me∧(l.foldl Cu p).1.names=p.1.names∧(l.foldl Cu p).1.rules=p.1.rules∧(l.foldl Cu p).1.given=p.1.given∧(l.foldl Cu p).1.queue=p.1.queue∧(l.foldl Cu p).1.full=p.1.full:=fun l=>by
   induction l with
   |nil=>exact fun _=>⟨rfl,rfl,rfl,rfl,rfl,rfl⟩
   |cons d l ih=>exact fun p=>ih (Cu p d)
  obtain⟨h1,h2,h3,h4,h5,h6⟩:=Vl G (Cp p g);obtain⟨k1,k2,k3,k4,k5,k6⟩:=k (Py p.1.B g) (Q7 p g);exact⟨h1.trans k1,h2.trans k2,h3.trans k3,h4.trans k4,h5.trans k5,h6.trans k6⟩
theorem At2{s:ES}{f x:Fa}:x∈((C7 (Bq s f)).foldl Cp (Bq s f,[])).1.T↔x∈s.T∧x∈Lq (Bq s f):=by
 rw[Aj3];show(x∈s.T∧x∉C7 (Bq s f))↔_;unfold C7;rw[List.mem_filter,Ar Ah];simp only[List.not_mem_nil,or_false,not_and,Bool.not_eq_true',decide_eq_false_iff_not,Decidable.not_not];exact⟨fun⟨a,b⟩=>⟨a,b a⟩,fun⟨a,b⟩=>⟨a,fun _=>b⟩⟩
theorem Aoz{s:ES}(h:Inv s)(f:Fa):Inv (Gr s f).2∧(Gr s f).2.full=s.full:=by
 unfold Gr;split
 case isFalse=>exact⟨h,rfl⟩
 obtain⟨k1,k2,k3,k4,k5,k6⟩:=Vl (C7 (Bq s f)) (Bq s f,[]);have hT:∀x,x∈((C7 (Bq s f)).foldl Cp (Bq s f,[])).1.T↔x∈s.T∧x∈Lq (Bq s f):=fun x=>At2;have hB:∀d,d∈((C7 (Bq s f)).foldl Cp (Bq s f,[])).1.B↔d∈s.B∧∀g∈C7 (Bq s f),g∉d.bo:=fun d=>Aj2 _ _;have hgo:∀g,g∈C7 (Bq s f)↔g∈s.T∧g∉Lq (Bq s f):=fun g=>by
  unfold C7;rw[List.mem_filter,Ar Ah];simp only[List.not_mem_nil,or_false,Bool.not_eq_true',decide_eq_false_iff_not];exact Iff.rfl
 have hgv:∀x,x∈(Bq s f).given↔x∈s.given∧x≠f:=fun x=>by
  show x∈(Aw Ai [] s.given).filter (fun y=>!decide (y∈[f]))↔_;rw[List.mem_filter,Ar Ah];simp
 have hnow:∀x,x∈Lq (Bq s f)↔x∈Cb s.B ((Bq s f).given.filter fun g=>decide (g∈s.T))∧x∈s.T:=fun x=>by
  show x∈(Cb s.B ((Bq s f).given.filter fun g=>decide (g∈s.T))).filter (fun y=>decide (y∈s.T))↔_;rw[List.mem_filter];simp
 generalize (C7 (Bq s f)).foldl Cp (Bq s f,[])=p at hT hB k1 k2 k3 k4 k5 k6;have e1:p.1.me=s.me:=k1;have e2:p.1.names=s.names:=k2;have e3:p.1.rules=s.rules:=k3;have e4:p.1.given=(Bq s f).given:=k4;have e5:p.1.queue=s.queue:=k5;have e6:p.1.full=s.full:=k6;have hB':∀d,d∈p.1.B↔Der s.me s.names s.rules d∧∀y∈d.bo,y∈p.1.T:=fun d=>by
  rw[hB,h.B];constructor
  ·rintro⟨⟨a,b⟩,c⟩
   refine⟨a,fun y hy=>(hT y).2 ⟨b y hy,?_⟩⟩;rcases Classical.em (y∈Lq (Bq s f))with h1|h1
   ·exact h1
   ·exact absurd hy (c y ((hgo y).2 ⟨b y hy,h1⟩))
  ·rintro⟨a,b⟩
   exact⟨⟨a,fun y hy=>((hT y).1 (b y hy)).1⟩,fun g hg hgb=>((hgo g).1 hg).2 ((hT g).1 (b g hgb)).2⟩
 refine⟨⟨by show¬K0 p.1.rules;rw[e3];exact h.good,?_,?_,?_,?_,?_,?_⟩,e6⟩
 ·show∀x∈p.1.given,x.at'=p.1.me∧okF x=true
  rw[e4,e1];exact fun x hx=>h.gme x ((hgv x).1 hx).1
 ·show∀x∈p.1.T,x.at'=p.1.me
  rw[e1];exact fun x hx=>h.tme x ((hT x).1 hx).1
 ·show∀d,d∈p.1.B↔Der p.1.me p.1.names p.1.rules d∧∀y∈d.bo,y∈p.1.T
  rw[e1,e2,e3];exact hB'
 ·show∀x,x∉p.1.T→(x∈p.1.given∨x.at'=p.1.me∧∃d∈p.1.B,d.hd=x)→x∈p.1.queue
  rw[e4,e1,e5];intro x hn hx;by_cases hxT:x∈s.T
  ·exfalso
   apply hn;refine(hT x).2 ⟨hxT,(hnow x).2 ⟨?_,hxT⟩⟩;rcases hx with hx|⟨ha,d,hd,rfl⟩
   ·exact Xg (List.mem_filter.2 ⟨hx,by simpa using hxT⟩)
   ·refine To ((hB d).1 hd).1 fun y hy=>?_
    exact((hnow y).1 ((hT y).1 (((hB' d).1 hd).2 y hy)).2).1
  ·refine h.q x hxT (hx.imp (fun hx=>((hgv x).1 hx).1) fun⟨ha,d,hd,e⟩=>⟨ha,d,((hB d).1 hd).1,e⟩)
 ·show∀x∈p.1.queue,x.at'=p.1.me∧okF x=true
  rw[e5,e1];exact h.qme
 ·show∀x∈p.1.T,LM p.1.me p.1.names p.1.rules p.1.given x
  rw[e1,e2,e3,e4];intro x hx;refine Uz (X:=LM s.me s.names s.rules (Bq s f).given) (fun y hy=>.base (List.mem_filter.1 hy).1) (fun d hd hy=>?_) x ((hnow x).1 ((hT x).1 hx).2).1;exact .step ((h.B d).1 hd).1 hy
theorem Ae4{me:ByteArray}{names:List ByteArray}{lim:Int}{rules:List Rl}(hg:¬K0 rules):Inv (Ch me names lim rules)∧(Ch me names lim rules).full=false∧(Ch me names lim rules).given=[]∧(Ch me names lim rules).T=[]:=by
 have key:∀k,k≤rules.length→Fnd (Lj me names lim rules) (Rc me rules k (Lj me names lim rules)) fun j c=>j<k∧(rules.getD j rlZ).bo.length=0∧c∈Ea (rules.getD j rlZ) me (-1) faZ []:=fun k=>by
  induction k with
  |zero=>exact fun _=>(Fnd.refl _).conv fun j c=>by simp
  |succ k ih=>
   intro hk;have h1:=ih (by omega);rw[Hb];split
   ·rename_i h0
    have h2:=Wv (i:=k) (Ea (rules.getD k rlZ) me (-1) faZ []) (Rc me rules k (Lj me names lim rules)) (by rw[h1.sk.rules];show k<rules.length;omega);exact(h1.trans h2).conv fun j c=>by
     constructor
     ·rintro(⟨h,h'⟩|⟨rfl,h'⟩)
      ·exact⟨by omega,h'⟩
      ·exact⟨by omega,h0,h'⟩
     ·rintro⟨h,h'⟩
      by_cases e:j=k
      ·subst e;exact .inr ⟨rfl,h'.2⟩
      ·exact .inl ⟨by omega,h'⟩
   ·rename_i h0
    exact h1.conv fun j c=>by
     constructor
     ·rintro⟨h,h'⟩;exact⟨by omega,h'⟩
     ·rintro⟨h,h'⟩
      by_cases e:j=k
      ·subst e;exact absurd h'.1 h0
      ·exact⟨by omega,h'⟩
 have F:=key rules.length (Nat.le_refl _);have e1:(Ch me names lim rules).me=me:=F.sk.me;have e2:(Ch me names lim rules).names=names:=F.sk.names;have e3:(Ch me names lim rules).rules=rules:=F.sk.rules;have e4:(Ch me names lim rules).given=[]:=F.sk.given;have e5:(Ch me names lim rules).T=[]:=F.sk.T;have F:Fnd (Lj me names lim rules) (Ch me names lim rules) _:=F;refine⟨⟨by rw[e3];exact hg,by rw[e4];exact fun x hx=>(by cases hx),by rw[e5];exact fun x hx=>(by cases hx),?_,?_,?_,by rw[e5];exact fun x hx=>(by cases hx)⟩,F.sk.full,e4,e5⟩
 ·intro d
  rw[F.B,e1,e2,e3,e5];show(d∈[]∨Der me names rules d∧_)↔_;constructor
  ·rintro(h|⟨h,i,hi,hil,h0,hb⟩)
   ·cases h
   ·refine⟨h,fun y hy=>?_⟩
    have:=Amu hb;rw[h0]at this;rw[List.length_eq_zero_iff.1 this]at hy;exact hy
  ·rintro⟨h,hb⟩
   have hnil:d.bo=[]:=List.eq_nil_iff_forall_not_mem.2 fun y hy=>by cases hb y hy
   have hh:=h;obtain⟨i,hi,e,e',_⟩:=hh;have hl:=Ae3 e';rw[hnil]at hl;refine .inr ⟨h,i,e,hi,by rw[Dk hi];exact hl.symm,?_⟩;rw[Dk hi];exact Aal e' fun n hn=>by rw[hnil]at hn;simp at hn
 ·intro x _ hx
  rw[e4,e1]at hx;rcases hx with hx|⟨ha,d,hd,rfl⟩
  ·cases hx
  ·rcases F.qn d hd ha (by show d.hd∉[];simp)with h|h
   ·cases h
   ·exact h
 ·intro x hx
  rw[e1];rcases F.qo x hx with h|⟨h1,_,h3⟩
  ·cases h
  ·exact⟨h1,h3⟩
theorem Aj8{s:ES}(h:Inv s)(hq:s.queue=[]):(∀f,f∈s.T↔LM s.me s.names s.rules s.given f∧f.at'=s.me)∧∀f,(f.at'≠s.me∧∃d∈s.B,d.hd=f)↔LM s.me s.names s.rules s.given f∧f.at'≠s.me:=by
 have hin:∀f,(f∈s.given∨f.at'=s.me∧∃d∈s.B,d.hd=f)→f∈s.T:=fun f hf=>by
  rcases Classical.em (f∈s.T)with h1|h1
  ·exact h1
  ·have:=h.q f h1 hf
   rw[hq]at this;cases this
 have key:∀{f},LM s.me s.names s.rules s.given f→(f.at'=s.me→f∈s.T)∧(f.at'≠s.me→∃d∈s.B,d.hd=f):=fun{f} hf=>by
  induction hf with
  |base hb=>exact⟨fun _=>hin _ (.inl hb),fun hn=>absurd (h.gme _ hb).1 hn⟩
  | @step d hd hb ih=>
   have hB:d∈s.B:=(h.B d).2 ⟨hd,fun y hy=>(ih y hy).1 (by
    obtain⟨i,hi,_,e,_⟩:=hd;refine Ar1 (fun l hl=>?_) e y hy;rcases Classical.em (l.at'= .zero)with h1|h1
    ·exact h1
    ·exact absurd ⟨_,List.getElem_mem hi,l,hl,h1⟩ h.good)⟩
   exact⟨fun ha=>hin _ (.inr ⟨ha,d,hB,rfl⟩),fun _=>⟨d,hB,rfl⟩⟩
 refine⟨fun f=>⟨fun hf=>⟨h.fnd f hf,h.tme f hf⟩,fun hf=>(key hf.1).1 hf.2⟩,fun f=>⟨fun⟨ha,d,hd,e⟩=>⟨?_,ha⟩,fun hf=>⟨hf.2,(key hf.1).2 hf.2⟩⟩⟩;subst e;obtain⟨k1,k2⟩:=(h.B d).1 hd;exact .step k1 fun y hy=>h.fnd y (k2 y hy)
section
variable{σ:St}{t:Nat}{T:List Fa}{lim:Int}
theorem Mp(a b:List Fa)(ha:a.length≤1000000000000)(sa:∀y∈a,y.Sm)(hb:b.length≤1000000000000)(sb:∀y∈b,y.Sm):AT Tryz.prog 20 [.sl 4 (faC a),.sl 4 (faC b)] σ fun r σ'=>r= .sl 4 (faC (Aw Ai [] (a.filter fun x=>!decide (x∈b))))∧σ'=σ:=by
 refine AT.ob Tryz.func20 rfl ?_;simp only[go_sem,Aa];refine⟨fun m fr σ'=>∃(k:Nat) (v:AV),m=a.length-k∧k≤a.length∧σ'=σ∧VW σ σ v (.sl 4 (faC (Aw Ai [] ((a.take k).filter fun x=>!decide (x∈b)))))∧fr 0= .sl 4 (faC a)∧fr 1= .sl 4 (faC b)∧fr 5=v∧fr 6=int k,⟨_,0,A4,rfl,by omega,rfl,.nil 4,rfl,rfl,rfl,rfl⟩,?_⟩;rintro m fr σ ⟨k,v,rfl,hk,rfl,hv,f0,f1,f5,f6⟩;simp only[go_sem,f0,f6];refine aIf_by (fun hlt=>?_) (fun hlt=>?_)
 ·have hkl:k<a.length:=by omega
  have hsk:=sa _ (List.getElem_mem hkl);have nx:=As k (by omega);simp only[go_sem,Aa,f0,f1,f6,Aq hkl];refine⟨by omega,(El b a[k] hb sb hsk).p ?_⟩;by_cases hm:a[k]∈b
  ·simp only[go_sem,Aa,decide_eq_true hm,Bool.not_true,f6,nx]
   have e:(a.take (k+1)).filter (fun x=>!decide (x∈b))=(a.take k).filter fun x=>!decide (x∈b):=by
    rw[List.take_add_one,List.getElem?_eq_getElem hkl,List.filter_append];simp[hm]
   exact⟨a.length-(k+1),by omega,k+1,v,rfl,by omega,by rw[e];exact hv,f0,f1,f5,rfl⟩
  ·have e:(a.take (k+1)).filter (fun x=>!decide (x∈b))=((a.take k).filter fun x=>!decide (x∈b))++[a[k]]:=by
    rw[List.take_add_one,List.getElem?_eq_getElem hkl,List.filter_append];simp[hm]
   have hl1:=Bn (c:=Ai) (s:=[]) (l:=(a.take k).filter fun x=>!decide (x∈b));have hl2:=List.length_filter_le (fun x=>!decide (x∈b)) (a.take k);have hsm:∀x∈Aw Ai [] ((a.take k).filter fun x=>!decide (x∈b)),x.Sm:=fun x hx=>by
    rcases(Ar Ah).1 hx with h|h
    ·exact sa x (List.mem_of_mem_take (List.mem_filter.1 h).1)
    ·cases h
   simp only[List.length_nil,List.length_take]at hl1 hl2;simp only[go_sem,Aa,decide_eq_false hm,Bool.not_false,f0,f5,f6,Aq hkl];refine⟨by omega,(AT.weak (H1 (Aw Ai [] ((a.take k).filter fun x=>!decide (x∈b))) a[k] (by omega) hsm hsk) (vws_cons hv (Bu _))).p ?_⟩;simp only[go_sem,Aa,f0,f6,nx];exact⟨a.length-(k+1),by omega,k+1,_,rfl,by omega,by rw[e,Ef];exact .refl _,f1,rfl,rfl⟩
 ·rw[List.take_of_length_le (by omega)]at hv
  simp only[go_sem,Aa,f5];exact Ad (r:=v) rfl _ σ (view_of (Es fun x o hx=>.inl hx) hv) ⟨rfl,rfl⟩
theorem G8{l:List Fa}(h:B5 Ai l):Aw Ai [] l=l:=D2 Ah (Bh Ah .nil) h fun y=>by rw[Ar Ah];simp
theorem Alq(l:List ByteArray)(s:ByteArray)(hl:l.length≤1000000000000):AT Tryz.prog 66 [.sl 1 (stC l),str s] σ fun r σ'=>r=boo (decide (s∈l))∧σ'=σ:=by
 refine AT.ob Tryz.func66 rfl ?_;simp only[go_sem,Aa];refine⟨fun m fr σ'=>∃i:Nat,m=l.length-i∧i≤l.length∧σ'=σ∧s∉l.take i∧fr 0= .sl 1 (stC l)∧fr 1=str s∧fr 5=int i,⟨_,0,rfl,by omega,rfl,by simp,rfl,rfl,rfl⟩,?_⟩;rintro m fr σ ⟨i,rfl,hi,rfl,hI,f0,f1,f5⟩;simp only[go_sem,f0,f5];refine aIf_by (fun hlt=>?_) (fun hlt=>?_)
 ·have hil:i<l.length:=by omega
  simp only[go_sem,Aa,f0,f1,f5,Kr hil];refine⟨by omega,?_⟩;refine aIf_by (fun h0=>?_) (fun h0=>?_)
  ·simp only[go_sem,Aa]
   exact Ae (r:=boo true) rfl ⟨by rw[decide_eq_true (h0▸List.getElem_mem hil)],rfl⟩
  ·simp only[go_sem,Aa,f0,f5,As i (by omega)]
   refine⟨l.length-(i+1),by omega,i+1,rfl,by omega,?_,f1,rfl⟩;rw[List.take_add_one,List.getElem?_eq_getElem hil];simp only[Option.toList,List.mem_append,List.mem_singleton,not_or];exact⟨hI,fun e=>h0 e.symm⟩
 ·simp only[go_sem,Aa]
  rw[List.take_of_length_le (by omega)]at hI;exact Ae (r:=boo false) rfl ⟨by rw[decide_eq_false hI],rfl⟩
theorem Alz(lim:Int):AT Tryz.prog 67 [int lim] σ fun r σ'=>if 1≤lim∧lim≤4096 then∃b,σ b=none∧r= .tup [ptr b,int 0]∧σ'=σ.set b (tbC [] lim)else r= .tup [.v (.pointer none),int 2]∧σ'=σ:=by
 refine AT.ob Tryz.func67 rfl ?_;by_cases h1:lim<1
 ·have d1:=decide_eq_true h1
  simp only[go_sem,d1];exact Ae (r:=.tup [.v (.pointer none),int 2]) rfl (by rw[if_neg (by omega)];exact⟨rfl,rfl⟩)
 have d1:=decide_eq_false h1;by_cases h2:4096<lim
 ·have d2:=decide_eq_true h2
  simp only[go_sem,d1,d2];exact Ae (r:=.tup [.v (.pointer none),int 2]) rfl (by rw[if_neg (by omega)];exact⟨rfl,rfl⟩)
 have d2:=decide_eq_false h2;simp only[go_sem,d1,d2];refine Ay fun b hb hm=>?_;simp only[go_sem];refine Ad (r:=.tup [ptr b,int 0]) rfl (.tup [ptr b,int 0]) (σ.set b (tbC [] lim)) ?_ (by rw[if_pos (by omega)];exact⟨b,hb,rfl,rfl⟩);have hS:SV (σ.set b (.cells [A4,int lim])) (σ.set b (tbC [] lim)):=Ks Ab (show OW _ _ (.cells _) (.cells _)from vws_cons (.nil 4) (Bu _)) fun x p hx hp=>by rw[Ag hx];exact hp
 exact view_of hS (.refl _)
theorem Apr(h:TB σ t T lim)(hT:TOk T lim)(f:Fa)(hf:f.Sm):AT Tryz.prog 93 [ptr t,.agg f.cs] σ fun r σ'=>r=int (Bs T lim f).2∧σ'=σ.set t (tbC (Bs T lim f).1 lim):=by
 refine AT.ob Tryz.func93 rfl ?_;have same:σ.set t (tbC T lim)=σ:=B8 h;have tlen:=hT.len;simp only[go_sem];refine Ctx.nil.alloc fun p σ1 c1=>?_;have hp:=c1.g0;have hs:=c1.sub;have fp:=c1.f0;have h1:σ1 t=some (.cells [.sl 4 (faC T),int lim]):=hs _ _ h;clear c1;have out:∀{e:Int},Bs T lim f=(T,e)→∀{fr:Fr},A9 Tryz.prog fr σ1 (Tryz.f93).results.toList=some (int e)→Dw Tryz.prog (fun r σ'=>r=int (Bs T lim f).2∧σ'=σ.set t (tbC (Bs T lim f).1 lim)) (Tryz.f93).results.toList fr σ1:=fun h2 _ hr=>
  Ad hr _ σ (An hs) ⟨by rw[h2],by rw[h2];exact same.symm⟩
 simp only[go_sem,hp];refine(Q1 f).p ?_;cases hok:okF f with
 |false=>
  have e1:okE f=40:=by unfold okE;rw[hok];rfl
  have d2:(!decide (okE f=0))=true:=by rw[e1];rfl
  simp only[go_sem,d2];exact out (by unfold Bs;rw[hok];rfl) rfl
 |true=>
 have e1:okE f=0:=by unfold okE;rw[hok];rfl
 have d2:(!decide (okE f=0))=false:=by rw[e1];rfl
 simp only[go_sem,d2];refine Af [.rd 0 false,.rd 1 false,.rd 2 false,.rd 3 true,.rd 4 true,.ef 5 []] ?_;simp only[go_sem,hp,h1];refine(El T f (by omega) hT.sm hf).p ?_;by_cases hm:f∈T
 ·simp only[go_sem,decide_eq_true hm]
  exact out (by unfold Bs;rw[hok,if_pos rfl,if_pos hm]) rfl
 simp only[go_sem,decide_eq_false hm];refine Af [.rd 0 false,.rd 1 false,.rd 2 false,.rd 3 true,.rd 4 false,.rd 5 false,.rd 6 false,.rd 7 false,.rd 8 true,.rd 9 false] ?_;simp only[go_sem,h1,Aj];by_cases hl:lim≤T.length
 ·simp only[go_sem,decide_eq_true hl]
  exact out (by unfold Bs;rw[hok,if_pos rfl,if_neg hm,if_pos hl]) rfl
 simp only[go_sem,decide_eq_false hl];refine Af [.rd 0 false,.rd 1 false,.rd 2 false,.rd 3 false,.rd 4 true,.rd 5 true,.ef 6 [],.rd 7 false,.rd 8 false,.ef 9 []] ?_;simp only[go_sem,hp,h1];refine(H1 T f (by omega) hT.sm hf).p ?_;have esp:Az [.sl 4 (faC T),int lim] 0 [.sl 4 (faC (A1 Ai f T))]=[.sl 4 (faC (A1 Ai f T)),int lim]:=rfl;have eput:Bs T lim f=(A1 Ai f T,0):=by unfold Bs;rw[hok,if_pos rfl,if_neg hm,if_neg hl]
 simp only[go_sem,h1,esp];refine Ad (r:=int 0) rfl _ (σ.set t (tbC (A1 Ai f T) lim)) (An fun y o hy=>?_) ⟨by rw[eput],by rw[eput]⟩;by_cases e:y=t
 ·subst e;rw[Ab]at hy⊢;exact hy
 ·rw[Ag e]at hy⊢;exact hs _ _ hy
theorem Aly(h:TB σ t T lim)(hT:TOk T lim)(f:Fa)(hf:f.Sm):AT Tryz.prog 90 [ptr t,.agg f.cs] σ fun r σ'=>r=int (Ha T f).2∧σ'=σ.set t (tbC (Ha T f).1 lim):=by
 refine AT.ob Tryz.func90 rfl ?_;have same:σ.set t (tbC T lim)=σ:=B8 h;have tlen:=hT.len;simp only[go_sem];refine Ctx.nil.alloc fun p σ1 c1=>?_;have hp:=c1.g0;have hs:=c1.sub;have h1:σ1 t=some (.cells [.sl 4 (faC T),int lim]):=hs _ _ h;clear c1;simp only[go_sem];refine Af [.rd 0 false,.rd 1 false,.rd 2 false,.rd 3 true,.rd 4 true,.ef 5 [],.rd 6 false] ?_;simp only[go_sem,hp,h1];refine(El T f (by omega) hT.sm hf).p ?_;by_cases hm:f∈T
 case neg=>
  have e:Ha T f=(T,152):=by unfold Ha;rw[if_neg hm]
  simp only[go_sem,decide_eq_false hm];exact Ad (r:=int 152) rfl _ σ (An hs) ⟨by rw[e],by rw[e];exact same.symm⟩
 simp only[go_sem,decide_eq_true hm];refine Af [.rd 0 false,.rd 1 false,.rd 2 false,.rd 3 false,.rd 4 true,.rd 5 true,.rd 6 false,.ef 7 [],.rd 8 false,.rd 9 false,.ef 10 []] ?_;simp only[go_sem,hp,h1];refine(AT.weak (Mp T [f] (by omega) hT.sm (by simp) (fun y hy=>by rw[List.mem_singleton.1 hy];exact hf)) (vws_same Ou)).p ?_;have ef:(T.filter fun x=>!decide (x∈[f]))=T.filter fun x=>!decide (x=f):=by
  congr 1
  funext x;simp
 have e2:Aw Ai [] (T.filter fun x=>!decide (x∈[f]))=T.filter fun x=>!decide (x=f):=by rw[ef];exact G8 (hT.rises.filter _)
 rw[e2];have esp:Az [.sl 4 (faC T),int lim] 0 [.sl 4 (faC (T.filter fun x=>!decide (x=f)))]=[.sl 4 (faC (T.filter fun x=>!decide (x=f))),int lim]:=rfl;have e:Ha T f=(T.filter fun x=>!decide (x=f),0):=by unfold Ha;rw[if_pos hm]
 simp only[go_sem,h1,esp];refine Ad (r:=int 0) rfl _ (σ.set t (tbC (T.filter fun x=>!decide (x=f)) lim)) (An fun y o hy=>?_) ⟨by rw[e],by rw[e]⟩;by_cases e:y=t
 ·subst e;rw[Ab]at hy⊢;exact hy
 ·rw[Ag e]at hy⊢;exact hs _ _ hy
end
section
variable{σ:St}
theorem J3(x y:De)(hx:x.Sm)(hy:y.Sm):AT Tryz.prog 71 [.agg x.cs,.agg y.cs] σ fun r σ'=>r=int (Bg x y)∧σ'=σ:=by
 refine AT.ob Tryz.func71 rfl ?_;simp only[go_sem];refine Ctx.nil.alloc fun p σ1 c1=>?_;simp only[go_sem];refine c1.alloc fun q σ2 c2=>?_;have hq:=c2.g1.1.1;have hp:=c2.g1.1.2;have hs:=c2.sub;clear c1 c2;have out:∀{k:Int},Bg x y=k→∀{fr:Fr},A9 Tryz.prog fr σ2 (Tryz.f71).results.toList=some (int k)→Dw Tryz.prog (fun r σ'=>r=int (Bg x y)∧σ'=σ) (Tryz.f71).results.toList fr σ2:=fun e _ hr=>
  Ad hr _ σ (An hs) ⟨by rw[e],rfl⟩
 by_cases h1:x.ru<y.ru
 ·have d1:=decide_eq_true h1
  simp only[go_sem,hp,hq,d1];refine out ?_ rfl;unfold Bg;rw[show Hr x.ru y.ru= -1 by unfold Hr;rw[if_pos h1]];rfl
 have d1:=decide_eq_false h1;by_cases h2:y.ru<x.ru
 ·have d2:=decide_eq_true h2
  simp only[go_sem,hp,hq,d1,d2];refine out ?_ rfl;unfold Bg;rw[show Hr x.ru y.ru=1 by unfold Hr;rw[if_neg h1,if_neg (by omega)]];rfl
 have d2:=decide_eq_false h2;have hT:Bg x y=orI [Ai x.hd y.hd,Et x.bo y.bo]:=by
  unfold Bg;rw[show Hr x.ru y.ru=0 by unfold Hr;rw[if_neg h1,if_pos (by omega)]];rfl
 obtain⟨hx1,hx2,hx3⟩:=hx;obtain⟨hy1,hy2,hy3⟩:=hy;simp only[go_sem,hp,hq,d1,d2];refine(Fg (x:=x.hd) (y:=y.hd) .cs .cs hx1 hy1).mono ?_;rintro _ σ2 ⟨rfl,rfl⟩;simp only[go_sem,Aa];refine⟨fun m fr σ'=>∃(i:Nat) (c:Int),m=x.bo.length-i∧i≤x.bo.length∧i≤y.bo.length∧σ'=σ2∧(c=0→Bg x y=D4 Ai (x.bo.drop i) (y.bo.drop i))∧(c≠0→Bg x y=c)∧fr 2=ptr p∧fr 3=ptr q∧fr 5=int c∧fr 6=int i,⟨_,0,Ai x.hd y.hd,rfl,by omega,by omega,rfl,fun h=>?_,fun h=>?_,rfl,rfl,rfl,rfl⟩,?_⟩
 ·rw[hT,h]
  show(if(0:Int)=0 then(if Et x.bo y.bo=0 then 0 else Et x.bo y.bo)else 0)=Et x.bo y.bo;rw[if_pos rfl];by_cases e:Et x.bo y.bo=0
  ·rw[if_pos e,e]
  ·rw[if_neg e]
 ·rw[hT];simp only[orI];rw[if_neg h]
 rintro m fr σ2 ⟨i,c,rfl,hi1,hi2,rfl,hI,hJ,f2,f3,f5,f6⟩;by_cases hc:c=0
 case neg=>
  have d3:=decide_eq_false hc;simp only[go_sem,Aa,f5,d3];exact out (hJ hc) rfl
 have hK:=hI hc;clear hI hJ;subst hc;have d0:decide ((0:Int)=0)=true:=rfl;by_cases g:i<x.bo.length∧i<y.bo.length
 ·obtain⟨g1,g2⟩:=g
  rw[Md g1 g2]at hK;have d3:=decide_eq_true (show(i:Int)<x.bo.length by omega);have d4:=decide_eq_true (show(i:Int)<y.bo.length by omega);simp only[go_sem,Aa,f2,f3,f5,f6,hp,hq,d0,d3,d4,Aj];refine Af [.rd 0 false,.rd 1 true,.rd 2 false,.rd 3 false,.rd 4 true,.rd 5 false,.rd 6 true,.rd 7 false,.rd 8 false,.rd 9 true,.ef 10 [],.rd 11 false] ?_;simp only[go_sem,Aa,f2,f3,f6,hp,hq,Aq g1,Aq g2,Aj];refine⟨by omega,by omega,(Fg (x:=x.bo[i]) (y:=y.bo[i]) .cs .cs (hx3 _ (List.getElem_mem g1)) (hy3 _ (List.getElem_mem g2))).p ?_⟩;simp only[go_sem,Aa,f2,f3,f6,As i (by omega)];exact⟨x.bo.length-(i+1),by omega,i+1,Ai x.bo[i] y.bo[i],rfl,by omega,by omega,fun h=>by rw[hK,if_pos h],fun h=>by rw[hK,if_neg h],rfl,rfl⟩
 ·rw[Lc hi1 hi2 g]at hK
  by_cases g1:i<x.bo.length
  ·have d3:=decide_eq_true (show(i:Int)<x.bo.length by omega)
   have d4:=decide_eq_false (show¬(i:Int)<y.bo.length by omega);have d5:=decide_eq_false (show¬(x.bo.length:Int)<y.bo.length by omega);have d6:=decide_eq_true (show(y.bo.length:Int)<x.bo.length by omega);rw[if_neg (by omega),if_pos (by omega)]at hK;simp only[go_sem,Aa,f2,f3,f5,f6,hp,hq,d0,d3,d4,d5,d6,Aj];exact out hK rfl
  ·have d3:=decide_eq_false (show¬(i:Int)<x.bo.length by omega)
   by_cases g2:x.bo.length<y.bo.length
   ·have d5:=decide_eq_true (show(x.bo.length:Int)<y.bo.length by omega)
    rw[if_pos (by omega)]at hK;simp only[go_sem,Aa,f2,f3,f5,f6,hp,hq,d0,d3,d5,Aj];exact out hK rfl
   ·have d5:=decide_eq_false (show¬(x.bo.length:Int)<y.bo.length by omega)
    have d6:=decide_eq_false (show¬(y.bo.length:Int)<x.bo.length by omega);rw[if_neg (by omega),if_neg (by omega)]at hK;simp only[go_sem,Aa,f2,f3,f5,f6,hp,hq,d0,d3,d5,d6,Aj];exact out hK rfl
theorem Apk(a b:List Fa)(sa:a.length≤1000000000000)(sa':∀x∈a,x.Sm)(sb:b.length≤1000000000000)(sb':∀x∈b,x.Sm):AT Tryz.prog 152 [.sl 4 (faC a),.sl 4 (faC b)] σ fun r σ'=>r=boo (decide (∀x∈a,x∈b))∧σ'=σ:=by
 refine AT.ob Tryz.func152 rfl ?_;simp only[go_sem];refine⟨fun m fr σ'=>∃i:Nat,m=a.length-i∧i≤a.length∧σ'=σ∧(∀x∈a.take i,x∈b)∧fr 0= .sl 4 (faC a)∧fr 1= .sl 4 (faC b)∧fr 5=int i,⟨_,0,rfl,by omega,rfl,by simp,rfl,rfl,rfl⟩,?_⟩;rintro m fr σ ⟨i,rfl,hi,rfl,hI,f0,f1,f5⟩;simp only[go_sem,f0,f5,Aj];refine aIf_by (fun hlt=>?_) (fun hlt=>?_)
 ·have hia:i<a.length:=by omega
  simp only[go_sem,Aa,f0,f1,f5,Aq hia,Aj];refine⟨by omega,(El b a[i] sb sb' (sa' _ (List.getElem_mem hia))).p ?_⟩;by_cases hm:a[i]∈b
  ·simp only[go_sem,Aa,decide_eq_true hm,Bool.not_true,f5,As i (by omega)]
   refine⟨a.length-(i+1),by omega,i+1,rfl,by omega,fun x hx=>?_,f0,f1,rfl⟩;rw[List.take_add_one,List.getElem?_eq_getElem hia]at hx;rcases List.mem_append.1 hx with hx|hx
   ·exact hI x hx
   ·simp at hx;rw[hx];exact hm
  ·simp only[go_sem,Aa,decide_eq_false hm,Bool.not_false]
   exact Ae (r:=boo false) rfl ⟨by rw[decide_eq_false fun h=>hm (h _ (List.getElem_mem hia))],rfl⟩
 ·simp only[go_sem,Aa]
  rw[List.take_of_length_le (by omega)]at hI;exact Ae (r:=boo true) rfl ⟨by rw[decide_eq_true hI],rfl⟩
end
def RK(σ:St)(t:Nat)(B:List De):Prop:=σ t=some (.cells [.sl 6 (deC B)])
def rkC(B:List De):Cj:=.cells [.sl 6 (deC B)]
section
variable{σ:St}{t:Nat}{B:List De}
theorem Alu(h:RK σ t B)(hB:BOk B)(f:Fa)(hf:f.Sm):AT Tryz.prog 34 [ptr t,.agg f.cs] σ fun r σ'=>r= .sl 6 (deC (ofF B f))∧σ'=σ:=by
 have hm:AT Tryz.prog 34 [ptr t,.agg f.cs] σ fun r σ'=>LAt 6 σ' r (deC (ofF B f))∧Cg σ σ' r:=by
  refine AT.ob Tryz.func34 rfl ?_;have hbl:=hB.len;simp only[go_sem];refine Ctx.nil.alloc fun p σ1 c1=>?_;have hp:=c1.g0;have h1:σ1 t=some (.cells [.sl 6 (deC B)]):=c1.sub _ _ h;have hs:=c1.sub;simp only[go_sem,Aa];refine⟨fun m fr σ'=>∃(i:Nat) (lv:AV),m=B.length-i∧i≤B.length∧LAt 6 σ' lv (deC ((B.take i).filter fun d=>decide (d.hd=f)))∧Cg σ1 σ' lv∧fr 0=ptr t∧fr 3=ptr p∧fr 5=lv∧fr 6=int i,⟨_,0,A4,rfl,by omega,.none,.nil,rfl,rfl,rfl,rfl⟩,?_⟩;rintro m fr σ2 ⟨i,lv,rfl,hi,hL,hG,f0,f3,f5,f6⟩;have h2:=(hG _ _ h1).1;have hp2:=(hG _ _ hp).1;simp only[go_sem,f0,f6,h2,Au];refine aIf_by (fun hlt=>?_) (fun hlt=>?_)
  ·have hil:i<B.length:=by omega
   have hsm:=hB.sm _ (List.getElem_mem hil);have et:=Iw (p:=fun d:De=>decide (d.hd=f)) hil;have nx:=As i (by omega);simp only[go_sem,Aa];refine Af [.rd 0 false,.rd 1 false,.rd 2 false,.rd 3 true,.rd 4 false,.rd 5 false,.rd 6 false,.rd 7 true,.rd 8 true,.ef 9 [],.rd 10 false] ?_;simp only[go_sem,Aa,f0,f3,f6,h2,hp2,Co hil,Au];refine⟨by omega,(Fg (x:=B[i].hd) (y:=f) .cs .cs hsm.1 hf).p ?_⟩;by_cases h0:Ai B[i].hd f=0
   ·have e:=(Ah.zero _ _).1 h0
    rw[if_pos (decide_eq_true e)]at et;have tl:((B.take i).filter fun d=>decide (d.hd=f)).length≤B.length:=Nm;simp only[go_sem,Aa,decide_eq_true h0,f0,f5,f6,h2,Co hil,Au];refine⟨by omega,?_⟩;refine Ap (ys:=[B[i].cs]) rfl (by decide) (by decide) (by decide) (hL.app (by rw[Au];simp only[List.length_cons,List.length_nil];omega) fun lv' σ5 hL5 hs5=>?_);have e5:deC ((B.take i).filter fun d=>decide (d.hd=f))++[B[i].cs]=deC ((B.take (i+1)).filter fun d=>decide (d.hd=f)):=by rw[et];simp[deC]
    rw[e5]at hL5;simp only[go_sem,Aa,f6,nx];exact⟨B.length-(i+1),by omega,i+1,lv',rfl,by omega,hL5,hG.step hs5,f0,f3,rfl,rfl⟩
   ·have e:¬B[i].hd=f:=fun e=>h0 ((Ah.zero _ _).2 e)
    rw[if_neg (by simpa using e),List.append_nil]at et;simp only[go_sem,Aa,decide_eq_false h0,f6,nx];exact⟨B.length-(i+1),by omega,i+1,lv,rfl,by omega,by rw[et];exact hL,hG,f0,f3,f5,rfl⟩
  ·rw[List.take_of_length_le (by omega)]at hL
   simp only[go_sem,Aa,f5];exact Ae (r:=lv) rfl ⟨hL,fun y o hy=>hG y o (hs y o hy)⟩
 exact hm.post (by kernel_rfl) fun r σ' ⟨h1,h2⟩=>⟨_,_,Gz h1 h2,rfl,rfl⟩
theorem Al0(h:RK σ t B)(hB:BOk B)(f:Fa)(hf:f.Sm):AT Tryz.prog 91 [ptr t,.agg f.cs] σ fun r σ'=>r= .sl 6 (deC (Py B f))∧σ'=σ:=by
 have hm:AT Tryz.prog 91 [ptr t,.agg f.cs] σ fun r σ'=>LAt 6 σ' r (deC (Py B f))∧Cg σ σ' r:=by
  refine AT.ob Tryz.func91 rfl ?_;have hbl:=hB.len;simp only[go_sem];refine Ctx.nil.alloc fun p σ1 c1=>?_;have hp:=c1.g0;have h1:σ1 t=some (.cells [.sl 6 (deC B)]):=c1.sub _ _ h;have hs:=c1.sub;simp only[go_sem,Aa];refine⟨fun m fr σ'=>∃(i:Nat) (lv:AV),m=B.length-i∧i≤B.length∧LAt 6 σ' lv (deC ((B.take i).filter fun d=>decide (f∈d.bo)))∧Cg σ1 σ' lv∧fr 0=ptr t∧fr 3=ptr p∧fr 5=lv∧fr 6=int i,⟨_,0,A4,rfl,by omega,.none,.nil,rfl,rfl,rfl,rfl⟩,?_⟩;rintro m fr σ2 ⟨i,lv,rfl,hi,hL,hG,f0,f3,f5,f6⟩;have h2:=(hG _ _ h1).1;have hp2:=(hG _ _ hp).1;simp only[go_sem,f0,f6,h2,Au];refine aIf_by (fun hlt=>?_) (fun hlt=>?_)
  ·have hil:i<B.length:=by omega
   have hsm:=hB.sm _ (List.getElem_mem hil);have et:=Iw (p:=fun d:De=>decide (f∈d.bo)) hil;have nx:=As i (by omega);simp only[go_sem,Aa];refine Af [.rd 0 false,.rd 1 false,.rd 2 false,.rd 3 true,.rd 4 false,.rd 5 false,.rd 6 false,.rd 7 true,.rd 8 true,.ef 9 []] ?_;simp only[go_sem,Aa,f0,f3,f6,h2,hp2,Co hil,Au];refine⟨by omega,(El B[i].bo f hsm.2.1 hsm.2.2 hf).p ?_⟩;by_cases e:f∈B[i].bo
   ·rw[if_pos (decide_eq_true e)]at et
    have tl:((B.take i).filter fun d=>decide (f∈d.bo)).length≤B.length:=Nm;simp only[go_sem,Aa,decide_eq_true e,f0,f5,f6,h2,Co hil,Au];refine⟨by omega,?_⟩;refine Ap (ys:=[B[i].cs]) rfl (by decide) (by decide) (by decide) (hL.app (by rw[Au];simp only[List.length_cons,List.length_nil];omega) fun lv' σ5 hL5 hs5=>?_);have e5:deC ((B.take i).filter fun d=>decide (f∈d.bo))++[B[i].cs]=deC ((B.take (i+1)).filter fun d=>decide (f∈d.bo)):=by rw[et];simp[deC]
    rw[e5]at hL5;simp only[go_sem,Aa,f6,nx];exact⟨B.length-(i+1),by omega,i+1,lv',rfl,by omega,hL5,hG.step hs5,f0,f3,rfl,rfl⟩
   ·rw[if_neg (by simpa using e),List.append_nil]at et
    simp only[go_sem,Aa,decide_eq_false e,f6,nx];exact⟨B.length-(i+1),by omega,i+1,lv,rfl,by omega,by rw[et];exact hL,hG,f0,f3,f5,rfl⟩
  ·rw[List.take_of_length_le (by omega)]at hL
   simp only[go_sem,Aa,f5];exact Ae (r:=lv) rfl ⟨hL,fun y o hy=>hG y o (hs y o hy)⟩
 exact hm.post (by kernel_rfl) fun r σ' ⟨h1,h2⟩=>⟨_,_,Gz h1 h2,rfl,rfl⟩
theorem Ahv(h:RK σ t B)(hB:BOk B):AT Tryz.prog 70 [ptr t] σ fun v σ'=>v= .sl 4 (faC (hdsF B))∧σ'=σ:=by
 refine AT.ob Tryz.func70 rfl ?_;have hbl:=hB.len;have h1:σ t=some (.cells [.sl 6 (deC B)]):=h;simp only[go_sem,Aa];refine⟨fun m fr σ'=>∃(k:Nat) (v:AV),m=B.length-k∧k≤B.length∧σ'=σ∧VW σ σ v (.sl 4 (faC (Aw Ai [] ((B.take k).map De.hd))))∧fr 0=ptr t∧fr 3=v∧fr 4=int k,⟨_,0,A4,rfl,by omega,rfl,.nil 4,rfl,rfl,rfl⟩,?_⟩;rintro m fr σ ⟨k,v,rfl,hk,rfl,hv,f0,f3,f4⟩;simp only[go_sem,f0,f4,h1,Au];refine aIf_by (fun hlt=>?_) (fun hlt=>?_)
 ·have hkl:k<B.length:=by omega
  have hsk:=(hB.sm _ (List.getElem_mem hkl)).1;have nx:=As k (by omega);have hl1:=Bn (c:=Ai) (s:=[]) (l:=(B.take k).map De.hd);have hsm:∀x∈Aw Ai [] ((B.take k).map De.hd),x.Sm:=fun x hx=>by
   rcases(Ar Ah).1 hx with h|h
   ·obtain⟨d,hd,rfl⟩:=List.mem_map.1 h
    exact(hB.sm d (List.mem_of_mem_take hd)).1
   ·cases h
  simp only[List.length_nil,List.length_map,List.length_take]at hl1;simp only[go_sem,Aa,f0,f3,f4,h1,Co hkl,Au];refine⟨by omega,(AT.weak (H1 (Aw Ai [] ((B.take k).map De.hd)) B[k].hd (by omega) hsm hsk) (vws_cons hv (Bu _))).p ?_⟩;simp only[go_sem,Aa,f4,nx];exact⟨B.length-(k+1),by omega,k+1,_,rfl,by omega,by rw[List.take_add_one,List.getElem?_eq_getElem hkl,List.map_append,Ef];exact .refl _,f0,rfl,rfl⟩
 ·rw[List.take_of_length_le (by omega)]at hv
  simp only[go_sem,Aa,f3];exact Ad (r:=v) rfl _ σ (view_of (Es fun x o hx=>.inl hx) hv) ⟨rfl,rfl⟩
end
section
variable{σ:St}{t:Nat}{B:List De}
theorem Aay(h:RK σ t B)(hB:BOk B)(base:List Fa)(hl:base.length≤50000000000)(hls:∀f∈base,f.Sm):AT Tryz.prog 89 [ptr t,.sl 4 (faC base)] σ fun v σ'=>v= .sl 4 (faC (Cb B base))∧σ'=σ:=by
 refine AT.ob Tryz.func89 rfl ?_;have hbs:=hB.sm;have hbl:=hB.len;have h0:σ t=some (.cells [.sl 6 (deC B)]):=h;have sm:∀{out:List Fa},LyF B base out→∀y∈out,y.Sm:=fun h y hy=>by
  rcases h.own y hy with h|⟨d,hd,rfl⟩
  ·exact hls y h
  ·exact(hbs d hd).1
 simp only[go_sem];refine(T9 base (by omega) hls).p ?_
 have hY0:LyF B base (Aw Ai [] base):=⟨Bh Ah .nil,fun x hx=>by
  rcases(Ar Ah).1 hx with h|h
  ·exact .inl h
  ·cases h⟩
 have hk0:O4 B (Aw Ai [] base)<B.length+1:=Nat.lt_succ_of_le (List.length_filter_le _ _);obtain⟨fin,hfin⟩:∃fin,fin=Cb B base:=⟨_,rfl⟩;have hf0:Jx B (B.length+1) (Aw Ai [] base)=fin:=by rw[hfin];rfl
 rw[←hfin];obtain⟨out0,ho0⟩:∃o,o=Aw Ai [] base:=⟨_,rfl⟩;rw[←ho0]at hY0 hk0 hf0⊢;simp only[go_sem,Aa];refine⟨fun m fr σ'=>∃(out:List Fa) (mr:Bool),σ'=σ∧LyF B base out∧(mr=true→O4 B out<m∧Jx B m out=fin)∧(mr=false→out=fin)∧fr 0=ptr t∧fr 5= .sl 4 (faC out)∧fr 6=boo mr,⟨B.length+1,out0,true,rfl,hY0,fun _=>⟨hk0,hf0⟩,fun e=>(by cases e),rfl,rfl,rfl⟩,?_⟩;clear hY0 hk0 hf0 hfin ho0;rintro m fr σ ⟨out,mr,rfl,hY,hm1,hm2,f0,f5,f6⟩;simp only[go_sem,f6];refine aIf_bool (fun hmr=>?_) (fun hmr=>?_)
 ·obtain⟨hlk,hfu⟩:=hm1 hmr
  obtain⟨n,rfl⟩:∃n,m=n+1:=⟨m-1,by omega⟩;simp only[go_sem,Aa];refine⟨fun mm fr σ'=>∃(i:Nat) (o:List Fa) (more:Bool),mm=B.length-i∧i≤B.length∧(B.take i).foldl C5 (out,false)=(o,more)∧σ'=σ∧LyF B base o∧fr 0=ptr t∧fr 5= .sl 4 (faC o)∧fr 6=boo more∧fr 7=int i,⟨_,0,out,false,rfl,by omega,rfl,rfl,hY,f0,f5,rfl,rfl⟩,?_⟩;clear hY hm1 hm2 f0 f5 f6 fr;rintro mm fr σ ⟨i,o,more,rfl,hi,hfo,rfl,hY,f0,f5,f6,f7⟩;simp only[go_sem,f0,f7,h0,Au];refine aIf_by (fun hlt=>?_) (fun hlt=>?_)
  ·have hil:i<B.length:=by omega
   obtain⟨d,hd⟩:∃d,d=B[i]:=⟨_,rfl⟩;have hdm:d∈B:=by rw[hd];exact List.getElem_mem hil
   have hds:=hbs d hdm;have hol:=hY.len;have nx:=As i (by omega);have hfo':(B.take (i+1)).foldl C5 (out,false)=C5 (o,more) d:=by
    rw[List.take_add_one,List.getElem?_eq_getElem hil,List.foldl_append,hfo,hd];rfl
   have dg:(deC B).getD i []=d.cs:=by rw[hd];exact Co hil
   have hsmo:=sm hY;simp only[go_sem,Aa,f0,f5,f7,h0,dg,Au];refine⟨by omega,(El o d.hd (by omega) hsmo hds.1).p ?_⟩;by_cases hin:d.hd∈o
   ·have er:C5 (o,more) d=(o,more):=by unfold C5;rw[if_pos hin]
    rw[er]at hfo';simp only[go_sem,Aa,decide_eq_true hin,Bool.not_true,f7,nx];exact⟨B.length-(i+1),by omega,i+1,o,more,rfl,by omega,hfo',hY,f0,f5,f6,rfl⟩
   ·simp only[go_sem,Aa,decide_eq_false hin,Bool.not_false,f0,f5,f7,h0,dg,Au]
    refine⟨by omega,(Apk d.bo o hds.2.1 hds.2.2 (by omega) hsmo).p ?_⟩;by_cases hall:∀x∈d.bo,x∈o
    ·have er:C5 (o,more) d=(A1 Ai d.hd o,true):=by unfold C5;rw[if_neg hin,if_pos hall]
     rw[er]at hfo';simp only[go_sem,Aa,decide_eq_true hall,f0,f5,f7,h0,dg,Au];refine⟨by omega,(H1 o d.hd (by omega) hsmo hds.1).p ?_⟩;simp only[go_sem,Aa,f7,nx];exact⟨B.length-(i+1),by omega,i+1,_,true,rfl,by omega,hfo',hY.step hdm,f0,rfl,rfl,rfl⟩
    ·have er:C5 (o,more) d=(o,more):=by unfold C5;rw[if_neg hin,if_neg hall]
     rw[er]at hfo';simp only[go_sem,Aa,decide_eq_false hall,f7,nx];exact⟨B.length-(i+1),by omega,i+1,o,more,rfl,by omega,hfo',hY,f0,f5,f6,rfl⟩
  ·rw[List.take_of_length_le (by omega)]at hfo
   have er:rnd B out=(o,more):=hfo;simp only[go_sem,Aa];refine⟨n,by omega,o,more,hY,fun e=>?_,fun e=>?_,f0,f5,f6⟩
   ·have hlt:=Xl (B:=B) (out:=out) (by rw[er];exact e)
    rw[er]at hlt;simp only at hlt;rw[Jx,er]at hfu;simp only at hfu;rw[if_pos e]at hfu;exact⟨by omega,hfu⟩
   ·rw[Jx,er]at hfu
    simp only at hfu;rw[if_neg (by rw[e];decide)]at hfu;exact hfu
 ·simp only[go_sem,Aa,f5]
  exact Ae (r:=.sl 4 _) rfl ⟨by rw[hm2 hmr],rfl⟩
theorem Alo(h:RK σ t B)(hB:BOk B)(d:De)(hd:d.Sm):AT Tryz.prog 92 [ptr t,.agg d.cs] σ fun r σ'=>r=boo (decide (d∈B))∧σ'=σ.set t (rkC (B.filter fun x=>!decide (x=d))):=by
 refine AT.ob Tryz.func92 rfl ?_;have hbl:=hB.len;simp only[go_sem];refine Ctx.nil.alloc fun p σ1 c1=>?_;have hp:=c1.g0;have h1:σ1 t=some (.cells [.sl 6 (deC B)]):=c1.sub _ _ h;have hs:=c1.sub;simp only[go_sem,Aa];refine⟨fun m fr σ'=>∃(i:Nat) (lv:AV),m=B.length-i∧i≤B.length∧LAt 6 σ' lv (deC ((B.take i).filter fun x=>!decide (x=d)))∧Cg σ1 σ' lv∧fr 0=ptr t∧fr 3=ptr p∧fr 5=lv∧fr 6=int i,⟨_,0,A4,rfl,by omega,.none,.nil,rfl,rfl,rfl,rfl⟩,?_⟩;rintro m fr σ2 ⟨i,lv,rfl,hi,hL,hG,f0,f3,f5,f6⟩;have h2:=hG _ _ h1;have hp2:=(hG _ _ hp).1;simp only[go_sem,f0,f6,h2.1,Au];refine aIf_by (fun hlt=>?_) (fun hlt=>?_)
 ·have hil:i<B.length:=by omega
  have hsm:=hB.sm _ (List.getElem_mem hil);have et:=Iw (p:=fun x:De=>!decide (x=d)) hil;have nx:=As i (by omega);simp only[go_sem,Aa];refine Af [.rd 0 false,.rd 1 false,.rd 2 false,.rd 3 true,.rd 4 false,.rd 5 false,.rd 6 true,.rd 7 true,.ef 8 [],.rd 9 false] ?_;simp only[go_sem,Aa,f0,f3,f6,h2.1,hp2,Co hil,Au];refine⟨by omega,(J3 B[i] d hsm hd).p ?_⟩;by_cases h0:Bg B[i] d=0
  ·have e:=(A8.zero _ _).1 h0
   rw[if_neg (by simpa using e),List.append_nil]at et;simp only[go_sem,Aa,decide_eq_true h0,Bool.not_true,f6,nx];exact⟨B.length-(i+1),by omega,i+1,lv,rfl,by omega,by rw[et];exact hL,hG,f0,f3,f5,rfl⟩
  ·have e:¬B[i]=d:=fun e=>h0 ((A8.zero _ _).2 e)
   rw[if_pos (by simpa using e)]at et;have tl:((B.take i).filter fun x=>!decide (x=d)).length≤B.length:=Nm;simp only[go_sem,Aa,decide_eq_false h0,Bool.not_false,f0,f5,f6,h2.1,Co hil,Au];refine⟨by omega,?_⟩;refine Ap (ys:=[B[i].cs]) rfl (by decide) (by decide) (by decide) (hL.app (by rw[Au];simp only[List.length_cons,List.length_nil];omega) fun lv' σ5 hL5 hs5=>?_);have e5:deC ((B.take i).filter fun x=>!decide (x=d))++[B[i].cs]=deC ((B.take (i+1)).filter fun x=>!decide (x=d)):=by rw[et];simp[deC]
   rw[e5]at hL5;simp only[go_sem,Aa,f6,nx];exact⟨B.length-(i+1),by omega,i+1,lv',rfl,by omega,hL5,hG.step hs5,f0,f3,rfl,rfl⟩
 ·rw[List.take_of_length_le (by omega)]at hL
  have hlen:decide (((B.filter fun x=>!decide (x=d)).length:Int)<B.length)=decide (d∈B):=by
   by_cases hm:d∈B
   ·have:=Acd hm
    rw[decide_eq_true hm,decide_eq_true (by omega)]
   ·have e:B.filter (fun x=>!decide (x=d))=B:=List.filter_eq_self.2 fun x hx=>by
     have:x≠d:=fun e=>hm (e▸hx);simpa using this
    rw[decide_eq_false hm,e,decide_eq_false (by omega)]
  have esp:Az [.sl 6 (deC B)] 0 [lv]=[lv]:=rfl;have ht3:(σ2.set t (.cells [lv])) t=some (.cells [lv]):=Ab;simp only[go_sem,Aa,f0,f5,h2.1,hL.len,hL.one,hL.cells,esp,Au,hlen];refine Ad (r:=boo (decide (d∈B))) rfl _ (σ.set t (rkC (B.filter fun x=>!decide (x=d)))) (J2 (cs:=[]) ht3 h (hL.keep fun y o hy ho=>by rw[Ag (fun e=>by rw[e]at ho;exact h2.2 ho)];exact hy) fun y o hne hy=>?_) ⟨rfl,rfl⟩;have k:=hG _ _ (hs _ _ hy);exact⟨by rw[Ag hne];exact k.1,k.2⟩
end
section
variable{σ:St}{t:Nat}{B:List De}
theorem Am0{l:List De}{f:De}(k:Nat):([]++(deC l).take k)++[f.cs]++(deC l).drop k=deC (l.take k++f::l.drop k):=by
 simp[deC,List.map_take,List.map_drop]
theorem Apj(h:RK σ t B)(hB:BOk B)(d:De)(hd:d.Sm):AT Tryz.prog 176 [ptr t,.agg d.cs] σ fun r σ'=>r=boo (!decide (d∈B))∧σ'=σ.set t (rkC (A1 Bg d B)):=by
 refine AT.ob Tryz.func176 rfl ?_;have hl:=hB.len;have hls:=hB.sm;simp only[go_sem];refine Ctx.nil.alloc fun p σ1 c1=>?_;have hp:=c1.g0;have h1:σ1 t=some (.cells [.sl 6 (deC B)]):=c1.sub _ _ h;have hs:=c1.sub;clear c1;simp only[go_sem,Aa];refine⟨fun m fr σ'=>∃k:Nat,m=B.length-k∧k≤B.length∧σ'=σ1∧(∀i (hi:i<k) (hl:i<B.length),Bg B[i] d<0)∧fr 0=ptr t∧fr 3=ptr p∧fr 5=int k,⟨_,0,rfl,by omega,rfl,fun i hi=>by omega,rfl,rfl,rfl⟩,?_⟩;rintro m fr σ1 ⟨k,rfl,hk,rfl,hI,f0,f3,f5⟩;simp only[go_sem,Aa];refine Af [.rd 0 false,.rd 1 false,.rd 2 false,.rd 3 false,.rd 4 true,.rd 5 false,.rd 6 false,.rd 7 false,.rd 8 false,.rd 9 false,.rd 10 false,.rd 11 true,.rd 12 false,.rd 13 false,.rd 14 true,.rd 15 true,.ef 16 [],.rd 17 false,.rd 18 false] ?_;by_cases g:∃hk:k<B.length,Bg B[k] d<0
 ·obtain⟨g1,g2⟩:=g
  have d1:=decide_eq_true (show(k:Int)<B.length by omega);have d2:=decide_eq_true g2;simp only[go_sem,Aa,f0,f3,f5,h1,d1,hp,Co g1,Au];refine⟨by omega,(J3 B[k] d (hls _ (List.getElem_mem g1)) hd).p ?_⟩;simp only[go_sem,Aa,d2,f5,As k (by omega)];have hI':∀i (hi:i<k+1) (hl:i<B.length),Bg B[i] d<0:=fun i hi hl=>by
   by_cases e:i=k
   ·subst e;exact g2
   ·exact hI i (by omega) hl
  exact⟨B.length-(k+1),by omega,k+1,rfl,by omega,hI',f0,f3,rfl⟩
 ·have hn:∀hk:k<B.length,¬Bg B[k] d<0:=fun h1 h2=>g ⟨h1,h2⟩
  have hins:=Ih (c:=Bg) hk hI hn;by_cases h0:∃hk:k<B.length,Bg B[k] d=0
  ·obtain⟨g1,g2⟩:=h0
   rw[if_pos ⟨g1,g2⟩]at hins;have hm:d∈B:=((A8.zero _ _).1 g2)▸List.getElem_mem g1;have d1:=decide_eq_true (show(k:Int)<B.length by omega);have d2:=decide_eq_false (hn g1);have d3:=decide_eq_true g2;simp only[go_sem,Aa,f0,f3,f5,h1,d1,hp,Co g1,Au];refine⟨by omega,(J3 B[k] d (hls _ (List.getElem_mem g1)) hd).p ?_⟩;simp only[go_sem,Aa,d2];refine Af [.rd 0 false,.rd 1 false,.rd 2 false,.rd 3 false,.rd 4 true,.rd 5 false,.rd 6 false,.rd 7 false,.rd 8 false,.rd 9 false,.rd 10 false,.rd 11 true,.rd 12 false,.rd 13 false,.rd 14 true,.rd 15 true,.ef 16 [],.rd 17 false,.rd 18 false] ?_;simp only[go_sem,Aa,f0,f3,f5,h1,d1,hp,Co g1,Au];refine⟨by omega,(J3 B[k] d (hls _ (List.getElem_mem g1)) hd).p ?_⟩;simp only[go_sem,Aa,d3];exact Ad (r:=boo false) rfl _ σ (An hs) ⟨by rw[decide_eq_true hm];rfl,by rw[hins];exact(B8 h).symm⟩
  ·rw[if_neg h0]at hins
   have hm:d∉B:=fun hm=>by
    obtain⟨i,hi,e⟩:=List.mem_iff_getElem.1 hm;have h3:Bg B[i] d=0:=(A8.zero _ _).2 e;by_cases hik:i<k
    ·have:=hI i hik hi;omega
    ·by_cases e2:i=k
     ·subst e2;exact h0 ⟨hi,h3⟩
     ·have hlt:Bg B[k] B[i]<0:=List.pairwise_iff_getElem.1 hB.rises k i (by omega) hi (by omega)
      rw[e]at hlt;exact hn (by omega) hlt
   by_cases hkl:k<B.length
   case' pos=>
    have d1:=decide_eq_true (show(k:Int)<B.length by omega);have d2:=decide_eq_false (hn hkl);have d3:=decide_eq_false (show¬Bg B[k] d=0 from fun e=>h0 ⟨hkl,e⟩);simp only[go_sem,Aa,f0,f3,f5,h1,d1,hp,Co hkl,Au];refine⟨by omega,(J3 B[k] d (hls _ (List.getElem_mem hkl)) hd).p ?_⟩;simp only[go_sem,Aa,d2];refine Af [.rd 0 false,.rd 1 false,.rd 2 false,.rd 3 false,.rd 4 true,.rd 5 false,.rd 6 false,.rd 7 false,.rd 8 false,.rd 9 false,.rd 10 false,.rd 11 true,.rd 12 false,.rd 13 false,.rd 14 true,.rd 15 true,.ef 16 [],.rd 17 false,.rd 18 false] ?_;simp only[go_sem,Aa,f0,f3,f5,h1,d1,hp,Co hkl,Au];refine⟨by omega,(J3 B[k] d (hls _ (List.getElem_mem hkl)) hd).p ?_⟩;simp only[go_sem,Aa,d3,f0,f5,h1]
   case' neg=>
    have d1:=decide_eq_false (show¬(k:Int)<B.length by omega);simp only[go_sem,Aa,f0,f3,f5,h1,d1,Au];refine Af [.rd 0 false,.rd 1 false,.rd 2 false,.rd 3 false,.rd 4 true,.rd 5 false,.rd 6 false,.rd 7 false,.rd 8 false,.rd 9 false,.rd 10 false,.rd 11 true,.rd 12 false,.rd 13 false,.rd 14 true,.rd 15 true,.ef 16 [],.rd 17 false,.rd 18 false] ?_;simp only[go_sem,Aa,f0,f3,f5,h1,d1,Au]
   all_goals
    refine Aa6 (by omega) (by rw[Au];omega) ?_;simp only[go_sem,Aa];refine Ap (ys:=(deC B).take k) (by simp[src]) (by decide) (by decide) (by decide) (LAt.full.app (by rw[List.length_take,Au];simp only[List.length_nil];omega) fun l1 σ2 h2 e1=>?_);have G1:Cg σ1 σ2 l1:=fun y p hy=>e1 y p hy A3;simp only[go_sem,Aa,f3,G1.sub _ _ hp];refine Ap (ys:=[d.cs]) (by rfl) (by decide) (by decide) (by decide) (h2.app (by rw[List.nil_append,List.length_take,Au];simp only[List.length_nil,List.length_cons];omega) fun l2 σ3 h3 e2=>?_);have G2:=G1.step e2;have k3:=(G2 _ _ h1).1;simp only[go_sem,Aa,f0,f5,k3];refine Aa5 (by omega) (by rw[Au];omega) ?_;simp only[go_sem,Aa];refine Ap (ys:=(deC B).drop k) (by simp[src]) (by decide) (by decide) (by decide) (h3.app (by simp only[List.nil_append,List.length_append,List.length_take,List.length_drop,Au,List.length_nil,List.length_cons];omega) fun l3 σ4 h4 e3=>?_);have G3:=G2.step e3;rw[Am0,←hins]at h4;have k4:=G3 _ _ h1;have esp:Az [.sl 6 (deC B)] 0 [l3]=[l3]:=rfl;have ht4:(σ4.set t (.cells [l3])) t=some (.cells [l3]):=Ab;simp only[go_sem,Aa,k4.1,h4.one,h4.cells,esp];refine Ad (r:=boo true) rfl _ (σ.set t (rkC (A1 Bg d B))) (J2 (cs:=[]) ht4 h (h4.keep fun y o hy ho=>by rw[Ag (fun e=>by rw[e]at ho;exact k4.2 ho)];exact hy) fun y o hne hy=>?_) ⟨by rw[decide_eq_false hm];rfl,rfl⟩;have kk:=G3 _ _ (hs _ _ hy);exact⟨by rw[Ag hne];exact kk.1,kk.2⟩
end
structure DI(σ0:St)(x:Nat)(a:EA)(lv:AV)(o:List Fa)(σ:St)(a':EA)(s':ES):Prop where
 ev:EV false σ x a' s' false
 fr:Frm x a a' σ0 σ
 la:LAt 4 σ lv (faC o)
 own:∀y,Own lv y→¬Bo x a' y∧∀o,σ0 y=some o→Bo x a y
section
variable{σ0 σ σ':St}{x p q n:Nat}{a a':EA}{lv lv':AV}{o:List Fa}{s s':ES}
theorem DI.more(h:DI σ0 x a lv o σ a' s')(hs:∀y o,σ y=some o→σ' y=some o):DI σ0 x a lv o σ' a' s':=
 ⟨h.ev.more hs,fun y o hy hn=>⟨hs _ _ (h.fr y o hy hn).1,(h.fr y o hy hn).2⟩,h.la.keep fun y o hy _=>hs y o hy,h.own⟩
theorem DI.setT(h:DI σ0 x a lv o σ a' s'){T:List Fa}:DI σ0 x a lv o (σ.set a'.t (tbC T s'.lim)) a' {s' with T:=T}:=
 ⟨h.ev.setT,h.fr.trans .setT,h.la.keep fun y o hy ho=>by rw[Ag fun e=>(h.own y ho).1 (.inr (.inl e))];exact hy,h.own⟩
theorem DI.setB(h:DI σ0 x a lv o σ a' s'){B:List De}:DI σ0 x a lv o (σ.set a'.b (bkT false B)) a' {s' with B:=B}:=
 ⟨h.ev.setB,h.fr.trans .setB,h.la.keep fun y o hy ho=>by rw[Ag fun e=>(h.own y ho).1 (.inr (.inr (.inl e)))];exact hy,h.own⟩
theorem DI.app(h:DI σ0 x a lv o σ a' s'){f:Fa}(h1:LAt 4 σ' lv' (faC (o++[f])))(hs:∀y o,σ y=some o→¬Own lv y→σ' y=some o∧¬Own lv' y):DI σ0 x a lv' (o++[f]) σ' a' s':=by
 have old:∀y o,σ0 y=some o→¬Bo x a y→σ' y=some o∧¬Own lv' y:=fun y o hy hn=>hs y o (h.fr y o hy hn).1 fun ho=>hn ((h.own y ho).2 o hy);refine⟨h.ev.keep fun y o hy hf=>(hs y o hy fun ho=>(h.own y ho).1 hf).1,fun y o hy hn=>⟨(old y o hy hn).1,(h.fr y o hy hn).2⟩,h1,fun y ho=>⟨fun hf=>?_,fun o hy=>Classical.byContradiction fun hn=>(old y o hy hn).2 ho⟩⟩;obtain⟨o',hy⟩:=Gs h.ev hf;exact(hs y o' hy fun ho=>(h.own y ho).1 hf).2 ho
theorem Aa7{v0:AV}(l:List Fa)(h0:Rd 4 σ v0 (faC l))(hl:l.length≤1000000000000)(hls:∀f∈l,f.Sm):AT Tryz.prog 59 [v0] σ fun v σ'=>v= .sl 4 (faC (Aw Ai [] l))∧σ'=σ:=
 (Kq l h0 hl hls).post (by kernel_rfl) fun v σ' h=>⟨_,_,h.view,rfl,rfl⟩
theorem Ahh(a b:List Fa)(ha:a.length≤1000000000000)(sa:∀y∈a,y.Sm)(hb:b.length≤1000000000000)(sb:∀y∈b,y.Sm):AT Tryz.prog 74 [.sl 4 (faC a),.sl 4 (faC b)] σ fun r σ'=>r= .sl 4 (faC ((Aw Ai [] a).filter fun x=>!decide (x∈b)))∧σ'=σ:=
 (Vt a b .sl ha sa hb sb).post (by kernel_rfl) fun v σ' ⟨h1,h2⟩=>⟨_,_,Gz h1 h2,rfl,rfl⟩
theorem Asr{n:Nat}{s:ES}(h:SOk n s)(hn:n≤800000000000):(Lq s).length≤1000000000000∧∀y∈Lq s,y.Sm:=by
 have ly:=No s.B (s.given.filter fun g=>decide (g∈s.T));have h1:=ly.len;have h2:=List.length_filter_le (fun g=>decide (g∈s.T)) s.given;have h3:=List.length_filter_le (fun g=>decide (g∈s.T)) (Cb s.B (s.given.filter fun g=>decide (g∈s.T)));have h4:=h.gl;have h5:=h.bl;refine⟨by unfold Lq;omega,fun y hy=>?_⟩;rcases ly.own y (List.mem_filter.1 hy).1 with hy|⟨d,hd,e⟩
 ·exact h.gs y (List.mem_filter.1 hy).1
 ·rw[←e];exact(h.bs d hd).1
theorem Te(h:EV false σ x a s false)(hs:SOk n s)(hn:n≤800000000000)(f:Fa)(hfs:f.Sm):
  AT Tryz.prog 36 [ptr x,.agg f.cs] σ fun r σ'=>r=int (Gr s f).1∧∃a',EV false σ' x a' (Gr s f).2 false∧Frm x a a' σ σ':=by
 refine AT.ob Tryz.func36 rfl ?_;simp only[go_sem];refine Ctx.nil.alloc fun p σ2 c2=>?_;have hp:=c2.g0;have hsb:=c2.sub;have fp:=c2.f0;clear c2;have h2:=h.more hsb;simp only[go_sem];refine(Ju h2).p ?_;have hx2:=h2.cx;have hgl:=hs.gl;simp only[go_sem];refine Af [.rd 0 false,.rd 1 false,.rd 2 false,.rd 3 true,.rd 4 true,.ef 5 [],.rd 6 false] ?_;simp only[go_sem,hp,hx2];refine(Tj s.given f (.of h2.lg) (by omega) hs.gs hfs).p ?_;by_cases hin:f∈s.given
 case neg=>
  have e:Gr s f=(152,s):=by unfold Gr;rw[if_neg hin]
  simp only[go_sem,decide_eq_false hin];exact Ae (r:=int 152) rfl ⟨by rw[e],a,by rw[e];exact h2,.of hsb⟩
 simp only[go_sem,decide_eq_true hin];refine Af [.rd 0 false,.rd 1 false,.rd 2 false,.rd 3 false,.rd 4 true,.rd 5 true,.rd 6 false,.ef 7 [],.rd 8 false,.rd 9 false,.ef 10 []] ?_;simp only[go_sem,hp,hx2];refine(AT.weak (Vt s.given [f] (.of h2.lg) (by omega) hs.gs (by simp) (fun y hy=>by rw[List.mem_singleton.1 hy];exact hfs)) (vws_same Ou)).mono ?_;rintro v σ3 ⟨k1,k2⟩;obtain⟨kx,kE,kF⟩:=h2.setG k1 fun y o hy _=>k2 y o hy;have esp:Az (evC false s a false) 5 [v]=evC false (Bq s f) {a with gv:=v} false:=rfl;simp only[go_sem,kx,k1.one,k1.cells,esp,kE.all1];have F3:=(Frm.of hsb).trans kF;obtain⟨a1,ha1⟩:∃a1:EA,a1={a with gv:=v}:=⟨_,rfl⟩;obtain⟨s1,hs1⟩:∃s1:ES,s1=Bq s f:=⟨_,rfl⟩;rw[show({s with given:=(Aw Ai [] s.given).filter fun y=>!decide (y∈[f])}:ES)=s1 from hs1.symm,←ha1]at kE F3;rw[←hs1,←ha1];have O1:SOk n s1:=by rw[hs1];exact Xn hs
 have hd:Gr s f=(0,{((C7 s1).foldl Cp (s1,[])).1 with outs:=((C7 s1).foldl Cp (s1,[])).1.outs++(Aw Ai [] ((C7 s1).foldl Cp (s1,[])).2).map fun y=>(y,true)}):=by unfold Gr;rw[if_pos hin,hs1]
 clear kx kF k1 k2 hx2 hp fp;generalize σ3.set x (.cells (evC false s1 a1 false))=σ4 at kE F3⊢;have ht:a.t=a1.t:=by rw[ha1]
 rw[ht];refine Yj.mono ?_;rintro _ σ5 ⟨b1,b2,rfl,c⟩;have E5:=kE.more c.sub;have F5:=F3.trans (.of c.sub);simp only[go_sem];refine(Ab0 (t:=a1.t) (lim:=s1.lim) E5.ct O1.tok c.g1.1.2 c.g1.1.1).p ?_;clear c kE F3;simp only[go_sem];refine(Zx E5 O1 hn _).p ?_;have hnw:=Asr O1 hn;have tl:=O1.tok.len;simp only[go_sem];refine(Ahh s1.T (Lq s1) (by omega) O1.tok.sm hnw.1 hnw.2).p ?_;obtain⟨G,hG⟩:∃G,G=C7 s1:=⟨_,rfl⟩;rw[show((Aw Ai [] s1.T).filter fun y=>!decide (y∈Lq s1))=G from hG.symm];rw[←hG]at hd
 have hGs:∀y∈G,y.Sm:=fun y hy=>O1.tok.sm y (by
  rw[hG]at hy;have:=(List.mem_filter.1 hy).1;rw[Ar Ah]at this;simpa using this)
 have gl:G.length≤1000000:=by
  rw[hG];have h1:=List.length_filter_le (fun y=>!decide (y∈Lq s1)) (Aw Ai [] s1.T);have h2:=Bn (c:=Ai) (s:=[]) (l:=s1.T);simp only[List.length_nil]at h2;unfold C7;omega
 have g0:GOk n (s1,[]):=⟨O1,by have:=O1.bo;show s1.B.length+s1.outs.length+0≤n;omega,fun y hy=>by cases hy⟩;have I0:DI σ x a A4 [] σ5 a1 s1:=⟨E5,F5,.none,fun y hy=>absurd hy B4⟩;have fcl:=Aj G;clear E5 F5 O1 hnw tl hgl hs hsb h2;simp only[go_sem,fcl];refine⟨fun m fr σ'=>∃(i:Nat) (lv:AV) (P:ES×List Fa),m=G.length-i∧i≤G.length∧P=(G.take i).foldl Cp (s1,[])∧GOk n P∧DI σ x a lv P.2 σ' a1 P.1∧fr 0=ptr x∧fr 7=lv∧fr 44= .sl 4 (faC G)∧fr 45=int G.length∧fr 46=int i,⟨_,0,A4,(s1,[]),rfl,by omega,rfl,g0,I0,rfl,rfl,rfl,rfl,rfl⟩,?_⟩;clear g0 I0;rintro m fr σ2 ⟨i,lv,P,rfl,hi,hP,hO,hI,f0,f7,f44,f45,f46⟩;simp only[go_sem,f45,f46];refine aIf_by (fun hlt=>?_) (fun hlt=>?_)
 case' refine_1=>
  have hil:i<G.length:=by omega
  have hgs:=hGs _ (List.getElem_mem hil);obtain⟨g,hg⟩:∃g,g=G[i]:=⟨_,rfl⟩;rw[←hg]at hgs;have gg:(faC G).getD i []=g.cs:=by rw[hg];exact Aq hil
  simp only[go_sem,Aa,f44,f46,gg,fcl];refine⟨by omega,Ctx.nil.alloc fun q σ3 c3=>?_⟩;obtain⟨σ4,e4,c4⟩:=c3.abs 0 rfl (.cells g.cs);have hq:σ4 q=some (.cells g.cs):=c4.g0;have nq:¬Bo x a1 q:=fun hf=>by
   obtain⟨o,ho⟩:=Gs hI.ev hf;have:=c3.f0;rw[ho]at this;cases this
  have hI:=hI.more c4.sub;simp only[go_sem,Aa,c3.g0,e4];clear e4 c4 c3;have hx4:=hI.ev.cx;refine Af [.rd 0 false,.rd 1 false,.rd 2 false,.rd 3 true,.rd 4 true,.ef 5 []] ?_;simp only[go_sem,Aa,f0,hx4,hq];refine(Al5 (t:=a1.t) hI.ev.ct hO.ok.tok g hgs).mono ?_;rintro _ σ5 ⟨rfl,rfl⟩;have hI1:DI σ x a lv (Q7 P g).2 (σ4.set a1.t (tbC (Ha P.1.T g).1 P.1.lim)) a1 (Q7 P g).1:=hI.setT;have hO1:=Adv (g:=g) hO;have hq1:(σ4.set a1.t (tbC (Ha P.1.T g).1 P.1.lim)) q=some (.cells g.cs):=by rw[Ag fun e=>nq (.inr (.inl e))];exact hq
  have hB1:(Q7 P g).1.B=P.1.B:=rfl;obtain⟨P1,hP1⟩:∃P1,P1=Q7 P g:=⟨_,rfl⟩;rw[←hP1]at hI1 hO1 hB1;generalize σ4.set a1.t (tbC (Ha P.1.T g).1 P.1.lim)=σ5 at hI1 hq1⊢;clear hI hx4 hq;have hx5:=hI1.ev.cx;have hb5:BK σ5 a1.b P1.1.B:=hI1.ev.cb;simp only[go_sem,Aa];refine Af [.rd 0 false,.rd 1 false,.rd 2 false,.rd 3 true,.rd 4 true,.rd 7 false,.ef 5 [],.rd 6 false] ?_;simp only[go_sem,Aa,f0,hx5,hq1];refine(Ap7 hb5 (hO1.ok.bok (by omega)) g hgs).p ?_;obtain⟨U,hU⟩:∃U,U=Py P1.1.B g:=⟨_,rfl⟩;have hUm:∀d∈U,d∈P1.1.B:=fun d hd=>by rw[hU]at hd;exact(List.mem_filter.1 hd).1
  have hUn:U.Nodup:=by rw[hU];exact(Hn A8 hO1.ok.br).filter _
  have hUl:U.length≤800000000000:=by
   have h1:=List.length_filter_le (fun d:De=>decide (g∈d.bo)) P1.1.B;have h2:=hO1.ok.bl;rw[hU];unfold Py;omega
  have hUs:∀d∈U,d.Sm:=fun d hd=>hO1.ok.bs d (hUm d hd);have es1:U.foldl Cu P1=Cp P g:=by unfold Cp;rw[hU,hP1];rfl
  rw[←hU];have dcl:=Au U;simp only[go_sem,Aa,dcl];refine⟨fun m fr σ'=>∃(k:Nat) (lv:AV) (P2:ES×List Fa),m=U.length-k∧k≤U.length∧P2=(U.take k).foldl Cu P1∧GOk n P2∧DI σ x a lv P2.2 σ' a1 P2.1∧fr 0=ptr x∧fr 7=lv∧fr 44= .sl 4 (faC G)∧fr 45=int G.length∧fr 46=int i∧fr 61= .sl 6 (deC U)∧fr 62=int U.length∧fr 63=int k,⟨_,0,lv,P1,rfl,by omega,rfl,hO1,hI1,f0,f7,f44,f45,f46,rfl,rfl,rfl⟩,?_⟩;clear hI1 hx5 hb5 hq1 f0 f7 f44 f45 f46;rintro m fr σ2 ⟨k,lv,P2,rfl,hk,hP2,hO2,hI2,f0,f7,f44,f45,f46,f61,f62,f63⟩;simp only[go_sem,f62,f63];refine aIf_by (fun hlt=>?_) (fun hlt=>?_)
  case' refine_2=>
   have ek:k=U.length:=by omega
   have eP:P2=(G.take (i+1)).foldl Cp (s1,[]):=by rw[hP2,ek,List.take_length,es1,Mf _ hil,←hP,hg]
   simp only[go_sem,Aa,f46,As i (by omega)];exact⟨G.length-(i+1),by omega,i+1,lv,P2,rfl,by omega,eP,hO2,hI2,f0,f7,f44,f45,rfl⟩
  have hkl:k<U.length:=by omega
  obtain⟨d,hdd⟩:∃d,d=U[k]:=⟨_,rfl⟩;have hdm:d∈U:=by rw[hdd];exact List.getElem_mem hkl
  have hds:=hUs d hdm;have hdB:d∈P2.1.B:=by
   rw[hP2];exact S8 _ _ (hUm d hdm) (by rw[hdd];exact Aff hUn hkl)
  have dg:(deC U).getD k []=d.cs:=by rw[hdd];exact Co hkl
  have e2:Cu P2 d=(U.take (k+1)).foldl Cu P1:=by rw[Mf _ hkl,←hP2,hdd]
  have hO3:=Ab3 hO2 hdB;simp only[go_sem,Aa,f61,f63,dg,dcl];refine⟨by omega,Ctx.nil.alloc fun w σ3 c3=>?_⟩;obtain⟨σ4,e4,c4⟩:=c3.abs 0 rfl (.cells d.cs);have hw:σ4 w=some (.cells d.cs):=c4.g0;have nw:¬Bo x a1 w:=fun hf=>by
   obtain⟨o,ho⟩:=Gs hI2.ev hf;have:=c3.f0;rw[ho]at this;cases this
  have hI2:=hI2.more c4.sub;simp only[go_sem,Aa,c3.g0,e4];clear e4 c4 c3;have hx4:=hI2.ev.cx;refine Af [.rd 0 false,.rd 1 false,.rd 2 false,.rd 3 true,.rd 4 true,.ef 5 []] ?_;simp only[go_sem,Aa,f0,hx4,hw];refine(Aim (t:=a1.b) hI2.ev.cb (hO2.ok.bok (by omega)) d hds).mono ?_;rintro _ σ5 ⟨rfl,rfl⟩;obtain⟨B3,hB3⟩:∃B3,B3=P2.1.B.filter fun y=>!decide (y=d):=⟨_,rfl⟩;rw[←hB3,show bkC B3=bkT false B3 from rfl];have hI3:DI σ x a lv P2.2 (σ4.set a1.b (bkT false B3)) a1 (Cu P2 d).1:=by
   have:=hI2.setB (B:=B3);rw[hB3]at this⊢;exact this
  have hw3:(σ4.set a1.b (bkT false B3)) w=some (.cells d.cs):=by rw[Ag fun e=>nw (.inr (.inr (.inl e)))];exact hw
  have hB4:(Cu P2 d).1.B=B3:=hB3.symm;have m3:(Cu P2 d).1.me=P2.1.me:=rfl;have o3:(Cu P2 d).2=if d.hd.at'≠P2.1.me∧(ofF B3 d.hd).length=0 then P2.2++[d.hd]else P2.2:=by rw[hB3];rfl
  obtain⟨P3,hP3⟩:∃P3,P3=Cu P2 d:=⟨_,rfl⟩;rw[←hP3]at hI3 hB4 m3 o3 e2 hO3;generalize σ4.set a1.b (bkT false B3)=σ5 at hI3 hw3⊢;clear hI2 hx4 hw;have hx5:=hI3.ev.cx;have hb5:BK σ5 a1.b B3:=by rw[←hB4];exact hI3.ev.cb
  have hbk:BOk B3:=by rw[←hB4];exact hO3.ok.bok (by omega)
  have nx:=As k (by omega);simp only[go_sem,Aa];refine Af [.rd 0 false,.rd 1 false,.rd 2 true,.rd 3 false,.rd 4 false,.rd 5 false,.rd 6 true,.rd 7 false,.rd 8 false,.rd 9 false,.rd 10 false,.rd 11 false,.rd 12 true,.rd 13 false,.rd 14 true,.ef 15 [],.rd 16 false,.rd 17 false,.rd 18 false] ?_;simp only[go_sem,Aa,f0,hx5,hw3,m3];by_cases hat:d.hd.at'=P2.1.me
  ·rw[if_neg fun h=>h.1 hat]at o3
   have d4:(!decide (d.hd.at'=P2.1.me))=false:=by rw[decide_eq_true hat];rfl
   simp only[go_sem,Aa,decide_eq_true hat,f63,nx];exact⟨U.length-(k+1),by omega,k+1,lv,P3,rfl,by omega,e2,hO3,by rw[o3];exact hI3,f0,f7,f44,f45,f46,f61,f62,rfl⟩
  have d4:(!decide (d.hd.at'=P2.1.me))=true:=by rw[decide_eq_false hat];rfl
  simp only[go_sem,Aa,decide_eq_false hat,f0,hx5,hw3];refine(Ak9 hb5 hbk d.hd hds.1).p ?_;by_cases hof:(ofF B3 d.hd).length=0
  ·rw[if_pos ⟨hat,hof⟩]at o3
   have d5:=decide_eq_true (show((ofF B3 d.hd).length:Int)=0 by omega);have hle:=hO2.le;simp only[go_sem,Aa,Au,d5,f7,hw3];refine Ap (ys:=[d.hd.cs]) rfl (by decide) (by decide) (by decide) (hI3.la.app (by rw[Aj];simp only[List.length_cons,List.length_nil];omega) fun lv' σ6 h6 s6=>?_);rw[show faC P2.2++[d.hd.cs]=faC (P2.2++[d.hd]) by simp[faC]]at h6;have hI6:=hI3.app h6 s6;simp only[go_sem,Aa,f63,nx];exact⟨U.length-(k+1),by omega,k+1,lv',P3,rfl,by omega,e2,hO3,by rw[o3];exact hI6,f0,rfl,f44,f45,f46,f61,f62,rfl⟩
  ·rw[if_neg fun h=>hof h.2]at o3
   have d5:=decide_eq_false (show¬((ofF B3 d.hd).length:Int)=0 by omega);simp only[go_sem,Aa,Au,d5,f63,nx];exact⟨U.length-(k+1),by omega,k+1,lv,P3,rfl,by omega,e2,hO3,by rw[o3];exact hI3,f0,f7,f44,f45,f46,f61,f62,rfl⟩
 have ei:i=G.length:=by omega
 rw[ei,List.take_length]at hP;rw[←hP]at hd;have hle:=hO.le;simp only[go_sem,Aa,f7];refine(Aa7 P.2 (.of hI.la) (by omega) hO.sm).mono ?_;rintro _ σ3 ⟨rfl,rfl⟩;obtain⟨H,hH⟩:∃H,H=Aw Ai [] P.2:=⟨_,rfl⟩;rw[←hH]at hd⊢;have Hl:H.length≤P.2.length:=by
  have:=Bn (c:=Ai) (s:=[]) (l:=P.2);rw[←hH]at this;simp only[List.length_nil]at this;omega
 have hcl:=Aj H;have ev:=hI.ev;have fr:=hI.fr;simp only[go_sem,Aa,hcl];obtain⟨z,hz⟩:∃z,z=P.1.outs:=⟨_,rfl⟩;have hzl:z.length+P.2.length≤n:=by rw[hz];omega
 refine⟨fun m fr σ'=>∃(k:Nat) (a':EA) (s':ES),m=H.length-k∧k≤H.length∧s'={P.1 with outs:=z++(H.take k).map fun y=>(y,true)}∧EV false σ' x a' s' false∧Frm x a a' σ σ'∧fr 0=ptr x∧fr 100= .sl 4 (faC H)∧fr 101=int H.length∧fr 102=int k,⟨_,0,a1,P.1,rfl,by omega,by rw[hz];simp,ev,fr,f0,rfl,rfl,rfl⟩,?_⟩;clear ev fr hI f0 f7 f44 f45 f46;rintro m fr σ2 ⟨k,a',s',rfl,hk,hs',E2,F2,f0,f100,f101,f102⟩;simp only[go_sem,f101,f102];refine aIf_by (fun hlt=>?_) (fun hlt=>?_)
 case' refine_2=>
  have ek:k=H.length:=by omega
  rw[ek,List.take_length,hz]at hs';simp only[go_sem,Aa];exact Ae (r:=int 0) rfl ⟨by rw[hd],a',by rw[hd,←hs'];exact E2,F2⟩
 have hkl:k<H.length:=by omega
 obtain⟨g,hg⟩:∃g,g=H[k]:=⟨_,rfl⟩;have gg:(faC H).getD k []=g.cs:=by rw[hg];exact Aq hkl
 simp only[go_sem,Aa,f100,f102,gg,hcl];refine⟨by omega,Ctx.nil.alloc fun q σ3 c3=>?_⟩;obtain⟨σ4,e4,c4⟩:=c3.abs 0 rfl (.cells g.cs);have hq:σ4 q=some (.cells g.cs):=c4.g0;have E4:=E2.more c4.sub;have F4:=F2.trans (.of c4.sub);have hx4:=E4.cx;have ol:s'.outs.length=z.length+k:=by rw[hs'];simp;omega
 simp only[go_sem,Aa,c3.g0,e4];clear e4 c4 c3;refine Af [.rd 0 false,.rd 1 false,.rd 2 false,.rd 3 false,.rd 4 true,.rd 5 true,.rd 6 false,.rd 7 false,.ef 8 [],.rd 9 false,.rd 10 false,.ef 11 []] ?_;simp only[go_sem,Aa,f0,hx4,hq];refine⟨Nat.le_refl 5,rfl,rfl,?_⟩;refine Ap (ys:=[g.cs++[boo true]]) rfl (by decide) (by decide) (by decide) (E4.co.app (by rw[Sa,ol];simp only[List.length_cons,List.length_nil];omega) fun v' σ5 k1 k2=>?_);rw[show ouC s'.outs++[g.cs++[boo true]]=ouC (s'.outs++[(g,true)]) by simp[ouC]]at k1;obtain⟨kx,kE,kF⟩:=E4.setO k1 k2;have esp:Az (evC false s' a' false) 7 [v']=evC false {s' with outs:=s'.outs++[(g,true)]} {a' with ov:=v'} false:=rfl;have e5:({s' with outs:=s'.outs++[(g,true)]}:ES)={P.1 with outs:=z++(H.take (k+1)).map fun y=>(y,true)}:=by
  rw[hs',List.take_add_one,List.getElem?_eq_getElem hkl,hg];simp only[List.map_append,Option.toList,List.map_cons,List.map_nil,List.append_assoc]
 simp only[go_sem,Aa,kx,k1.one,k1.cells,esp,kE.all1,f102,As k (by omega)];exact⟨H.length-(k+1),by omega,k+1,_,_,rfl,by omega,e5,kE,F4.trans kF,f0,f100,f101,rfl⟩
end
section
variable{σ:St}{x p:Nat}{a:EA}{s:ES}{n:Nat}
theorem Zy(h:EV false σ x a s false):AT Tryz.prog 21 [ptr x] σ fun r σ'=>r=boo s.full∧σ'=σ:=by
 refine AT.ob Tryz.func21 rfl ?_;simp only[go_sem];refine(Ju h).p ?_;have hx:=h.cx;simp only[go_sem,hx];exact Ae (r:=boo s.full) rfl ⟨rfl,rfl⟩
theorem Z0(h:EV false σ x a s false):AT Tryz.prog 24 [ptr x] σ fun r σ'=>r=int s.queue.length∧σ'=σ:=by
 refine AT.ob Tryz.func24 rfl ?_;simp only[go_sem];refine(Ju h).p ?_;have hx:=h.cx;simp only[go_sem,hx,h.cq.len,Aj];exact Ae (r:=int s.queue.length) rfl ⟨rfl,rfl⟩
theorem Qk(h:EV false σ x a s false):AT Tryz.prog 19 [ptr x] σ fun v σ'=>∃b1 b2,v=Sp b1 b2∧Ctx σ [(b2,.cells [fnv 117]),(b1,.cells [ptr a.t])] σ':=by
 refine AT.ob Tryz.func19 rfl ?_;simp only[go_sem];refine(Ju h).p ?_;have hx:=h.cx;simp only[go_sem,hx];refine Yj.mono ?_;rintro _ σ1 ⟨b1,b2,rfl,c⟩;simp only[go_sem];exact Ae (r:=Sp b1 b2) rfl ⟨b1,b2,rfl,c⟩
def M3(s:ES):List Fa:=(hdsF s.B).filter fun y=>!decide (y.at'=s.me)
end
section
variable{σ σ1:St}{x:Nat}{a:EA}{s:ES}{n:Nat}{hv:Bool}
@[go_sem] theorem Avc(s:ES)(a:EA)(hv:Bool):(evC true s a hv).length=10:=rfl
@[go_sem] theorem Azl(s:ES)(a:EA)(hv:Bool):(evC true s a hv).getD 0 (.v undef)=str s.me:=rfl
@[go_sem] theorem Azm(s:ES)(a:EA)(hv:Bool):(evC true s a hv).getD 1 (.v undef)= .sl 1 (stC s.names):=rfl
@[go_sem] theorem Azn(s:ES)(a:EA)(hv:Bool):(evC true s a hv).getD 2 (.v undef)= .sl 11 (rlC s.rules):=rfl
@[go_sem] theorem Azo(s:ES)(a:EA)(hv:Bool):(evC true s a hv).getD 3 (.v undef)=ptr a.t:=rfl
@[go_sem] theorem Azp(s:ES)(a:EA)(hv:Bool):(evC true s a hv).getD 4 (.v undef)=ptr a.b:=rfl
@[go_sem] theorem Azq(s:ES)(a:EA)(hv:Bool):(evC true s a hv).getD 5 (.v undef)=a.gv:=rfl
@[go_sem] theorem Azr(s:ES)(a:EA)(hv:Bool):(evC true s a hv).getD 6 (.v undef)=a.qv:=rfl
@[go_sem] theorem Azs(s:ES)(a:EA)(hv:Bool):(evC true s a hv).getD 7 (.v undef)=a.ov:=rfl
@[go_sem] theorem Azt(s:ES)(a:EA)(hv:Bool):(evC true s a hv).getD 8 (.v undef)=boo s.full:=rfl
@[go_sem] theorem Azu(s:ES)(a:EA)(hv:Bool):(evC true s a hv).getD 9 (.v undef)=boo hv:=rfl
theorem EV.gsl(h:EV true σ x a s hv):a.gv= .sl 4 (faC s.given):=h.cg
theorem EV.setH(h:EV true σ x a s hv){l:List Fa}:EV true (σ.set x (.cells (evC true {s with given:=l} {a with gv:=.sl 4 (faC l)} hv))) x {a with gv:=.sl 4 (faC l)} {s with given:=l} hv∧Frm x a {a with gv:=.sl 4 (faC l)} σ (σ.set x (.cells (evC true {s with given:=l} {a with gv:=.sl 4 (faC l)} hv))):=by
 refine⟨⟨Ab,by rw[Ag h.xt.symm];exact h.ct,by rw[Ag h.xb.symm];exact h.cb,rfl,?_,?_,h.xt,h.xb,h.tb,fun y ho=>absurd ho Gy⟩,fun y o hy hn=>?_⟩
 ·exact h.cq.keep fun y o hy ho=>by rw[Ag (fun e=>by rw[e]at ho;exact h.noX.2.1 ho)];exact hy
 ·exact h.co.keep fun y o hy ho=>by rw[Ag (fun e=>by rw[e]at ho;exact h.noX.2.2 ho)];exact hy
 ·have hx:y≠x:=fun e=>hn (.inl e)
  refine⟨by rw[Ag hx];exact hy,fun hf=>?_⟩;rcases hf with e|e|e|e|e|e
  ·exact hx e
  ·exact hn (.inr (.inl e))
  ·exact hn (.inr (.inr (.inl e)))
  ·exact Gy e
  ·exact hn (.inr (.inr (.inr (.inr (.inl e)))))
  ·exact hn (.inr (.inr (.inr (.inr (.inr e)))))
theorem Rk(h:EV true σ x a s hv)(hs:SOk n s)(hn:n≤800000000000):AT Tryz.prog 31 [ptr x] σ fun r σ'=>r= .sl 4 (faC (M3 s))∧σ'=σ:=by
 have hm:AT Tryz.prog 31 [ptr x] σ fun r σ'=>LAt 4 σ' r (faC (M3 s))∧Cg σ σ' r:=by
  refine AT.ob Tryz.func31 rfl ?_;have hx:=h.cx;have hb:RK σ a.b s.B:=h.cb;have hbl:=hs.bl;simp only[go_sem,hx];refine(Ahv hb (hs.bok (by omega))).p ?_;obtain⟨H,hH⟩:∃H,H=hdsF s.B:=⟨_,rfl⟩;have hl:=Bn (c:=Ai) (s:=[]) (l:=s.B.map De.hd);simp only[List.length_nil,List.length_map]at hl;have hHl:H.length≤800000000000:=by rw[hH];unfold hdsF;omega
  have hE:M3 s=H.filter fun y=>!decide (y.at'=s.me):=by rw[hH];rfl
  rw[←hH];simp only[go_sem,Aa];refine⟨fun m fr σ'=>∃(i:Nat) (lv:AV),m=H.length-i∧i≤H.length∧LAt 4 σ' lv (faC ((H.take i).filter fun y=>!decide (y.at'=s.me)))∧Cg σ σ' lv∧fr 0=ptr x∧fr 3=lv∧fr 4= .sl 4 (faC H)∧fr 5=int i,⟨_,0,A4,rfl,by omega,.none,.nil,rfl,rfl,rfl,rfl⟩,?_⟩;rintro m fr σ2 ⟨i,lv,rfl,hi,hL,hG,f0,f3,f4,f5⟩;have hx2:=(hG _ _ hx).1;simp only[go_sem,f4,f5,Aj];refine aIf_by (fun hlt=>?_) (fun hlt=>?_)
  ·have hil:i<H.length:=by omega
   have et:=Iw (p:=fun y:Fa=>!decide (y.at'=s.me)) hil;have nx:=As i (by omega);simp only[go_sem,Aa];refine Af [.rd 0 false,.rd 1 false,.rd 2 false,.rd 3 false,.rd 4 true,.rd 5 false,.rd 6 false,.rd 7 false,.rd 8 true,.rd 9 false] ?_;simp only[go_sem,Aa,f0,f4,f5,hx2,Aq hil,Aj];refine⟨by omega,?_⟩;by_cases e:H[i].at'=s.me
   ·rw[if_neg (by simpa using e),List.append_nil]at et
    simp only[go_sem,Aa,decide_eq_true e,f5,nx];exact⟨H.length-(i+1),by omega,i+1,lv,rfl,by omega,by rw[et];exact hL,hG,f0,f3,f4,rfl⟩
   ·rw[if_pos (by simpa using e)]at et
    have tl:((H.take i).filter fun y=>!decide (y.at'=s.me)).length≤H.length:=Nm;simp only[go_sem,Aa,decide_eq_false e,f3,f4,f5,Aq hil,Aj];refine⟨by omega,?_⟩;refine Ap (ys:=[H[i].cs]) rfl (by decide) (by decide) (by decide) (hL.app (by rw[Aj];simp only[List.length_cons,List.length_nil];omega) fun lv' σ5 hL5 hs5=>?_);have e5:faC ((H.take i).filter fun y=>!decide (y.at'=s.me))++[H[i].cs]=faC ((H.take (i+1)).filter fun y=>!decide (y.at'=s.me)):=by rw[et];simp[faC]
    rw[e5]at hL5;simp only[go_sem,Aa,f5,nx];exact⟨H.length-(i+1),by omega,i+1,lv',rfl,by omega,hL5,hG.step hs5,f0,rfl,f4,rfl⟩
  ·rw[List.take_of_length_le (by omega)]at hL
   simp only[go_sem,Aa,f3];exact Ae (r:=lv) rfl ⟨by rw[hE];exact hL,hG⟩
 exact hm.post (by kernel_rfl) fun r σ' ⟨h1,h2⟩=>⟨_,_,Gz h1 h2,rfl,rfl⟩
theorem Adh(h:EV true σ x a s hv)(hs:SOk n s)(hn:n≤800000000000)(f:Fa):
  AT Tryz.prog 43 [ptr x,.agg f.cs] σ fun r σ'=>r=int (Dp s f).1∧∃a',EV true σ' x a' (Dp s f).2 hv∧Frm x a a' σ σ':=by
 refine AT.ob Tryz.func43 rfl ?_;simp only[go_sem];refine Ctx.nil.alloc fun p σ2 c2=>?_;have hp:=c2.g0;have hsb:=c2.sub;have fp:=c2.f0;clear c2;have h2:=h.more hsb;have stay:∀{k:Int},Dp s f=(k,s)→∀{fr:Fr},A9 Tryz.prog fr σ2 (Tryz.f43).results.toList=some (int k)→Dw Tryz.prog (fun r σ'=>r=int (Dp s f).1∧∃a',EV true σ' x a' (Dp s f).2 hv∧Frm x a a' σ σ') (Tryz.f43).results.toList fr σ2:=fun e _ hr=>
  Ae hr ⟨by rw[e],a,by rw[e];exact h2,.of hsb⟩
 simp only[go_sem,hp];refine(Q1 f).p ?_;have hx2:=h2.cx;cases hok:okF f with
 |false=>
  have e1:okE f=40:=by unfold okE;rw[hok];rfl
  have d2:(!decide (okE f=0))=true:=by rw[e1];rfl
  simp only[go_sem,d2];exact stay (by unfold Dp;rw[hok];rfl) rfl
 |true=>
 have e1:okE f=0:=by unfold okE;rw[hok];rfl
 have d2:(!decide (okE f=0))=false:=by rw[e1];rfl
 have hfs:=Xs hok;simp only[go_sem,d2];refine Af [.rd 0 false,.rd 1 true,.rd 2 false,.rd 3 false,.rd 4 false,.rd 5 true,.rd 6 false] ?_;simp only[go_sem,hp,hx2];by_cases hat:f.at'=s.me
 case neg=>
  simp only[go_sem,decide_eq_false hat];exact stay (by unfold Dp;rw[hok,if_pos rfl,if_neg hat]) rfl
 simp only[go_sem,decide_eq_true hat];refine Af [.rd 0 false,.rd 1 false,.rd 2 false,.rd 3 true,.rd 4 true,.ef 5 []] ?_;have hgs:=h2.gsl;have hgl:=hs.gl;simp only[go_sem,hp,hx2,hgs];refine(El s.given f (by omega) hs.gs hfs).p ?_;by_cases hin:f∈s.given
 ·simp only[go_sem,decide_eq_true hin]
  exact stay (by unfold Dp;rw[hok,if_pos rfl,if_pos hat,if_pos hin]) rfl
 have hfr:Dp s f=(0,{s with given:=A1 Ai f s.given,queue:=s.queue++[f]}):=by
  unfold Dp;rw[hok,if_pos rfl,if_pos hat,if_neg hin,Ef,G8 hs.gr];rfl
 simp only[go_sem,decide_eq_false hin];refine Af [.rd 0 false,.rd 1 false,.rd 2 false,.rd 3 false,.rd 4 true,.rd 5 true,.ef 6 [],.rd 7 false,.rd 8 false,.ef 9 []] ?_;simp only[go_sem,hp,hx2,hgs];refine(H1 s.given f (by omega) hs.gs hfs).p ?_;obtain⟨kE,kF⟩:=h2.setH (l:=A1 Ai f s.given);have hpx:p≠x:=fun e=>by rw[e,h.cx]at fp;cases fp
 have esp:Az (evC true s a hv) 5 [.sl 4 (faC (A1 Ai f s.given))]=evC true {s with given:=A1 Ai f s.given} {a with gv:=.sl 4 (faC (A1 Ai f s.given))} hv:=rfl;simp only[go_sem,hx2,esp,kE.all1];have F3:=(Frm.of hsb).trans kF;obtain⟨s1,hs1⟩:∃s1:ES,s1={s with given:=A1 Ai f s.given}:=⟨_,rfl⟩;obtain⟨a1,ha1⟩:∃a1:EA,a1={a with gv:=.sl 4 (faC (A1 Ai f s.given))}:=⟨_,rfl⟩;rw[←hs1,←ha1]at kE F3⊢;have q1:s1.queue=s.queue:=by rw[hs1]
 have hp5:(σ2.set x (.cells (evC true s1 a1 hv))) p=some (.cells f.cs):=by rw[Ag hpx];exact hp
 clear kF esp;generalize σ2.set x (.cells (evC true s1 a1 hv))=σ5 at kE F3 hp5⊢;have hx5:=kE.cx;have hql:=hs.ql;refine Af [.rd 0 false,.rd 1 false,.rd 2 false,.rd 3 false,.rd 4 true,.rd 5 true,.rd 6 false,.ef 7 [],.rd 8 false,.rd 9 false,.ef 10 []] ?_;simp only[go_sem,hx5,hp5];refine Ap (ys:=[f.cs]) rfl (by decide) (by decide) (by decide) (kE.cq.app (by decide) (by simp) (by rw[Aj,q1];simp only[List.length_cons,List.length_nil];omega) fun v' σ4 k1 k2=>?_);rw[show faC s1.queue++[f.cs]=faC (s1.queue++[f]) by simp[faC]]at k1;obtain⟨kx,kE,kF⟩:=kE.setQ k1 k2;have esp:Az (evC true s1 a1 hv) 6 [v']=evC true {s1 with queue:=s1.queue++[f]} {a1 with qv:=v'} hv:=rfl;simp only[go_sem,kx,k1.one,k1.cells,esp,kE.all1];refine Ae (r:=int 0) rfl ⟨by rw[hfr],_,?_,F3.trans kF⟩;rw[hfr];rw[hs1]at kE⊢;exact kE
end
section
variable{σ:St}{x:Nat}{a:EA}{s:ES}{n:Nat}{hv:Bool}
set_option maxHeartbeats 1600000 in
theorem V3(h:EV true σ x a s hv)(hs:SOk n s)(hn:n≤800000000000)(i:Nat)(hi:i<s.rules.length)(body:List Fa)(hb:body.length=s.rules[i].bo.length)(hbs:∀y∈body,y.Sm):
  AT Tryz.prog 123 [ptr x,int i,.sl 4 (faC body)] σ fun _ σ'=>∃a',EV true σ' x a' (Dt s i body) hv∧Frm x a a' σ σ':=by
 refine AT.ob Tryz.func123 rfl ?_;have hf0:Dt s i body=match hdE s.me s.rules[i] body with
   |none=>s
   |some f=>if f.at'∈s.names∧okF f=true then
     if(⟨i,f,body⟩:De)∈s.B then s
     else if f.at'=s.me then(if f∈s.T then{s with B:=A1 Bg ⟨i,f,body⟩ s.B}else{s with B:=A1 Bg ⟨i,f,body⟩ s.B,queue:=s.queue++[f]})
     else(if 0<(ofF s.B f).length then{s with B:=A1 Bg ⟨i,f,body⟩ s.B}else{s with B:=A1 Bg ⟨i,f,body⟩ s.B,outs:=s.outs++[(f,false)]})
    else s:=by unfold Dt;rw[Dk hi];first|done|rfl
 have hr4:=hs.rs _ (List.getElem_mem hi);have hnl:=hs.nl;have hx:=h.cx;obtain⟨r,hr⟩:∃r,r=s.rules[i]:=⟨_,rfl⟩;rw[←hr]at hr4 hb hf0;have hr1:=hr4.1.1;have hr2:=hr4.1.2;have har:=hr4.2;have rg:(rlC s.rules).getD i []=r.cs:=by rw[hr];exact C4 hi
 have bl:=Aj body;simp only[go_sem,Aa,hx,rg,Ci];refine⟨by omega,Ctx.nil.alloc fun q σ2 c2=>?_⟩;obtain⟨σ3,e3,c3⟩:=c2.abs 0 rfl (.cells r.cs);have hq:σ3 q=some (.cells r.cs):=c3.g0;have hs3:=c3.sub;have h3:=h.more hs3;have hx3:=h3.cx;simp only[go_sem,Aa,c2.g0,e3];clear e3 c3 c2;refine Af [.rd 0 false,.rd 1 true,.rd 2 false,.rd 3 false,.rd 4 false,.rd 5 true,.ef 6 [1],.ef 7 [],.rd 8 false,.rd 9 false,.rd 10 false,.rd 11 false,.rd 12 false] ?_;simp only[go_sem,Aa,hq,hx3];refine(Ml s.me).p ?_;simp only[go_sem,Aa];refine⟨fun k hk=>?_,(AT.weak (H6 r.ho (nmC s.me) [] (by simp)) (vws_same (vws_same (vws_cons (.nil 4) By)))).mono ?_⟩
 ·simp only[go_sem,Aa,hq]
  exact hk
 rintro _ σ3 ⟨rfl,rfl⟩;obtain⟨ok0,E0,hE0,hok0⟩:∃(ok0:Bool) (E0:List Bi),I1 (Bd r.ho (nmC s.me) [])= .tup [.sl 4 (biC E0),boo ok0]∧(ok0=true→Bd r.ho (nmC s.me) []=some E0∧E0.length≤1)∧(ok0=false→Bd r.ho (nmC s.me) []=none∧E0=[]):=by
  cases hu:Bd r.ho (nmC s.me) []with
  |none=>exact⟨false,[],rfl,fun h=>(by cases h),fun _=>⟨rfl,rfl⟩⟩
  |some e=>
   have:=Gi hu;exact⟨true,e,rfl,fun _=>⟨rfl,by simpa using this⟩,fun h=>(by cases h)⟩
 rw[hE0];simp only[go_sem,Aa];refine⟨fun m fr σ'=>∃(j:Nat) (ok:Bool) (e:List Bi),m=body.length-j∧j≤body.length∧(ok=true→e.length≤10+302*j∧(Bd r.ho (nmC s.me) []).bind (Cy r.ho r.bo body)=Cy r.ho (r.bo.drop j) (body.drop j) e)∧(ok=false→e=[]∧(Bd r.ho (nmC s.me) []).bind (Cy r.ho r.bo body)=none)∧σ'=σ3∧fr 0=ptr x∧fr 1=int i∧fr 2= .sl 4 (faC body)∧fr 6=ptr q∧fr 7= .sl 4 (biC e)∧fr 8=boo ok∧fr 9=int j,⟨_,0,ok0,E0,rfl,by omega,fun h=>?_,fun h=>⟨(hok0.2 h).2,by rw[(hok0.2 h).1];rfl⟩,rfl,rfl,rfl,rfl,rfl,rfl,rfl,rfl⟩,?_⟩
 ·obtain⟨h1,h2⟩:=hok0.1 h
  exact⟨by omega,by rw[h1];rfl⟩
 clear hE0 hok0;have hdn:∀{o:Option (List Bi)},(Bd r.ho (nmC s.me) []).bind (Cy r.ho r.bo body)=o→hdE s.me r body=o.bind (C8 r):=fun{o} h=>by
  unfold hdE;rw[←h];cases Bd r.ho (nmC s.me) []<;>rfl
 rintro m fr σ3 ⟨j,ok,e,rfl,hj,hok1,hok2,rfl,f0,f1,f2,f6,f7,f8,f9⟩;by_cases g:j<body.length∧ok=true
 ·obtain⟨hjl,rfl⟩:=g
  obtain⟨hel,hck⟩:=hok1 rfl;have d1:=decide_eq_true (show(j:Int)<body.length by omega);have hjr:j<r.bo.length:=by omega
  have hla:=hr2 _ (List.getElem_mem hjr);rw[Y5 hjr hjl]at hck;simp only[go_sem,Aa,f2,f8,f9,bl,d1];refine Af [.rd 0 false,.rd 1 true,.rd 2 false,.rd 3 true,.rd 4 false,.rd 5 false,.rd 6 true,.rd 7 false,.rd 8 false,.rd 9 false,.rd 10 true,.rd 11 false,.ef 12 [],.rd 13 false,.rd 14 false,.rd 15 false,.rd 16 false,.rd 17 false] ?_;simp only[go_sem,Aa,f2,f6,f7,f9,hq,D6 hjr,Aq hjl,bl];refine⟨by omega,by omega,(X4 r.ho r.bo[j] body[j] e (by omega) (by omega)).p ?_⟩;have nx:=As j (by omega);cases hl:Be r.ho r.bo[j] body[j] e with
  |none=>
   rw[hl]at hck;have hck:(Bd r.ho (nmC s.me) []).bind (Cy r.ho r.bo body)=none:=hck;simp only[go_sem,Aa,f9,nx];exact⟨body.length-(j+1),by omega,j+1,false,[],rfl,by omega,(fun h=>by cases h),fun _=>⟨rfl,hck⟩,f0,f1,f2,f6,rfl,rfl,rfl⟩
  |some e2=>
   rw[hl]at hck;have hck:(Bd r.ho (nmC s.me) []).bind (Cy r.ho r.bo body)=Cy r.ho (r.bo.drop (j+1)) (body.drop (j+1)) e2:=hck;have:=O8 hl;simp only[go_sem,Aa,f9,nx];exact⟨body.length-(j+1),by omega,j+1,true,e2,rfl,by omega,(fun _=>⟨by omega,hck⟩),(fun h=>by cases h),f0,f1,f2,f6,rfl,rfl,rfl⟩
 have hee:e.length≤1000000:=by
  cases ok with
  |true=>have:=(hok1 rfl).1;omega
  |false=>rw[(hok2 rfl).1];simp
 have hE:hdE s.me r body=if ok=true then C8 r e else none:=by
  cases ok with
  |true=>
   have hje:j=body.length:=by
    by_cases e:j<body.length
    ·exact absurd ⟨e,rfl⟩ g
    ·omega
   have hck:=(hok1 rfl).2;rw[Y2 (by omega) (by omega)]at hck;rw[hdn hck];rfl
  |false=>rw[hdn (hok2 rfl).2];rfl
 clear hok1 hok2 hdn;by_cases hjl:j<body.length
 case' pos=>
  have d1:=decide_eq_true (show(j:Int)<body.length by omega);have hokf:ok=false:=by cases ok with
   |true=>exact absurd ⟨hjl,rfl⟩ g
   |false=>rfl
  simp only[go_sem,Aa,f2,f6,f7,f8,f9,bl,d1,hq,hokf]
 case' neg=>
  have d1:=decide_eq_false (show¬(j:Int)<body.length by omega);simp only[go_sem,Aa,f2,f6,f7,f8,f9,bl,d1,hq]
 all_goals
  refine(Aa0 r e (by omega) hee).p ?_;simp only[go_sem,Aa];refine Ctx.nil.alloc fun p σ4 c4=>?_;obtain⟨σ2,e2,c2⟩:=c4.abs 0 rfl (.cells ((C8 r e).getD .nil).cs);have hp:σ2 p=some (.cells ((C8 r e).getD .nil).cs):=c2.g0;have hsb:∀y o,σ y=some o→σ2 y=some o:=fun y o hy=>c2.sub _ _ (hs3 y o hy);have fp:σ p=none:=Df hs3 c4.f0;simp only[go_sem,Aa,c4.g0,e2];clear e2 c2 c4 h3 hx3 hq;have h2:=h.more hsb;have hx2:=h2.cx;have stay:Dt s i body=s→∀{fr:Fr} {σ':St},(∀y o,σ y=some o→σ' y=some o)→A9 Tryz.prog fr σ' (Tryz.f123).results.toList=some (.tup [])→Dw Tryz.prog (fun _ σ'=>∃a',EV true σ' x a' (Dt s i body) hv∧Frm x a a' σ σ') (Tryz.f123).results.toList fr σ':=fun e _ _ h2 hr=>
   Ae hr ⟨a,by rw[e];exact h.more h2,.of h2⟩
  refine Af [.rd 0 false,.rd 1 false,.rd 2 false,.rd 3 false,.rd 4 false,.rd 5 false,.rd 6 false,.rd 7 false,.rd 8 false,.rd 9 false,.rd 10 true,.rd 11 false,.rd 12 true,.ef 13 [],.rd 14 false,.rd 15 false,.rd 16 false,.rd 17 true,.ef 18 [],.rd 19 false,.rd 20 false] ?_;by_cases hok8:ok=true
  case neg=>
   have hokf:ok=false:=by cases ok with
    |true=>exact absurd rfl hok8
    |false=>rfl
   rw[if_neg hok8]at hE;rw[hE]at hf0;simp only[go_sem,Aa,f8,hokf,Bool.not_false];exact stay hf0 hsb rfl
  rw[if_pos hok8]at hE;rw[hE]at hf0;cases hh:C8 r e with
  |none=>
   rw[hh]at hf0;simp only[go_sem,Aa,f8,hok8,Bool.not_true,Option.isSome_none,Bool.not_false];exact stay hf0 hsb rfl
  |some f=>
  rw[hh]at hf0 hp;simp only[Option.getD_some]at hf0 hp;have hfs:f.Sm:=Aaa hr4 hh;simp only[go_sem,Aa,f0,f8,hok8,Bool.not_true,Option.isSome_some,hx2,hp];refine(Alq s.names f.at' (by omega)).p ?_;by_cases hnm:f.at'∈s.names
  case neg=>
   rw[if_neg fun h=>hnm h.1]at hf0;simp only[go_sem,Aa,decide_eq_false hnm,Bool.not_false];exact stay hf0 hsb rfl
  simp only[go_sem,Aa,decide_eq_true hnm,Bool.not_true,hp];refine(Q1 f).p ?_;cases hok:okF f with
  |false=>
   have e1:okE f=40:=by unfold okE;rw[hok];rfl
   have d2:(!decide (okE f=0))=true:=by rw[e1];rfl
   rw[if_neg fun h=>by rw[hok]at h;cases h.2]at hf0;simp only[go_sem,Aa,d2];exact stay hf0 hsb rfl
  |true=>
  have e1:okE f=0:=by unfold okE;rw[hok];rfl
  have d2:(!decide (okE f=0))=false:=by rw[e1];rfl
  rw[if_pos ⟨hnm,hok⟩]at hf0;have hbk:=hs.bok (by omega);have hb2:RK σ2 a.b s.B:=h2.cb;simp only[go_sem,Aa,d2];refine Af [.rd 0 false,.rd 1 false,.rd 2 false,.rd 3 true,.rd 4 true,.ef 5 [],.rd 6 false,.rd 7 false,.rd 8 false] ?_;simp only[go_sem,Aa,f0,hx2,hp];refine(Alu hb2 hbk f hfs).p ?_;obtain⟨d,hd⟩:∃d:De,d=⟨i,f,body⟩:=⟨_,rfl⟩;have hds:d.Sm:=by rw[hd];exact⟨hfs,by show body.length≤1000000000000;omega,hbs⟩
  rw[←hd]at hf0;simp only[go_sem,Aa,Au];refine Af [.rd 0 false,.rd 1 false,.rd 2 false,.rd 3 true,.rd 4 false,.rd 5 true,.rd 6 false,.rd 7 false,.ef 8 [],.rd 9 false] ?_;simp only[go_sem,Aa,f0,f1,f2,hx2,hp];refine⟨Nat.le_refl 5,?_⟩;show AT Tryz.prog 176 [ptr a.b,.agg (De.mk i f body).cs] _ _;rw[←hd];refine(Apj hb2 hbk d hds).mono ?_;rintro _ σ3 ⟨rfl,rfl⟩;by_cases hm:d∈s.B
  ·rw[if_pos hm]at hf0
   have e:σ2.set a.b (rkC (A1 Bg d s.B))=σ2:=by
    rw[D2 A8 (Fu A8 hbk.rises) hbk.rises fun y=>by rw[Cs A8];exact⟨fun h=>h.elim (fun e=>e▸hm) _root_.id,.inr⟩];exact B8 hb2
   rw[e];simp only[go_sem,Aa,decide_eq_true hm,Bool.not_true,Bool.not_false];exact stay hf0 hsb rfl
  rw[if_neg hm]at hf0;have hpb:p≠a.b:=fun e=>by rw[e,h.cb]at fp;cases fp
  have h3:=h2.setB (B:=A1 Bg d s.B);have hp3:(σ2.set a.b (bkT true (A1 Bg d s.B))) p=some (.cells f.cs):=by rw[Ag hpb];exact hp
  have F3:Frm x a a σ (σ2.set a.b (bkT true (A1 Bg d s.B))):=(Frm.of hsb).trans .setB;rw[show rkC (A1 Bg d s.B)=bkT true (A1 Bg d s.B)from rfl];obtain⟨s1,hs1⟩:∃s1:ES,s1={s with B:=A1 Bg d s.B}:=⟨_,rfl⟩;rw[←hs1]at h3;have m1:s1.me=s.me:=by rw[hs1]
  have q1:s1.queue=s.queue:=by rw[hs1]
  have o1:s1.outs=s.outs:=by rw[hs1]
  have T1:s1.T=s.T:=by rw[hs1]
  generalize σ2.set a.b (bkT true (A1 Bg d s.B))=σ3 at h3 hp3 F3⊢;have hx3:=h3.cx;have ht3:σ3 a.t=some (.cells [.sl 4 (faC s1.T),int s1.lim]):=h3.ct;have done:Dt s i body=s1→∀{fr:Fr},A9 Tryz.prog fr σ3 (Tryz.f123).results.toList=some (.tup [])→Dw Tryz.prog (fun _ σ'=>∃a',EV true σ' x a' (Dt s i body) hv∧Frm x a a' σ σ') (Tryz.f123).results.toList fr σ3:=fun e _ hr=>
   Ae hr ⟨a,by rw[e];exact h3,F3⟩
  simp only[go_sem,Aa,decide_eq_false hm,Bool.not_false,Bool.not_true];refine Af [.rd 0 false,.rd 1 true,.rd 2 false,.rd 3 false,.rd 4 false,.rd 5 true,.rd 6 false] ?_;by_cases hat:f.at'=s.me
  ·rw[if_pos hat]at hf0
   simp only[go_sem,Aa,f0,hx3,hp3,m1,decide_eq_true hat];refine Af [.rd 0 false,.rd 1 false,.rd 2 false,.rd 3 true,.rd 4 false,.rd 5 false,.rd 6 true,.rd 7 true,.ef 8 [],.rd 9 false] ?_;simp only[go_sem,Aa,f0,hx3,hp3,ht3];have htok:TOk s1.T s1.lim:=by rw[hs1];exact hs.tok
   have htl:=htok.len;refine(El s1.T f (by omega) htok.sm hfs).p ?_;rw[T1];by_cases hin:f∈s.T
   ·rw[if_pos hin]at hf0
    simp only[go_sem,Aa,decide_eq_true hin,Bool.not_true];exact done (by rw[hf0,hs1]) rfl
   ·rw[if_neg hin]at hf0
    simp only[go_sem,Aa,decide_eq_false hin,Bool.not_false];refine Af [.rd 0 false,.rd 1 false,.rd 2 false,.rd 3 false,.rd 4 true,.rd 5 true,.rd 6 false,.ef 7 [],.rd 8 false,.rd 9 false,.ef 10 []] ?_;simp only[go_sem,Aa,f0,hx3,hp3];have hql:=hs.ql;refine Ap (ys:=[f.cs]) rfl (by decide) (by decide) (by decide) (h3.cq.app (by decide) (by simp) (by rw[Aj,q1];simp only[List.length_cons,List.length_nil];omega) fun v' σ4 k1 k2=>?_);rw[show faC s1.queue++[f.cs]=faC (s1.queue++[f]) by simp[faC]]at k1;obtain⟨kx,kE,kF⟩:=h3.setQ k1 k2;have esp:Az (evC true s1 a hv) 6 [v']=evC true {s1 with queue:=s1.queue++[f]} {a with qv:=v'} hv:=rfl;simp only[go_sem,Aa,kx,k1.one,k1.cells,esp,kE.all1];refine Ae (r:=.tup []) rfl ⟨_,?_,F3.trans kF⟩;rw[hf0];rw[hs1]at kE⊢;exact kE
  ·rw[if_neg hat]at hf0
   by_cases hwas:0<(ofF s.B f).length
   ·rw[if_pos hwas]at hf0
    have d5:=decide_eq_true (show(0:Int)<(ofF s.B f).length by omega);simp only[go_sem,Aa,f0,hx3,hp3,m1,decide_eq_false hat,d5,Bool.not_true];exact done (by rw[hf0,hs1]) rfl
   ·rw[if_neg hwas]at hf0
    have d5:=decide_eq_false (show¬(0:Int)<(ofF s.B f).length by omega);simp only[go_sem,Aa,f0,hx3,hp3,m1,decide_eq_false hat,d5,Bool.not_false];refine Af [.rd 0 false,.rd 1 false,.rd 2 false,.rd 3 false,.rd 4 true,.rd 5 true,.rd 6 false,.rd 7 false,.ef 8 [],.rd 9 false,.rd 10 false,.ef 11 []] ?_;simp only[go_sem,Aa,f0,hx3,hp3];have hol:=hs.ol;refine⟨rfl,rfl,?_⟩;refine Ap (ys:=[f.cs++[boo false]]) rfl (by decide) (by decide) (by decide) (h3.co.app (by rw[Sa,o1];simp only[List.length_cons,List.length_nil];omega) fun v' σ4 k1 k2=>?_);rw[show ouC s1.outs++[f.cs++[boo false]]=ouC (s1.outs++[(f,false)]) by simp[ouC]]at k1;obtain⟨kx,kE,kF⟩:=h3.setO k1 k2;have esp:Az (evC true s1 a hv) 7 [v']=evC true {s1 with outs:=s1.outs++[(f,false)]} {a with ov:=v'} hv:=rfl;simp only[go_sem,Aa,kx,k1.one,k1.cells,esp,kE.all1];refine Ae (r:=.tup []) rfl ⟨_,?_,F3.trans kF⟩;rw[hf0];rw[hs1]at kE⊢;exact kE
end
theorem Ajx(ho:Tm):∀(ls:List (Li×List Fa)) (env:List Bi) (got:List Fa) (s:List (List Fa)×Nat),(∀x∈got,x.Sm)→(∀p∈ls,∀x∈p.2,x.Sm)→∀a∈(frm ho ls env got s).1,a∈s.1∨(a.length=got.length+ls.length∧∀y∈a,y.Sm)
 | [],env,got,s,h2,h3,a,ha=>by
  rcases(Cs Dm).1 ha with rfl|ha
  ·exact .inr ⟨rfl,h2⟩
  ·exact .inl ha
 |p::ls,env,got,s,h2,h3,a,ha=>by
  rw[Oq]at ha;have h3':=h3 p (List.mem_cons_self ..);revert ha;generalize p.2=l at h3'
  induction l generalizing s with
  |nil=>exact fun ha=>.inl ha
  |cons x l ih=>
   rw[List.foldl_cons];intro ha;rcases ih _ (fun y hy=>h3' y (List.mem_cons_of_mem _ hy)) ha with hb|hb
   ·revert hb
    unfold stp;split
    ·exact fun hb=>.inl hb
    ·split
     ·rename_i e _
      intro hb
      rcases Ajx ho ls e (got++[x]) (s.1,s.2+1) (fun y hy=>by
       rcases List.mem_append.1 hy with hy|hy
       ·exact h2 y hy
       ·rw[List.mem_singleton.1 hy];exact h3' x (List.mem_cons_self ..)) (fun p hp=>h3 p (List.mem_cons_of_mem _ hp)) a hb with h|h
      ·exact .inl h
      ·exact .inr ⟨by rw[h.1];simp only[List.length_append,List.length_cons,List.length_nil];omega,h.2⟩
     ·exact fun hb=>.inl hb
   ·exact .inr hb
theorem W3{r:Rl}{me:ByteArray}{first:Int}{f:Fa}{l:List Fa}(hf:f.Sm)(hl:∀y∈l,y.Sm):∀b∈(Kh r me first f l).1,b.length=r.bo.length∧∀y∈b,y.Sm:=by
 unfold Kh;split
 ·intro b hb
  rcases Ajx r.ho (lsF r first f l 0 r.bo.length) _ [] ([],0) (fun y hy=>by cases hy) (fun p hp y hy=>by
   unfold lsF at hp;obtain⟨j,_,rfl⟩:=List.mem_map.1 hp;simp only at hy;unfold Ca at hy;split at hy
   ·rw[List.mem_singleton.1 hy];exact hf
   ·exact hl y hy) b hb with h|h
  ·cases h
  ·exact⟨by rw[h.1];simp[lsF],h.2⟩
 ·intro b hb;cases hb
theorem docl{r:Rl}{me:ByteArray}{first:Int}{f:Fa}{l:List Fa}:(Kh r me first f l).1.length≤30002:=by
 unfold Kh;split
 ·have:=Aci r.ho (lsF r first f l 0 r.bo.length) ‹_› [] ([],0) (by simp) (by simp)
  omega
 ·simp
section
variable{σ:St}{x:Nat}{a:EA}{s:ES}{n:Nat}{hv:Bool}
theorem Ig{r:Bool}(h:EV r σ x a s hv){y:Nat}(hf:Bo x a y):∃o,σ y=some o:=by
 rcases hf with rfl|rfl|rfl|e|e|e
 ·exact⟨_,h.cx⟩
 ·exact⟨_,h.ct⟩
 ·exact⟨_,h.cb⟩
 ·obtain⟨c,hc⟩:=h.grow e;exact⟨_,hc⟩
 ·obtain⟨r,c,hc⟩:=h.cq.rows e;exact⟨_,hc⟩
 ·obtain⟨c,hc⟩:=h.co.own_rows e;exact⟨_,hc⟩
theorem EV.heavy(h:EV true σ x a s hv){hv':Bool}:EV true (σ.set x (.cells (evC true s a hv'))) x a s hv':=h.setX (f:=s.full) (hv':=hv')
theorem Aa1(h:EV true σ x a s hv)(hs:SOk n s)(hn:n+60004≤800000000000)(i:Nat)(hi:i<s.rules.length)(j:Int)(f:Fa)(hf:f.Sm):
  AT Tryz.prog 68 [ptr x,int i,int j,.agg f.cs] σ fun _ σ'=>∃a',EV true σ' x a' (bdS i (Kh s.rules[i] s.me j f s.T).1 s) (hv||decide (30000<(Kh s.rules[i] s.me j f s.T).2))∧Frm x a a' σ σ':=by
 refine AT.ob Tryz.func68 rfl ?_;have hr4:=hs.rs _ (List.getElem_mem hi);have htl:=hs.tok.len;obtain⟨r,hr⟩:∃r,r=s.rules[i]:=⟨_,rfl⟩;rw[←hr]at hr4⊢;have rg:(rlC s.rules).getD i []=r.cs:=by rw[hr];exact C4 hi
 simp only[go_sem];refine Ctx.nil.alloc fun p σ1 c1=>?_;simp only[go_sem];refine c1.alloc fun w σ2 c2=>?_;have hp:=c2.g1.1.2;have hs2:=c2.sub;have h2:=h.more hs2;have hx2:=h2.cx;have ht2:σ2 a.t=some (.cells [.sl 4 (faC s.T),int s.lim]):=h2.ct;have fw:=c2.f0;have hw2:=c2.g1.1.1;have hF:FI σ σ2 w [] 0:=⟨A4,by rw[c2.g0];rfl,.none,fun y o hy=>⟨hs2 y o hy,fun e=>(by rw[e,fw]at hy;cases hy),B4⟩⟩;have nw:¬Bo x a w:=fun hf=>by obtain⟨o,ho⟩:=Ig h hf;rw[fw]at ho;cases ho
 clear c1 c2;simp only[go_sem];refine Af [.rd 0 false,.rd 1 false,.rd 2 false,.rd 3 false,.rd 4 true,.rd 5 false,.rd 6 false,.rd 7 true,.rd 8 false,.rd 9 false,.rd 10 false,.rd 11 true,.rd 12 false,.rd 13 true,.rd 14 false,.rd 15 false,.rd 16 false,.rd 17 true,.rd 18 false,.rd 19 false,.rd 20 true,.ef 21 []] ?_;simp only[go_sem,hx2,rg,Ci,hp,ht2];refine⟨by omega,(Adb r s.me j f s.T hr4.1 hf (by omega) hs.tok.sm hF).mono ?_⟩;rintro _ σ3 ⟨lv,k1,k2,k3⟩;obtain⟨D,hD⟩:∃D,D=Kh r s.me j f s.T:=⟨_,rfl⟩;rw[←hD]at k1 k2⊢;have hDl:D.1.length≤30002:=by rw[hD];exact docl
 have hDe:∀b∈D.1,b.length=r.bo.length∧∀y∈b,y.Sm:=by rw[hD];exact W3 hf hs.tok.sm
 have h3:EV true σ3 x a s hv:=h.keep fun y o hy _=>(k3 y o hy).1;have F3:Frm x a a σ σ3:=.of fun y o hy=>(k3 y o hy).1;have nlv:∀y,Own lv y→¬Bo x a y:=fun y ho hf=>by
  obtain⟨o,hy⟩:=Ig h hf;exact(k3 y o hy).2.2 ho
 clear h2 hx2 ht2 hp hw2 hF hs2 k3 fw hD;have hx3:=h3.cx;obtain⟨hv',hhv⟩:∃hv',hv'=(hv||decide (30000<D.2)):=⟨_,rfl⟩;rw[←hhv];have h4:=h3.heavy (hv':=hv');have F4:Frm x a a σ (σ3.set x (.cells (evC true s a hv'))):=F3.trans .setX;have nwx:w≠x:=fun e=>nw (.inl e);have kw4:(σ3.set x (.cells (evC true s a hv'))) w=some (.cells [lv,int D.2,boo (decide (30000<D.2))]):=by rw[Ag nwx];exact k1
 have L4:LAt 1 (σ3.set x (.cells (evC true s a hv'))) lv (boC D.1):=k2.keep fun y o hy ho=>by rw[Ag fun e=>nlv y ho (.inl e)];exact hy
 have esp:Az (evC true s a hv) 9 [boo hv']=evC true s a hv':=rfl;have bcl:(boC D.1).length=D.1.length:=by simp[boC]
 generalize hσ4:σ3.set x (.cells (evC true s a hv'))=σ4 at h4 F4 kw4 L4;cases hv with
 |true=>
  have e1:hv'=true:=by rw[hhv];rfl
  rw[e1]at esp hσ4;simp only[go_sem,hx3,esp,hσ4];clear k1 k2 hx3 h3 F3 esp hσ4 hhv;have O0:SOk (n+2*0) s:=hs;refine⟨fun m fr σ'=>∃(k:Nat) (a':EA) (s':ES),m=D.1.length-k∧k≤D.1.length∧s'=bdS i (D.1.take k) s∧SOk (n+2*k) s'∧EV true σ' x a' s' hv'∧Frm x a a' σ σ'∧σ' w=some (.cells [lv,int D.2,boo (decide (30000<D.2))])∧¬Bo x a' w∧LAt 1 σ' lv (boC D.1)∧(∀y,Own lv y→¬Bo x a' y)∧fr 0=ptr x∧fr 1=int i∧fr 8=ptr w∧fr 9=int k,⟨_,0,a,s,rfl,by omega,rfl,O0,h4,F4,kw4,nw,L4,nlv,rfl,rfl,rfl,rfl⟩,?_⟩;clear O0 h4 F4 kw4 nw L4 nlv;rintro m fr σ5 ⟨k,a',s',rfl,hk,hs',hO,hE,hF,kw,nw,hL,nlv,f0,f1,f8,f9⟩;simp only[go_sem,f8,f9,kw,hL.len,bcl];refine aIf_by (fun hlt=>?_) (fun hlt=>?_)
  ·have hkl:k<D.1.length:=by omega
   have hb:=hDe _ (List.getElem_mem hkl);have K':SK s s':=by rw[hs'];exact Gb _ _ _
   have hil':i<s'.rules.length:=by rw[K'.rules];exact hi
   have hri:s'.rules[i]=r:=by rw[hr];exact List.getElem_of_eq K'.rules hil'
   have O2:SOk (n+2*(k+1)) (Dt s' i D.1[k]):=Tn hO i (by have:=hr4.1.1;omega) hb.2;simp only[go_sem,Aa,f0,f1,f8,f9,kw];refine hL.elem (by omega) (by rw[bcl];omega) fun e0 he0=>?_;simp only[go_sem,Aa];refine he0.load1 (by decide) (by rw[Int.toNat_natCast,Db hkl];exact Nat.le_refl 1) ?_;simp only[go_sem,Aa,Db hkl];refine(V3 hE hO (by omega) i hil' D.1[k] (by rw[hri];exact hb.1) hb.2).mono ?_;rintro _ σ6 ⟨a2,E2,G2⟩;have kw2:=G2 _ _ kw nw;simp only[go_sem,Aa,f9,As k (by omega)]
   exact⟨D.1.length-(k+1),by omega,k+1,a2,_,rfl,by omega,by rw[N6 _ hkl,hs'],O2,E2,hF.trans G2,kw2.1,kw2.2,hL.keep fun y o hy ho=>(G2 y o hy (nlv y ho)).1,fun y ho=>by
    obtain⟨c,hc⟩:=hL.own_rows ho;exact(G2 y _ hc (nlv y ho)).2,f0,f1,f8,rfl⟩
  ·have ek:k=D.1.length:=by omega
   rw[ek,List.take_length]at hs';simp only[go_sem,Aa];exact Ae (r:=.tup []) rfl ⟨a',by rw[←hs'];exact hE,hF⟩
 |false=>
  have e1:hv'=decide (30000<D.2):=by rw[hhv];rfl
  rw[e1]at esp hσ4;simp only[go_sem,hx3,k1,esp,hσ4];clear k1 k2 hx3 h3 F3 esp hσ4 hhv;have O0:SOk (n+2*0) s:=hs;refine⟨fun m fr σ'=>∃(k:Nat) (a':EA) (s':ES),m=D.1.length-k∧k≤D.1.length∧s'=bdS i (D.1.take k) s∧SOk (n+2*k) s'∧EV true σ' x a' s' hv'∧Frm x a a' σ σ'∧σ' w=some (.cells [lv,int D.2,boo (decide (30000<D.2))])∧¬Bo x a' w∧LAt 1 σ' lv (boC D.1)∧(∀y,Own lv y→¬Bo x a' y)∧fr 0=ptr x∧fr 1=int i∧fr 8=ptr w∧fr 9=int k,⟨_,0,a,s,rfl,by omega,rfl,O0,h4,F4,kw4,nw,L4,nlv,rfl,rfl,rfl,rfl⟩,?_⟩;clear O0 h4 F4 kw4 nw L4 nlv;rintro m fr σ5 ⟨k,a',s',rfl,hk,hs',hO,hE,hF,kw,nw,hL,nlv,f0,f1,f8,f9⟩;simp only[go_sem,f8,f9,kw,hL.len,bcl];refine aIf_by (fun hlt=>?_) (fun hlt=>?_)
  ·have hkl:k<D.1.length:=by omega
   have hb:=hDe _ (List.getElem_mem hkl);have K':SK s s':=by rw[hs'];exact Gb _ _ _
   have hil':i<s'.rules.length:=by rw[K'.rules];exact hi
   have hri:s'.rules[i]=r:=by rw[hr];exact List.getElem_of_eq K'.rules hil'
   have O2:SOk (n+2*(k+1)) (Dt s' i D.1[k]):=Tn hO i (by have:=hr4.1.1;omega) hb.2;simp only[go_sem,Aa,f0,f1,f8,f9,kw];refine hL.elem (by omega) (by rw[bcl];omega) fun e0 he0=>?_;simp only[go_sem,Aa];refine he0.load1 (by decide) (by rw[Int.toNat_natCast,Db hkl];exact Nat.le_refl 1) ?_;simp only[go_sem,Aa,Db hkl];refine(V3 hE hO (by omega) i hil' D.1[k] (by rw[hri];exact hb.1) hb.2).mono ?_;rintro _ σ6 ⟨a2,E2,G2⟩;have kw2:=G2 _ _ kw nw;simp only[go_sem,Aa,f9,As k (by omega)]
   exact⟨D.1.length-(k+1),by omega,k+1,a2,_,rfl,by omega,by rw[N6 _ hkl,hs'],O2,E2,hF.trans G2,kw2.1,kw2.2,hL.keep fun y o hy ho=>(G2 y o hy (nlv y ho)).1,fun y ho=>by
    obtain⟨c,hc⟩:=hL.own_rows ho;exact(G2 y _ hc (nlv y ho)).2,f0,f1,f8,rfl⟩
  ·have ek:k=D.1.length:=by omega
   rw[ek,List.take_length]at hs';simp only[go_sem,Aa];exact Ae (r:=.tup []) rfl ⟨a',by rw[←hs'];exact hE,hF⟩
end
def lkD(me:ByteArray)(f:Fa)(T:List Fa)(i:Nat)(r:Rl)(j:Int)(P:ES×Bool):ES×Bool:=(bdS i (Kh r me j f T).1 P.1,P.2||decide (30000<(Kh r me j f T).2))
def ltD(me:ByteArray)(f:Fa)(T:List Fa)(i:Nat)(r:Rl)(k:Nat)(P:ES×Bool):ES×Bool:=(List.range k).foldl (fun P (j:Nat)=>lkD me f T i r (j:Int) P) P
def rlD(me:ByteArray)(f:Fa)(T:List Fa)(rules:List Rl)(k:Nat)(P:ES×Bool):ES×Bool:=(List.range k).foldl (fun P i=>ltD me f T i (rules.getD i rlZ) (rules.getD i rlZ).bo.length P) P
def Cz(s:ES)(hv:Bool):Bool×(ES×Bool):=if s.full=true then(false,s,hv)else match s.queue with
 | []=>(false,s,hv)
 |f::q=>if f∈s.T∨(f∉s.given∧(ofF s.B f).length=0)then(true,{s with queue:=q},hv)
  else if(Bs s.T s.lim f).2=0 then(true,rlD s.me f (Bs s.T s.lim f).1 s.rules s.rules.length ({s with queue:=q,T:=(Bs s.T s.lim f).1},hv))
  else(true,{s with queue:=q,T:=(Bs s.T s.lim f).1,full:=true},hv)
theorem Pd{me:ByteArray}{f:Fa}{T:List Fa}{i:Nat}{r:Rl}{k:Nat}{P:ES×Bool}:ltD me f T i r (k+1) P=lkD me f T i r k (ltD me f T i r k P):=by
 unfold ltD;rw[List.range_succ,List.foldl_append];rfl
theorem Pr{me:ByteArray}{f:Fa}{T:List Fa}{rules:List Rl}{k:Nat}{P:ES×Bool}:rlD me f T rules (k+1) P=ltD me f T k (rules.getD k rlZ) (rules.getD k rlZ).bo.length (rlD me f T rules k P):=by
 unfold rlD;rw[List.range_succ,List.foldl_append];rfl
theorem Tw(me:ByteArray)(f:Fa)(T:List Fa)(i:Nat)(r:Rl)(P:ES×Bool):∀k,SK P.1 (ltD me f T i r k P).1
 |0=>.refl _
 |k+1=>by rw[Pd];exact(Tw me f T i r P k).trans (Gb i _ _)
theorem Lv(me:ByteArray)(f:Fa)(T:List Fa)(rules:List Rl)(P:ES×Bool):∀k,SK P.1 (rlD me f T rules k P).1
 |0=>.refl _
 |k+1=>by rw[Pr];exact(Lv me f T rules P k).trans (Tw me f T k _ _ _)
theorem Akv{me:ByteArray}{f:Fa}{T:List Fa}{i:Nat}{r:Rl}{j:Int}{P:ES×Bool}(h:(lkD me f T i r j P).2=false):P.2=false∧(lkD me f T i r j P).1=bdS i (Ea r me j f T) P.1∧(Je r me j f T).length≤30001:=by
 unfold lkD at h⊢;simp only[Bool.or_eq_false_iff,decide_eq_false_iff_not]at h;obtain⟨h1,h2⟩:=h;have h3:=Am7 (r:=r) (me:=me) (first:=j) (f:=f) (l:=T) (by omega);exact⟨h1,by simp only;rw[h3.1],h3.2⟩
theorem Akw{me:ByteArray}{f:Fa}{T:List Fa}{i:Nat}{r:Rl}{P:ES×Bool}:∀k,(ltD me f T i r k P).2=false→P.2=false∧(ltD me f T i r k P).1=ltS me f T i r k P.1∧∀j:Nat,j<k→(Je r me j f T).length≤30001
 |0,h=>⟨h,rfl,fun j hj=>by omega⟩
 |k+1,h=>by
  rw[Pd]at h⊢;obtain⟨h1,h2,h3⟩:=Akv h;obtain⟨k1,k2,k3⟩:=Akw k h1;refine⟨k1,by rw[h2,k2,Il],fun j hj=>?_⟩;by_cases e:j=k
  ·subst e;exact h3
  ·exact k3 j (by omega)
theorem Adi{me:ByteArray}{f:Fa}{T:List Fa}{rules:List Rl}{P:ES×Bool}:∀k,k≤rules.length→(rlD me f T rules k P).2=false→P.2=false∧(rlD me f T rules k P).1=rlS me f T rules k P.1∧∀i (hi:i<rules.length),i<k→∀j:Nat,j<rules[i].bo.length→(Je rules[i] me j f T).length≤30001
 |0,_,h=>⟨h,rfl,fun i hi hk=>by omega⟩
 |k+1,hk,h=>by
  rw[Pr]at h⊢;obtain⟨h1,h2,h3⟩:=Akw _ h;obtain⟨k1,k2,k3⟩:=Adi k (by omega) h1;refine⟨k1,by rw[h2,k2,Iv],fun i hi hik j hj=>?_⟩;by_cases e:i=k
  ·subst e
   rw[Dk hi]at h3;exact h3 j hj
  ·exact k3 i hi (by omega) j hj
theorem Yg{s:ES}{hv:Bool}(h:(Cz s hv).2.2=false):hv=false∧(Cz s hv).1=(A5 s).1∧(Cz s hv).2.1=(A5 s).2:=by
 unfold Cz A5 at*;split at h
 ·rename_i h1;rw[if_pos h1,if_pos h1];exact⟨h,rfl,rfl⟩
 rename_i h1;rw[if_neg h1,if_neg h1];cases hq:s.queue with
 |nil=>rw[hq]at h;exact⟨h,rfl,rfl⟩
 |cons f q=>
  rw[hq]at h;simp only at h⊢;split at h
  ·rename_i h2;rw[if_pos h2,if_pos h2];exact⟨h,rfl,rfl⟩
  rename_i h2;rw[if_neg h2,if_neg h2];split at h
  ·rename_i h3;rw[if_pos h3,if_pos h3]
   obtain⟨k1,k2,_⟩:=Adi _ (Nat.le_refl _) h;exact⟨k1,rfl,k2⟩
  ·rename_i h3;rw[if_neg h3,if_neg h3];exact⟨h,rfl,rfl⟩
theorem Yh{s:ES}{hv:Bool}(h:(Cz s hv).2.2=false):Hv s:=fun hfu f q hq hns hp=>by
 unfold Cz at h;rw[if_neg (by rw[hfu];simp),hq]at h;simp only at h;rw[if_neg hns,if_pos hp]at h;obtain⟨_,_,k3⟩:=Adi _ (Nat.le_refl _) h;exact fun i hi j hj=>k3 i hi hi j hj
section
variable{σ:St}{x:Nat}{a:EA}{s:ES}{n:Nat}{hv:Bool}
set_option maxHeartbeats 1600000 in
theorem Aa3(h:EV true σ x a s hv)(hs:SOk n s)(hn:n+Cr s.rules s.rules.length*60004+60004≤800000000000):
  AT Tryz.prog 45 [ptr x] σ fun r σ'=>r=boo (Cz s hv).1∧∃a',EV true σ' x a' (Cz s hv).2.1 (Cz s hv).2.2∧Frm x a a' σ σ':=by
 refine AT.ob Tryz.func45 rfl ?_;have hx:=h.cx;cases hfu:s.full with
 |true=>
  have e:Cz s hv=(false,s,hv):=by unfold Cz;rw[hfu];rfl
  simp only[go_sem,hx,hfu];exact Ae (r:=boo false) rfl ⟨by rw[e],a,by rw[e];exact h,.refl⟩
 |false=>
 cases hq:s.queue with
 |nil=>
  have e:Cz s hv=(false,s,hv):=by unfold Cz;rw[hfu,hq];rfl
  have d0:decide ((s.queue.length:Int)=0)=true:=by rw[hq];rfl
  simp only[go_sem,hx,hfu,h.cq.len,Aj,d0];exact Ae (r:=boo false) rfl ⟨by rw[e],a,by rw[e];exact h,.refl⟩
 |cons f q=>
 have d0:decide ((s.queue.length:Int)=0)=false:=by rw[hq];simp;omega
 have hfs:f.Sm:=hs.qs f (by rw[hq];simp);have hcq:LQ 4 σ a.qv (f.cs::faC q):=by have:=h.cq;rw[hq]at this;exact this
 have hst:Cz s hv=if f∈s.T∨(f∉s.given∧(ofF s.B f).length=0)then(true,{s with queue:=q},hv)
  else if(Bs s.T s.lim f).2=0 then(true,rlD s.me f (Bs s.T s.lim f).1 s.rules s.rules.length ({s with queue:=q,T:=(Bs s.T s.lim f).1},hv))
  else(true,{s with queue:=q,T:=(Bs s.T s.lim f).1,full:=true},hv):=by unfold Cz;rw[hfu,if_neg (by simp),hq]
 simp only[go_sem,hx,hfu,h.cq.len,Aj,d0];refine hcq.first (by decide) rfl fun pp hpp=>?_;simp only[go_sem,Aa];refine hpp _ _ _ ?_;simp only[go_sem,Aa];refine Ctx.nil.alloc fun p σ1 c1=>?_;obtain⟨σ2,e2,c2⟩:=c1.abs 0 rfl (.cells f.cs);have hp:σ2 p=some (.cells f.cs):=c2.g0;have hsb:=c2.sub;have fp:σ p=none:=c1.f0;have h2:=h.more hsb;have hx2:=h2.cx;have hcq2:LQ 4 σ2 a.qv (f.cs::faC q):=hcq.keep fun y o hy _=>hsb y o hy;simp only[go_sem,Aa,c1.g0,e2,hx2];clear e2 c2 c1 hpp;refine hcq2.tail fun v' k1 k2=>?_;obtain⟨kx,kE,kF⟩:=h2.setQ (l:=q) (σ1:=σ2) k1 fun y o hy hn=>⟨hy,fun e=>hn ((k2 y).1 e)⟩;have esp:Az (evC true s a hv) 6 [v']=evC true {s with queue:=q} {a with qv:=v'} hv:=rfl;simp only[go_sem,Aa,hx2,k1.one,k1.cells,esp,kE.all1];have npa:¬Bo x a p:=fun hf=>by obtain⟨o,ho⟩:=Ig h hf;rw[fp]at ho;cases ho
 have kp:=kF _ _ hp npa;have F3:=(Frm.of hsb).trans kF;obtain⟨a1,ha1⟩:∃a1:EA,a1={a with qv:=v'}:=⟨_,rfl⟩;obtain⟨s1,hs1⟩:∃s1:ES,s1={s with queue:=q}:=⟨_,rfl⟩;rw[←hs1,←ha1]at kE F3 kp⊢;have K1:SK s s1:=by rw[hs1];exact⟨rfl,rfl,rfl,rfl,rfl,rfl,rfl⟩
 have B1:s1.B=s.B:=by rw[hs1]
 have O1:SOk n s1:=by
  have:=hs.ql;rw[hq]at this;rw[hs1];exact{hs with ql:=(by show q.length≤n;simp only[List.length_cons]at this;omega),qs:=fun y hy=>hs.qs y (by rw[hq];exact List.mem_cons_of_mem _ hy)}
 clear kx kF hx2 h2 k1 k2 hcq2 hcq hp esp;generalize σ2.set x (.cells (evC true s1 a1 hv))=σ3 at kE F3 kp⊢;obtain⟨hp,np⟩:=kp;have hx3:=kE.cx;have ht3:TB σ3 a1.t s.T s.lim:=by have:=kE.ct;rw[K1.T,K1.lim]at this;exact this
 have hg3:a1.gv= .sl 4 (faC s.given):=by have:=kE.gsl;rw[K1.given]at this;exact this
 have hb3:RK σ3 a1.b s.B:=by have:=kE.cb;rw[B1]at this;exact this
 have hgl:=hs.gl;have hbk:=hs.bok (by omega);have htl:=hs.tok.len;have ht3':σ3 a1.t=some (.cells [.sl 4 (faC s.T),int s.lim]):=ht3;have skip:Cz s hv=(true,s1,hv)→∀{fr:Fr},A9 Tryz.prog fr σ3 (Tryz.f45).results.toList=some (boo true)→Dw Tryz.prog (fun r σ'=>r=boo (Cz s hv).1∧∃a',EV true σ' x a' (Cz s hv).2.1 (Cz s hv).2.2∧Frm x a a' σ σ') (Tryz.f45).results.toList fr σ3:=fun e _ hr=>
  Ae hr ⟨by rw[e],a1,by rw[e];exact kE,F3⟩
 refine Af [.rd 0 false,.rd 1 false,.rd 2 false,.rd 3 true,.rd 4 true,.ef 5 [],.rd 6 false,.rd 7 false,.rd 8 false,.rd 9 false,.rd 10 true,.rd 11 true,.ef 12 [],.rd 13 false,.rd 14 false,.rd 15 false,.rd 16 false] ?_;simp only[go_sem,Aa,hx3,hp,hg3];refine(El s.given f (by omega) hs.gs hfs).p ?_;by_cases hgi:f∈s.given
 case' pos=>
  simp only[go_sem,Aa,decide_eq_true hgi];refine Af [.rd 0 false,.rd 1 false,.rd 2 false,.rd 3 false,.rd 4 false,.rd 5 false,.rd 6 true,.rd 7 false,.rd 8 false,.rd 9 true,.rd 10 true,.ef 11 [],.rd 12 false] ?_;simp only[go_sem,Aa,hx3,hp,ht3',Bool.not_true];refine(El s.T f (by omega) hs.tok.sm hfs).p ?_;by_cases hT:f∈s.T
  case' pos=>
   rw[if_pos (.inl hT),←hs1]at hst;simp only[go_sem,Aa,decide_eq_true hT];exact skip hst rfl
  have hns:¬(f∈s.T∨(f∉s.given∧(ofF s.B f).length=0)):=fun h=>h.elim hT fun h=>h.1 hgi;rw[if_neg hns]at hst;simp only[go_sem,Aa,decide_eq_false hT]
 case' neg=>
  simp only[go_sem,Aa,decide_eq_false hgi,hx3,hp];refine(Alu hb3 hbk f hfs).p ?_;by_cases hof:(ofF s.B f).length=0
  case' pos=>
   rw[if_pos (.inr ⟨hgi,hof⟩),←hs1]at hst;have d3:=decide_eq_false (show¬(0:Int)<(ofF s.B f).length by omega);simp only[go_sem,Aa,Au,d3];refine Af [.rd 0 false,.rd 1 false,.rd 2 false,.rd 3 false,.rd 4 false,.rd 5 false,.rd 6 true,.rd 7 false,.rd 8 false,.rd 9 true,.rd 10 true,.ef 11 [],.rd 12 false] ?_;simp only[go_sem,Aa,Bool.not_false];exact skip hst rfl
  have d3:=decide_eq_true (show(0:Int)<(ofF s.B f).length by omega);simp only[go_sem,Aa,Au,d3];refine Af [.rd 0 false,.rd 1 false,.rd 2 false,.rd 3 false,.rd 4 false,.rd 5 false,.rd 6 true,.rd 7 false,.rd 8 false,.rd 9 true,.rd 10 true,.ef 11 [],.rd 12 false] ?_;simp only[go_sem,Aa,hx3,hp,ht3',Bool.not_true];refine(El s.T f (by omega) hs.tok.sm hfs).p ?_;by_cases hT:f∈s.T
  case' pos=>
   rw[if_pos (.inl hT),←hs1]at hst;simp only[go_sem,Aa,decide_eq_true hT];exact skip hst rfl
  have hns:¬(f∈s.T∨(f∉s.given∧(ofF s.B f).length=0)):=fun h=>h.elim hT fun h=>hof h.2;rw[if_neg hns]at hst;simp only[go_sem,Aa,decide_eq_false hT]
 all_goals
  obtain⟨T2,er,hP⟩:∃T2 er,Bs s.T s.lim f=(T2,er):=⟨_,_,rfl⟩;obtain⟨pT,pl⟩:=Xy hs.tok hs.tl hs.lm hfs;simp only[hP]at hst pT pl;refine Af [.rd 0 false,.rd 1 false,.rd 2 false,.rd 3 true,.rd 4 true,.ef 5 [],.rd 6 false] ?_;simp only[go_sem,Aa,hx3,hp];refine(Apr ht3 hs.tok f hfs).mono ?_;rintro _ σ4 ⟨rfl,rfl⟩;simp only[hP];have E4:=kE.setT (T:=T2);obtain⟨s2,hs2⟩:∃s2:ES,s2={s1 with T:=T2}:=⟨_,rfl⟩;rw[←hs2,K1.lim]at E4;have F4:Frm x a a1 σ (σ3.set a1.t (tbC T2 s.lim)):=F3.trans .setT;have hp4:(σ3.set a1.t (tbC T2 s.lim)) p=some (.cells f.cs):=by rw[Ag (fun e=>np (.inr (.inl e)))];exact hp
  have O2:SOk n s2:=by rw[hs2];exact{O1 with tok:=(by show TOk T2 s1.lim;rw[K1.lim];exact pT),tl:=(by show(T2.length:Int)≤s1.lim;rw[K1.lim];exact pl)}
  have r2:s2.rules=s.rules:=by rw[hs2];exact K1.rules
  have m2:s2.me=s.me:=by rw[hs2];exact K1.me
  have T22:s2.T=T2:=by rw[hs2]
  have e2:s2={s with queue:=q,T:=T2}:=by rw[hs2,hs1]
  have hst2:er=0→Cz s hv=(true,rlD s.me f T2 s.rules s.rules.length (s2,hv)):=fun he=>by rw[hst,if_pos he,e2]
  clear skip hg3 hb3 ht3 ht3' hx3 kE F3 hp hs2 O1 K1 hs1;generalize σ3.set a1.t (tbC T2 s.lim)=σ4 at E4 F4 hp4⊢;have hx4:=E4.cx;by_cases he:er=0
  case neg=>
   have kE:=E4.setX (f:=true) (hv':=hv);have esp:Az (evC true s2 a1 hv) 8 [boo true]=evC true {s2 with full:=true} a1 hv:=rfl;rw[if_neg he]at hst;simp only[go_sem,Aa,decide_eq_false he,hx4,esp,kE.all1];refine Ae (r:=boo true) rfl ⟨by rw[hst],a1,?_,F4.trans .setX⟩;rw[hst,e2];rw[e2]at kE;exact kE
  simp only[go_sem,Aa,decide_eq_true he];have O20:SOk (n+Cr s.rules 0*60004) s2:=O2.le (Nat.le_add_right _ _);refine⟨fun m fr σ'=>∃(i:Nat) (a':EA) (P:ES×Bool),m=s.rules.length-i∧i≤s.rules.length∧P=rlD s.me f T2 s.rules i (s2,hv)∧SOk (n+Cr s.rules i*60004) P.1∧EV true σ' x a' P.1 P.2∧Frm x a a' σ σ'∧σ' p=some (.cells f.cs)∧¬Bo x a' p∧fr 0=ptr x∧fr 3=ptr p∧fr 5=int i,⟨_,0,a1,(s2,hv),rfl,by omega,rfl,O20,E4,F4,hp4,np,rfl,rfl,rfl⟩,?_⟩;clear O20 E4 F4 hp4 np hx4;rintro m fr σ1 ⟨i,a',P,rfl,hi,hP',hO,hE,hF,hp,np,f0,f3,f5⟩;have K':SK s2 P.1:=by rw[hP'];exact Lv s.me f T2 s.rules (s2,hv) i
  have rl':P.1.rules=s.rules:=K'.rules.trans r2;have hx1:=hE.cx;simp only[go_sem,f0,f5,hx1,rl',Ci];refine aIf_by (fun hlt=>?_) (fun hlt=>?_)
  case' refine_2=>
   have ei:i=s.rules.length:=by omega
   subst ei;rw[hst2 he];simp only[go_sem,Aa];exact Ae (r:=boo true) rfl ⟨rfl,a',by rw[←hP'];exact hE,hF⟩
  have hil:i<s.rules.length:=by omega
  obtain⟨r,hrr⟩:∃r,r=s.rules[i]:=⟨_,rfl⟩;have hr4:=hs.rs _ (List.getElem_mem hil);rw[←hrr]at hr4;have rg:(rlC s.rules).getD i []=r.cs:=by rw[hrr];exact C4 hil
  have hgr:s.rules.getD i rlZ=r:=by rw[Dk hil,hrr]
  have hbo:=hr4.1.1;have hrl:=hs.rl;have hls:Cr s.rules (i+1)=Cr s.rules i+r.bo.length:=by rw[←hgr];rfl
  have hll:=Xp s.rules (show i+1≤s.rules.length by omega);simp only[go_sem,Aa];obtain⟨z,hz⟩:∃z,z=0:=⟨_,rfl⟩;have OJ:SOk (n+Cr s.rules i*60004+z*60004) P.1:=SOk.le hO (Nat.le_add_right _ _);refine⟨fun m fr σ'=>∃(j:Nat) (a':EA) (P:ES×Bool),m=r.bo.length-j∧j≤r.bo.length∧P=ltD s.me f T2 i r j (rlD s.me f T2 s.rules i (s2,hv))∧SOk (n+Cr s.rules i*60004+j*60004) P.1∧EV true σ' x a' P.1 P.2∧Frm x a a' σ σ'∧σ' p=some (.cells f.cs)∧¬Bo x a' p∧fr 0=ptr x∧fr 3=ptr p∧fr 5=int i∧fr 6=int j,⟨_,0,a',P,rfl,by omega,hP',hz▸OJ,hE,hF,hp,np,f0,f3,f5,rfl⟩,?_⟩;clear OJ hz hO hE hF hp np f0 f3 f5 hP' K' rl' hx1;rintro m fr σ1 ⟨j,a',P,rfl,hj,hP',hO,hE,hF,hp,np,f0,f3,f5,f6⟩;have K':SK s2 P.1:=by rw[hP'];exact(Lv s.me f T2 s.rules (s2,hv) i).trans (Tw s.me f T2 i r _ j)
  have rl':P.1.rules=s.rules:=K'.rules.trans r2;have me':P.1.me=s.me:=K'.me.trans m2;have T':P.1.T=T2:=K'.T.trans T22;have hx1:=hE.cx;have lcl:=D7 r.bo;simp only[go_sem,f0,f5,f6,hx1,rl',rg,Ci,lcl];refine⟨by omega,?_⟩;refine aIf_by (fun hlt=>?_) (fun hlt=>?_)
  ·have hjl:j<r.bo.length:=by omega
   have hil':i<P.1.rules.length:=by rw[rl'];exact hil
   have hri:P.1.rules[i]=r:=by rw[hrr];exact List.getElem_of_eq rl' hil'
   simp only[go_sem,Aa,f0,f3,f5,f6,hp];refine(Aa1 hE hO (by omega) i hil' j f hfs).mono ?_;rintro _ σ2 ⟨a2,E2,G2⟩;have kp:=G2 _ _ hp np
   have O3:SOk (n+Cr s.rules i*60004+(j+1)*60004) (bdS i (Kh r s.me j f T2).1 P.1):=(Qd i (m:=r.bo.length) (by omega) _ _ hO (W3 hfs pT.sm)).le (by
    have:=docl (r:=r) (me:=s.me) (first:=(j:Int)) (f:=f) (l:=T2);omega)
   rw[hri,me',T']at E2;simp only[go_sem,Aa,f6,As j (by omega)];exact⟨r.bo.length-(j+1),by omega,j+1,a2,lkD s.me f T2 i r j P,rfl,by omega,by rw[Pd,←hP'],O3,E2,hF.trans G2,kp.1,kp.2,f0,f3,f5,rfl⟩
  ·have ej:j=r.bo.length:=by omega
   have h9:∀{A B C:Nat},B=A+C→j=C→n+A*60004+j*60004=n+B*60004:=fun{A B C} h1 h2=>by rw[h1,h2,Nat.add_mul,Nat.add_assoc]
   have O':SOk (n+Cr s.rules (i+1)*60004) P.1:=by
    rw[←h9 hls ej];exact hO
   have es':P=rlD s.me f T2 s.rules (i+1) (s2,hv):=by rw[Pr,hgr,hP',ej]
   simp only[go_sem,Aa,f5,As i (by omega)];exact⟨s.rules.length-(i+1),by omega,i+1,a',P,rfl,by omega,es',O',hE,hF,hp,np,f0,f3,rfl⟩
end
def Kv:Nat→ES→Prop
 |0,s=>Hv s∧(A5 s).1=false
 |k+1,s=>Hv s∧((A5 s).1=true→Kv k (A5 s).2)
def C1:Nat→ES→ES
 |0,s=>s
 |k+1,s=>if(A5 s).1=true then C1 k (A5 s).2 else s
theorem Aia(s:ES):(A5 s).2.rules=s.rules:=by
 unfold A5
 repeat' split
 all_goals first|rfl|exact(Iu _ _ _ _ _ _).rules
theorem Ah9{s:ES}(h:(A5 s).1=false):(A5 s).2=s:=by
 by_cases h1:s.full=true
 ·unfold A5;rw[if_pos h1]
 cases hq:s.queue with
 |nil=>unfold A5;rw[if_neg h1,hq]
 |cons f q=>
  exfalso;revert h;unfold A5;rw[if_neg h1,hq];simp only;split
  ·intro h;cases h
  ·split<;>(intro h;cases h)
section
variable{σ:St}{x:Nat}{a:EA}{s:ES}{n:Nat}
theorem Vi(h:EV false σ x a s false)(hs:SOk n s)(hl:Cr s.rules s.rules.length≤80)(N:Nat)(hn:n+(N+1)*4800160≤800000000000)(hd:Kv N s):
  AT Tryz.prog 17 [ptr x] σ fun r σ'=>∃a',EV false σ' x a' (C1 N s) false∧Frm x a a' σ σ':=by
 refine AT.ob Tryz.func17 rfl ?_;simp only[go_sem];refine⟨fun m fr σ'=>∃(k:Nat) (a':EA) (s':ES),m=k∧k≤N∧s'.rules=s.rules∧Kv k s'∧C1 k s'=C1 N s∧SOk (n+(N-k)*4800160) s'∧EV false σ' x a' s' false∧Frm x a a' σ σ'∧fr 0=ptr x∧fr 3=int (N-k:Nat),⟨_,N,a,s,rfl,by omega,rfl,hd,rfl,by rw[Nat.sub_self];exact hs.le (Nat.le_add_right _ _),h,.refl,rfl,by rw[Nat.sub_self];rfl⟩,?_⟩;rintro m fr σ1 ⟨k,a',s',rfl,hk,hr,hd',he,hO,hE,hF,f0,f3⟩;have hl':Cr s'.rules s'.rules.length≤80:=by rw[hr];exact hl
 have hw:Hv s':=by cases m<;>exact hd'.1
 simp only[go_sem,f0];refine(Oj hE hO (by omega) hw).mono ?_;rintro _ σ2 ⟨rfl,a2,E2,F2⟩;have hso:=Uf hO hw;cases hb:(A5 s').1 with
 |false=>
  have e1:=Ah9 hb;have e2:C1 m s'=s':=by
   cases m with
   |zero=>rfl
   |succ k=>show(if(A5 s').1=true then _ else s')=s';rw[hb];rfl
  rw[e1]at E2;simp only[go_sem,Aa,hb,f3];exact Ae (r:=int (N-m:Nat)) rfl ⟨a2,by rw[←he,e2];exact E2,hF.trans F2⟩
 |true=>
  cases m with
  |zero=>rw[hd'.2]at hb;cases hb
  |succ k=>
   have hd2:=hd'.2 hb;have e2:C1 k (A5 s').2=C1 N s:=by rw[←he];show _=(if(A5 s').1=true then _ else s');rw[hb];rfl
   have ek:N-k=N-(k+1)+1:=by omega
   simp only[go_sem,Aa,hb,f3,Iq (show N-(k+1)<9223372036854775807 by omega)];exact⟨k,by omega,k,a2,(A5 s').2,rfl,by omega,by rw[Aia,hr],hd2,e2,hso.le (by omega),E2,hF.trans F2,f0,by rw[ek]⟩
end
theorem Akx{n:Nat}{me:ByteArray}{f:Fa}{T:List Fa}(i:Nat){r:Rl}{P:ES×Bool}(h:SOk n P.1)(hr:r.S4)(hf:f.Sm)(hT:∀y∈T,y.Sm):∀(k:Nat),SOk (n+k*60004) (ltD me f T i r k P).1
 |0=>h.le (Nat.le_add_right _ _)
 |k+1=>by
  have h1:=Akx (me:=me) i h hr hf hT k;have h3:=docl (r:=r) (me:=me) (first:=(k:Int)) (f:=f) (l:=T);have hbo:=hr.1.1;rw[Pd];exact(Qd i (m:=r.bo.length) (by omega) _ _ h1 (W3 hf hT)).le (by omega)
theorem Als{n:Nat}{me:ByteArray}{f:Fa}{T:List Fa}{rules:List Rl}{P:ES×Bool}(h:SOk n P.1)(hr:∀r∈rules,r.S4)(hf:f.Sm)(hT:∀y∈T,y.Sm):∀(k:Nat),k≤rules.length→SOk (n+Cr rules k*60004) (rlD me f T rules k P).1
 |0,_=>by show SOk (n+0*60004) P.1;exact h.le (Nat.le_add_right _ _)
 |k+1,hk=>by
  have h1:=Als (me:=me) h hr hf hT k (by omega);have e:rules.getD k rlZ=rules[k]:=Dk (by omega) _;have h2:=Akx (me:=me) (T:=T) k h1 (hr _ (List.getElem_mem (show k<rules.length by omega))) hf hT rules[k].bo.length;rw[Pr];show SOk (n+(Cr rules k+(rules.getD k rlZ).bo.length)*60004) _;rw[e,Nat.add_mul,←Nat.add_assoc];exact h2
theorem Af8{n:Nat}{s:ES}{hv:Bool}(h:SOk n s):SOk (n+Cr s.rules s.rules.length*60004) (Cz s hv).2.1∧(Cz s hv).2.1.rules=s.rules:=by
 unfold Cz;split
 ·exact⟨h.le (Nat.le_add_right _ _),rfl⟩
 split
 ·exact⟨h.le (Nat.le_add_right _ _),rfl⟩
 rename_i f q hq;have hf:=h.qs f (by rw[hq];simp);have hql:=h.ql;rw[hq]at hql;simp only[List.length_cons]at hql;obtain⟨p1,p2⟩:=Xy h.tok h.tl h.lm hf;have h1:SOk n {s with queue:=q}:={h with ql:=(by show q.length≤n;omega),qs:=fun y hy=>h.qs y (by rw[hq];exact List.mem_cons_of_mem _ hy)};have h2:SOk n {s with queue:=q,T:=(Bs s.T s.lim f).1}:={h1 with tok:=p1,tl:=p2};split
 ·exact⟨h1.le (Nat.le_add_right _ _),rfl⟩
 split
 ·exact⟨Als (P:=({s with queue:=q,T:=(Bs s.T s.lim f).1},hv)) h2 h.rs hf p1.sm _ (Nat.le_refl _),(Lv s.me f (Bs s.T s.lim f).1 s.rules ({s with queue:=q,T:=(Bs s.T s.lim f).1},hv) _).rules⟩
 ·exact⟨{h2.le (Nat.le_add_right _ _)with},rfl⟩
def Qh:Nat→ES×Bool→Bool×(ES×Bool)
 |0,P=>(false,P)
 |k+1,P=>if P.2=true then(false,P)else if(Cz P.1 P.2).1=true then Qh k (Cz P.1 P.2).2 else(true,(Cz P.1 P.2).2)
section
variable{σ:St}{x:Nat}{a:EA}{s:ES}{n:Nat}{hv:Bool}
theorem Aht(h:EV true σ x a s hv)(hs:SOk n s)(hl:Cr s.rules s.rules.length≤80)(hn:n+402*4800320≤800000000000):
  AT Tryz.prog 46 [ptr x] σ fun r σ'=>r=boo (Qh 400 (s,hv)).1∧∃a',EV true σ' x a' (Qh 400 (s,hv)).2.1 (Qh 400 (s,hv)).2.2∧Frm x a a' σ σ':=by
 refine AT.ob Tryz.func46 rfl ?_;obtain⟨R,hR⟩:∃R,R=Qh 400 (s,hv):=⟨_,rfl⟩;rw[←hR];simp only[go_sem];refine⟨fun m fr σ'=>∃(k:Nat) (a':EA) (P:ES×Bool),m=k∧k≤400∧Qh k P=R∧P.1.rules=s.rules∧SOk (n+(400-k)*4800320) P.1∧EV true σ' x a' P.1 P.2∧Frm x a a' σ σ'∧fr 0=ptr x∧fr 3=int (400-k:Nat),⟨_,400,a,(s,hv),rfl,by omega,hR.symm,rfl,hs.le (Nat.le_add_right _ _),h,.refl,rfl,rfl⟩,?_⟩;rintro m fr σ1 ⟨k,a',⟨s',w⟩,rfl,hk,hd,hr,hO,hE,hF,f0,f3⟩;simp only at hr hO hE;have hx:=hE.cx;simp only[go_sem,f3];refine aIf_by (fun hlt=>?_) (fun hlt=>?_)
 ·obtain⟨k,rfl⟩:∃j,m=j+1:=⟨m-1,by omega⟩
  have hd':(if w=true then(false,(s',w))else if(Cz s' w).1=true then Qh k (Cz s' w).2 else(true,(Cz s' w).2))=R:=hd;clear hd;cases w with
  |true=>
   rw[if_pos rfl]at hd';simp only[go_sem,Aa,f0,hx];exact Ae (r:=boo false) rfl ⟨by rw[←hd'],a',by rw[←hd'];exact hE,hF⟩
  |false=>
   rw[if_neg (by decide)]at hd';have hl':Cr s'.rules s'.rules.length≤80:=by rw[hr];exact hl
   have sz:=Af8 (hv:=false) hO;simp only[go_sem,Aa,f0,hx];refine(Aa3 hE hO (by omega)).mono ?_;rintro _ σ2 ⟨rfl,a2,E2,G2⟩;have hO2:=sz.1.le (m:=n+(400-k)*4800320) (by omega);cases hc:(Cz s' false).1 with
   |true=>
    rw[if_pos hc]at hd';have ek:400-k=400-(k+1)+1:=by omega
    simp only[go_sem,Aa,hc,f3,Iq (show 400-(k+1)<9223372036854775807 by omega)];exact⟨k,by omega,k,a2,(Cz s' false).2,rfl,by omega,hd',by rw[sz.2,hr],hO2,E2,hF.trans G2,f0,by rw[ek]⟩
   |false=>
    rw[if_neg (by rw[hc];decide)]at hd';simp only[go_sem,Aa,hc];exact Ae (r:=boo true) rfl ⟨by rw[←hd'],a2,by rw[←hd'];exact E2,hF.trans G2⟩
 ·have e0:m=0:=by omega
  subst e0;have hd':(false,(s',w))=R:=hd;simp only[go_sem,Aa];exact Ae (r:=boo false) rfl ⟨by rw[←hd'],a',by rw[←hd'];exact hE,hF⟩
end
theorem Ah8{s:ES}{hv:Bool}(h:(Cz s hv).1=false):(Cz s hv).2=(s,hv):=by
 by_cases h1:s.full=true
 ·unfold Cz;rw[if_pos h1]
 cases hq:s.queue with
 |nil=>unfold Cz;rw[if_neg h1,hq]
 |cons f q=>
  exfalso;revert h;unfold Cz;rw[if_neg h1,hq];simp only;split
  ·intro h;cases h
  ·split<;>(intro h;cases h)
theorem Aep:∀(k:Nat) (s:ES) (w:Bool),(Qh k (s,w)).1=true→w=false∧Kv k s∧C1 k s=(Qh k (s,w)).2.1∧(Qh k (s,w)).2.2=false
 |0,s,w,h=>by cases h
 |k+1,s,w,h=>by
  have e:Qh (k+1) (s,w)=if w=true then(false,(s,w))else if(Cz s w).1=true then Qh k (Cz s w).2 else(true,(Cz s w).2):=rfl
  rw[e]at h⊢;cases w with
  |true=>rw[if_pos rfl]at h;cases h
  |false=>
   rw[if_neg (by decide)]at h⊢;cases hc:(Cz s false).1 with
   |true=>
    rw[if_pos hc]at h;rw[if_pos rfl];obtain⟨s',w',hp⟩:∃s' w',(Cz s false).2=(s',w'):=⟨_,_,rfl⟩;rw[hp]at h⊢;obtain⟨h1,h2,h3,h4⟩:=Aep k s' w' h;have hf:(Cz s false).2.2=false:=by rw[hp];exact h1
    obtain⟨_,k1,k2⟩:=Yg hf;rw[hp]at k2;simp only at k2;rw[hc]at k1;refine⟨rfl,⟨Yh hf,fun _=>by rw[←k2];exact h2⟩,?_,h4⟩;show(if(A5 s).1=true then C1 k (A5 s).2 else s)=_;rw[if_pos k1.symm,←k2];exact h3
   |false=>
    rw[if_neg (by decide)];have hp:=Ah8 hc;have hf:(Cz s false).2.2=false:=by rw[hp]
    obtain⟨_,k1,_⟩:=Yg hf;rw[hc]at k1;refine⟨rfl,⟨Yh hf,fun h5=>by rw[←k1]at h5;cases h5⟩,?_,hf⟩;show(if(A5 s).1=true then C1 k (A5 s).2 else s)=(Cz s false).2.1;rw[if_neg (by rw[←k1];decide),hp]
structure Ac where
 k:Int
 f:Fa
def Ac.cs(a:Ac):List AV:=int a.k::a.f.cs
@[go_sem] theorem Ac.len(a:Ac):a.cs.length=5:=rfl
@[go_sem] theorem Ac.one(a:Ac):a.cs.all AV.one=true:=rfl
@[go_sem] theorem Ac.take(a:Ac):a.cs.take 5=a.cs:=rfl
@[go_sem] theorem Ac.at0(a:Ac):a.cs.getD 0 (.v undef)=int a.k:=rfl
@[go_sem] theorem Ac.fa(a:Ac):(a.cs.drop 1).take 4=a.f.cs:=rfl
def acC(l:List Ac):List (List AV):=l.map Ac.cs
@[go_sem] theorem Dj(l:List Ac):(acC l).length=l.length:=by simp[acC]
theorem Ke{l:List Ac}{i:Nat}(h:i<l.length):(acC l).getD i []=l[i].cs:=by simp[acC,List.getD_eq_getElem?_getD,h]
def c7C(me:ByteArray)(names:List ByteArray)(lim:Int)(rs:List Rl):List AV:=[str me,.sl 1 (stC names),int lim,.sl 11 (rlC rs)]
@[go_sem] theorem Au5(me:ByteArray)(n:List ByteArray)(l:Int)(rs:List Rl):(c7C me n l rs).length=4:=rfl
@[go_sem] theorem Att(me:ByteArray)(n:List ByteArray)(l:Int)(rs:List Rl):(c7C me n l rs).take 4=c7C me n l rs:=rfl
@[go_sem] theorem Ay7(me:ByteArray)(n:List ByteArray)(l:Int)(rs:List Rl):(c7C me n l rs).getD 0 (.v undef)=str me:=rfl
@[go_sem] theorem Ay8(me:ByteArray)(n:List ByteArray)(l:Int)(rs:List Rl):(c7C me n l rs).getD 1 (.v undef)= .sl 1 (stC n):=rfl
@[go_sem] theorem Ay9(me:ByteArray)(n:List ByteArray)(l:Int)(rs:List Rl):(c7C me n l rs).getD 2 (.v undef)=int l:=rfl
@[go_sem] theorem Aza(me:ByteArray)(n:List ByteArray)(l:Int)(rs:List Rl):(c7C me n l rs).getD 3 (.v undef)= .sl 11 (rlC rs):=rfl
def C7Wf(rs:List Rl)(l:List Ac):Prop:=rs.length≤140737488351232∧(∀r∈rs,r.Wf)∧l.length≤140737488351232∧∀a∈l,a.f.Wf
structure C7Sm(names:List ByteArray)(rs:List Rl)(l:List Ac):Prop where
 nm:names.length≤8
 rl:rs.length≤80
 lt:Cr rs rs.length≤80
 rs:∀r∈rs,r.S4
 al:l.length<100
 fs:∀a∈l,a.f.Sm
section
variable{σ:St}
theorem Ady(l:List Rl)(most:Int)(hl:l.length≤140737488351232)(hw:∀r∈l,r.Wf)(h0:0≤most)(h1:most≤1000000):AT Tryz.prog 39 [.sl 11 (rlC l),int most] σ fun v σ'=>(∃w:Int,v=int w∧(w≤most→(l.length:Int)+(Cr l l.length:Nat)≤most∧∀r∈l,r.Sm most))∧σ'=σ:=by
 refine AT.ob Tryz.func39 rfl ?_;simp only[go_sem,Aa];refine⟨fun m fr σ'=>∃(i:Nat) (n:Int),m=l.length-i∧i≤l.length∧σ'=σ∧0≤n∧n≤10000000000000000∧(most<n∨(i:Int)+(Cr l i:Nat)≤n∧∀r∈l.take i,r.Sm n)∧fr 0= .sl 11 (rlC l)∧fr 1=int most∧fr 5=int n∧fr 6=int i,⟨_,0,0,rfl,by omega,rfl,by omega,by omega,.inr ⟨by simp[Cr],fun r hr=>by simp at hr⟩,rfl,rfl,rfl,rfl⟩,?_⟩;rintro m fr σ ⟨i,n,rfl,hi,rfl,hn,hm,hs,f0,f1,f5,f6⟩;have fin:∀(h:n≤most),i=l.length→(l.length:Int)+(Cr l l.length:Nat)≤most∧∀r∈l,r.Sm most:=fun h e=>by
  subst e;rw[List.take_of_length_le (Nat.le_refl _)]at hs;obtain⟨h1,h2⟩:=hs.resolve_left (by omega);exact⟨by omega,fun r hr=>(h2 r hr).up h⟩
 by_cases g1:(i:Int)<l.length
 ·by_cases g2:n≤most
  ·have hil:i<l.length:=by omega
   have hwi:=hw _ (List.getElem_mem hil);simp only[go_sem,Aa,f0,f1,f5,f6,decide_eq_true g1,decide_eq_true g2];refine Af [.rd 0 false,.rd 1 false,.rd 2 false,.rd 3 false,.rd 4 false,.rd 5 true,.rd 6 false,.rd 7 false,.rd 8 false,.rd 9 false,.rd 10 false,.rd 11 false,.rd 12 true,.rd 13 false,.rd 14 false,.rd 15 false,.rd 16 false,.rd 17 false] ?_;simp only[go_sem,Aa,f0,f1,f5,f6,C4 hil,Arm hn (show n≤1000000 by omega) hwi.1 hwi.2.1];obtain⟨n1,hn1⟩:∃n1:Int,n1=n+(1+l[i].ar.length+(l[i].nm.size/16:Nat)):=⟨_,rfl⟩;have hq:=hwi.1;have hq2:=hwi.2.1;have hq3:=hwi.2.2.1;have hs0:(i:Int)+1+(Cr l i:Nat)≤n1:=by have:=(hs.resolve_left (by omega)).1;omega
   have hs:∀r∈l.take i,r.Sm n1:=fun r hr=>((hs.resolve_left (by omega)).2 r hr).up (by omega);rw[←hn1];refine⟨by omega,by omega,?_⟩;refine⟨fun m fr σ'=>∃(k:Nat) (n':Int),m=l[i].bo.length-k∧k≤l[i].bo.length∧σ'=σ∧n1≤n'∧n'≤10000000000000000∧(most<n'∨((i:Int)+1+(Cr l i:Nat)+k≤n'∧∀x∈l[i].bo.take k,(x.ar.length:Int)≤n'))∧fr 0= .sl 11 (rlC l)∧fr 1=int most∧fr 5=int n'∧fr 6=int i∧fr 7=int k,⟨_,0,n1,rfl,by omega,rfl,by omega,by omega,.inr ⟨by omega,fun x hx=>by simp at hx⟩,f0,f1,rfl,f6,rfl⟩,?_⟩;clear f0 f1 f5 f6 fr;rintro m fr σ ⟨k,n',rfl,hk,rfl,hn',hm',hs',f0,f1,f5,f6,f7⟩;by_cases g3:(k:Int)<l[i].bo.length
   ·by_cases g4:n'≤most
    ·have hkl:k<l[i].bo.length:=by omega
     have hwk:=hwi.2.2.2 _ (List.getElem_mem hkl);have hk1:=hwk.1;have hk2:=hwk.2;simp only[go_sem,Aa,f0,f1,f5,f6,f7,C4 hil,decide_eq_true g3,decide_eq_true g4];refine⟨by omega,?_⟩;refine Af [.rd 0 false,.rd 1 false,.rd 2 false,.rd 3 false,.rd 4 false,.rd 5 true,.rd 6 false,.rd 7 false,.rd 8 false,.rd 9 true,.rd 10 false,.rd 11 false,.rd 12 false,.rd 13 false,.rd 14 false,.rd 15 false,.rd 16 true,.rd 17 false,.rd 18 false,.rd 19 false,.rd 20 true,.rd 21 false,.rd 22 false,.rd 23 false,.rd 24 false,.rd 25 false] ?_;simp only[go_sem,Aa,f0,f1,f5,f6,f7,C4 hil,D6 hkl,Arm (show 0≤n' by omega) (show n'≤1000000 by omega) hwk.1 hwk.2,As k (by omega)];refine⟨by omega,by omega,by omega,by omega,l[i].bo.length-(k+1),by omega,k+1,_,rfl,by omega,?_,?_,?_,rfl,rfl⟩
     ·omega
     ·omega
     ·refine .inr ⟨by have:=hs'.resolve_left (by omega);omega,fun x hx=>?_⟩
      rw[List.take_add_one,List.getElem?_eq_getElem hkl]at hx;rcases List.mem_append.1 hx with hx|hx
      ·have:=(hs'.resolve_left (by omega)).2 x hx;omega
      ·simp at hx;subst hx;omega
    ·simp only[go_sem,Aa,f0,f1,f5,f6,f7,C4 hil,decide_eq_true g3,decide_eq_false g4,As i (by omega)]
     exact⟨by omega,l.length-(i+1),by omega,i+1,n',rfl,by omega,by omega,by omega,.inl (by omega),rfl,rfl⟩
   ·simp only[go_sem,Aa,f0,f1,f5,f6,f7,C4 hil,decide_eq_false g3,As i (by omega)]
    refine⟨by omega,l.length-(i+1),by omega,i+1,n',rfl,by omega,by omega,by omega,?_,rfl,rfl⟩;have eli:Cr l (i+1)=Cr l i+l[i].bo.length:=by rw[←Dk hil];rfl
    refine hs'.imp _root_.id fun hs'=>⟨by rw[eli];omega,fun r hr=>?_⟩;rw[List.take_add_one,List.getElem?_eq_getElem hil]at hr;rw[List.take_of_length_le (show l[i].bo.length≤k by omega)]at hs';rcases List.mem_append.1 hr with hr|hr
    ·exact(hs r hr).up hn'
    ·simp at hr;subst hr;exact⟨by omega,by omega,hs'.2⟩
  ·simp only[go_sem,Aa,f0,f1,f5,f6,decide_eq_true g1,decide_eq_false g2]
   exact Ae (r:=int n) rfl ⟨⟨n,rfl,fun h=>by omega⟩,rfl⟩
 ·simp only[go_sem,Aa,f0,f1,f5,f6,decide_eq_false g1]
  exact Ae (r:=int n) rfl ⟨⟨n,rfl,fun h=>fin h (by omega)⟩,rfl⟩
theorem Ag3{lv0:AV}(me:ByteArray)(names:List ByteArray)(lim:Int)(rs:List Rl)(l:List Ac)(hw:C7Wf rs l)(h0:Rd 5 σ lv0 (acC l)):AT Tryz.prog 10 [.agg (c7C me names lim rs),lv0] σ fun v σ'=>(∃b:Bool,v=boo b∧(b=true→C7Sm names rs l))∧σ'=σ:=by
 refine AT.ob Tryz.func10 rfl ?_;obtain⟨w1,w2,w3,w4⟩:=hw;have ho:(c7C me names lim rs).all AV.one=true:=rfl;simp only[go_sem,ho];refine Ctx.nil.alloc fun p σ1 c1=>?_;have hp:=c1.g0;have hs1:=c1.sub;have fp:=c1.f0;clear c1;refine⟨fun m fr σ'=>∃(i:Nat) (lv:AV),m=l.length-i∧i≤l.length∧i≤100∧LAt 4 σ' lv (faC ((l.take i).map Ac.f))∧Cg σ1 σ' lv∧fr 1=lv0∧fr 2=ptr p∧fr 5=lv∧fr 6=int i,⟨_,0,A4,rfl,by omega,by omega,.none,.nil,rfl,rfl,rfl,rfl⟩,?_⟩;rintro m fr σ2 ⟨i,lv,rfl,hi,h100,hL,hG,f1,f2,f5,f6⟩;by_cases g:i<l.length∧i<100
 ·have hil:=g.1
  have d1:=decide_eq_true (show(i:Int)<l.length by omega);have d2:=decide_eq_true (show(i:Int)<100 by omega);have h2:Rd 5 σ2 lv0 (acC l):=h0.keep fun y o hy=>(hG y o (hs1 y o hy)).1;simp only[go_sem,Aa,f1,f5,f6,h2.len,Dj,d1,d2];refine h2.elem (by omega) (by rw[Dj];omega) fun e0 he0=>?_;rw[Int.toNat_natCast,Ke hil]at he0;simp only[go_sem,Aa];refine he0.fld (by decide) (by rw[Ac.len];omega) fun e1 he1=>?_;simp only[go_sem,Aa];refine he1.load (by decide) (by rw[Ac.len];omega) ?_;simp only[go_sem,Aa,Ac.fa];refine Ap (ys:=[l[i].f.cs]) rfl (by decide) (by decide) (by decide) (hL.app (by rw[Aj,List.length_map,List.length_take];simp only[List.length_cons,List.length_nil];omega) fun lv' σ3 h3 e3=>?_);have G:=hG.step e3;rw[show faC ((l.take i).map Ac.f)++[l[i].f.cs]=faC ((l.take (i+1)).map Ac.f) by rw[List.take_add_one,List.getElem?_eq_getElem hil,List.map_append];unfold faC;rw[List.map_append];rfl]at h3;simp only[go_sem,Aa,f6,As i (by omega)];exact⟨l.length-(i+1),by omega,i+1,lv',rfl,by omega,by omega,h3,G,f1,f2,rfl,rfl⟩
 have no:∀{fr:Fr} {σ':St},(∀y o,σ y=some o→σ' y=some o)→A9 Tryz.prog fr σ' (Tryz.f10).results.toList=some (boo false)→Dw Tryz.prog (fun v σ'=>(∃b:Bool,v=boo b∧(b=true→C7Sm names rs l))∧σ'=σ) (Tryz.f10).results.toList fr σ':=fun hs hr=>
  Ad hr _ σ (An hs) ⟨⟨false,rfl,fun h=>by cases h⟩,rfl⟩
 have hs2:∀y o,σ y=some o→σ2 y=some o:=fun y o hy=>(hG y o (hs1 y o hy)).1;have h3:Rd 5 σ2 lv0 (acC l):=h0.keep hs2;by_cases g1:i<l.length
 ·have d1:=decide_eq_true (show(i:Int)<l.length by omega)
  have d2:=decide_eq_false (show¬(i:Int)<100 by omega);have d3:=decide_eq_false (show¬(l.length:Int)<100 by omega);simp only[go_sem,Aa,f1,f6,h3.len,Dj,d1,d2,d3];exact no hs2 rfl
 have d1:=decide_eq_false (show¬(i:Int)<l.length by omega);by_cases g2:l.length<100
 case neg=>
  have d3:=decide_eq_false (show¬(l.length:Int)<100 by omega);simp only[go_sem,Aa,f1,f6,h3.len,Dj,d1,d3];exact no hs2 rfl
 have d3:=decide_eq_true (show(l.length:Int)<100 by omega);rw[List.take_of_length_le (by omega)]at hL;have hp2:=(hG _ _ hp).1;simp only[go_sem,Aa,f1,f5,f6,h3.len,Dj,d1,d3];have hw:=Acj (σ:=σ1) (l.map Ac.f) 200 (by rw[List.length_map];omega) (fun f hf=>by obtain⟨a,ha,rfl⟩:=List.mem_map.1 hf;exact w4 a ha) (by omega) (by omega);refine(AT.pre hw (by kernel_rfl) (Es fun x o hx=>.inl (hG.sub x o hx)) (vws_cons (Adf hL hG) (Bu _))).mono ?_;rintro _ σ1 ⟨⟨x1,rfl,hx1⟩,rfl⟩;by_cases g3:x1≤200
 case neg=>
  simp only[go_sem,Aa,decide_eq_false g3];exact no hs1 rfl
 obtain⟨k1,k2⟩:=hx1 g3;simp only[go_sem,Aa,decide_eq_true g3,f2,hp];refine(Ady rs 80 w1 w2 (by omega) (by omega)).mono ?_;rintro _ σ1 ⟨⟨x2,rfl,hx2⟩,rfl⟩;by_cases g4:x2≤80
 case neg=>
  simp only[go_sem,Aa,decide_eq_false g4];exact no hs1 rfl
 obtain⟨k3,k4⟩:=hx2 g4;by_cases g5:(names.length:Int)≤8
 case neg=>
  simp only[go_sem,Aa,decide_eq_true g4,f2,hp,decide_eq_false g5];exact no hs1 rfl
 simp only[go_sem,Aa,decide_eq_true g4,f2,hp,decide_eq_true g5];refine Ad (r:=boo true) rfl _ σ (An hs1) ⟨⟨true,rfl,fun _=>⟨by omega,by omega,by omega,fun r hr=>?_,g2,fun a ha=>?_⟩⟩,rfl⟩
 ·obtain⟨j1,j2,j3⟩:=k4 r hr
  exact⟨⟨by omega,fun y hy=>by have:=j3 y hy;omega⟩,by omega⟩
 ·have:=k2 a.f (List.mem_map.2 ⟨a,ha,rfl⟩)
  unfold Fa.Sm;omega
end
structure HIn(me:ByteArray)(B0:List De)(P:ES×List Fa):Prop where
 mi:P.1.me=me
 sub:∀d∈P.1.B,d∈B0
 nd:P.1.B.Nodup
 mem:∀y,y∈P.2↔(y.at'≠me∧(∃d∈B0,d.hd=y)∧¬∃d∈P.1.B,d.hd=y)
theorem Afk{B:List De}{f:Fa}:(ofF B f).length=0↔¬∃d∈B,d.hd=f:=by
 rw[List.length_eq_zero_iff];unfold ofF;rw[List.filter_eq_nil_iff];simp
theorem Am8{me:ByteArray}{B0:List De}{P:ES×List Fa}{d:De}(h:HIn me B0 P)(hd:d∈P.1.B):HIn me B0 (Cu P d):=by
 have hB:∀e,e∈(P.1.B.filter fun y=>!decide (y=d))↔e∈P.1.B∧e≠d:=fun e=>by
  rw[List.mem_filter];simp
 refine⟨h.mi,fun e he=>h.sub e ((hB e).1 he).1,h.nd.filter _,fun y=>?_⟩;have hm:=h.mem y;have e2:(Cu P d).2=if d.hd.at'≠P.1.me∧(ofF (P.1.B.filter fun y=>!decide (y=d)) d.hd).length=0 then P.2++[d.hd]else P.2:=rfl
 have e1:(Cu P d).1.B=P.1.B.filter fun y=>!decide (y=d):=rfl;rw[e1,e2,h.mi];by_cases hy:d.hd=y
 ·have hno:y∉P.2:=fun hp=>(hm.1 hp).2.2 ⟨d,hd,hy⟩
  have hin:∃e∈B0,e.hd=y:=⟨d,h.sub d hd,hy⟩;by_cases hc:d.hd.at'≠me∧(ofF (P.1.B.filter fun y=>!decide (y=d)) d.hd).length=0
  ·rw[if_pos hc]
   refine⟨fun _=>⟨hy▸hc.1,hin,hy▸Afk.1 hc.2⟩,fun _=>by rw[hy];simp⟩
  ·rw[if_neg hc]
   refine⟨fun hp=>absurd hp hno,fun hp=>absurd ⟨hy▸hp.1,Afk.2 (hy▸hp.2.2)⟩ hc⟩
 ·have hex:(∃e∈P.1.B.filter (fun y=>!decide (y=d)),e.hd=y)↔∃e∈P.1.B,e.hd=y:=by
   constructor
   ·rintro⟨e,he,k⟩
    exact⟨e,((hB e).1 he).1,k⟩
   ·rintro⟨e,he,k⟩
    exact⟨e,(hB e).2 ⟨he,fun h'=>hy (by rw[←h'];exact k)⟩,k⟩
  rw[hex,←hm];split
  ·rw[List.mem_append,List.mem_singleton]
   exact⟨fun hp=>hp.elim _root_.id fun e=>absurd e.symm hy,.inl⟩
  ·exact Iff.rfl
theorem Zl{me:ByteArray}{B0:List De}:∀(U:List De) (P:ES×List Fa),HIn me B0 P→U.Nodup→(∀d∈U,d∈P.1.B)→HIn me B0 (U.foldl Cu P)
 | [],P,h,_,_=>h
 |d::U,P,h,hn,hs=>by
  have hn:=List.nodup_cons.1 hn;exact Zl U (Cu P d) (Am8 h (hs d (by simp))) hn.2 fun e he=>W5 (hs e (by simp[he])) fun h'=>hn.1 (h'▸he)
theorem Aou{me:ByteArray}{B0:List De}{P:ES×List Fa}{g:Fa}(h:HIn me B0 P):HIn me B0 (Cp P g):=by
 unfold Cp;refine Zl _ _ ⟨h.mi,h.sub,h.nd,h.mem⟩ (h.nd.filter _) fun d hd=>(List.mem_filter.1 hd).1
theorem Z9{me:ByteArray}{B0:List De}:∀(G:List Fa) (P:ES×List Fa),HIn me B0 P→HIn me B0 (G.foldl Cp P)
 | [],P,h=>h
 |g::G,P,h=>Z9 G (Cp P g) (Aou h)
theorem Xd{s:ES}{y:Fa}:y∈M3 s↔(∃d∈s.B,d.hd=y)∧y.at'≠s.me:=by
 unfold M3 hdsF;rw[List.mem_filter,Ar Ah];simp
theorem Apa{s:ES}(hB:s.B.Nodup)(G:List Fa):Aw Ai [] ((M3 s).filter fun y=>!decide (y∈M3 (G.foldl Cp (s,[])).1))=Aw Ai [] (G.foldl Cp (s,[])).2:=by
 have h:=Z9 (me:=s.me) (B0:=s.B) G (s,[]) ⟨rfl,fun d hd=>hd,hB,fun y=>by
  simp only[List.not_mem_nil,false_iff];exact fun⟨_,h1,h2⟩=>h2 h1⟩
 refine D2 Ah (Bh Ah .nil) (Bh Ah .nil) fun y=>?_;rw[Ar Ah,Ar Ah,List.mem_filter,h.mem];simp only[Bool.not_eq_true',decide_eq_false_iff_not,List.not_mem_nil,or_false];rw[Xd,Xd,h.mi];constructor
 ·rintro⟨⟨h1,h2⟩,h3⟩
  exact⟨h2,h1,fun h4=>h3 ⟨h4,h2⟩⟩
 ·rintro⟨h1,h2,h3⟩
  exact⟨⟨h2,h1⟩,fun h4=>h3 h4.1⟩
theorem Aov{s:ES}(hT:B5 Ai s.T):Aw Ai [] (s.T.filter fun y=>!decide (y∈Cb s.B (s.given.filter fun g=>decide (g∈s.T))))=C7 s:=by
 unfold C7 Lq;rw[G8 hT,G8 (hT.filter _)];refine List.filter_congr fun y hy=>?_
 congr 1
 refine decide_eq_decide.2 ?_;rw[List.mem_filter];simp[hy]
theorem Ao4{s:ES}{f:Fa}(hg:B5 Ai s.given):Aw Ai [] (s.given.filter fun y=>!decide (y∈[f]))=(Bq s f).given:=by
 show _=(Aw Ai [] s.given).filter _;rw[G8 hg,G8 (hg.filter _)]
section
variable{σ:St}{x:Nat}{a:EA}{s:ES}{n:Nat}{hv:Bool}
theorem Ajq{n:Nat}{s:ES}(h:SOk n s):(M3 s).length≤n∧∀y∈M3 s,y.Sm:=by
 have h1:=Bn (c:=Ai) (s:=[]) (l:=s.B.map De.hd);have h2:=List.length_filter_le (fun y:Fa=>!decide (y.at'=s.me)) (hdsF s.B);have h3:=h.bl;simp only[List.length_nil,List.length_map]at h1;refine⟨by unfold M3;unfold hdsF at h2⊢;omega,fun y hy=>?_⟩;obtain⟨⟨d,hd,e⟩,_⟩:=Xd.1 hy;rw[←e];exact(h.bs d hd).1
set_option maxHeartbeats 1600000 in
theorem Adc(h:EV true σ x a s hv)(hs:SOk n s)(hn:n≤800000000000)(f:Fa)(hfs:f.Sm):
  AT Tryz.prog 44 [ptr x,.agg f.cs] σ fun r σ'=>r=int (Gr s f).1∧∃a',EV true σ' x a' (Gr s f).2 hv∧Frm x a a' σ σ':=by
 refine AT.ob Tryz.func44 rfl ?_;simp only[go_sem];refine Ctx.nil.alloc fun p σ2 c2=>?_;have hp:=c2.g0;have hsb:=c2.sub;clear c2;have h2:=h.more hsb;have hx2:=h2.cx;have hgl:=hs.gl;have hgs:=h2.gsl;simp only[go_sem];refine Af [.rd 0 false,.rd 1 false,.rd 2 false,.rd 3 true,.rd 4 true,.ef 5 [],.rd 6 false] ?_;simp only[go_sem,hp,hx2,hgs];refine(El s.given f (by omega) hs.gs hfs).p ?_;by_cases hin:f∈s.given
 case neg=>
  have e:Gr s f=(152,s):=by unfold Gr;rw[if_neg hin]
  simp only[go_sem,decide_eq_false hin];exact Ae (r:=int 152) rfl ⟨by rw[e],a,by rw[e];exact h2,.of hsb⟩
 simp only[go_sem,decide_eq_true hin];refine Af [.rd 0 false,.rd 1 false,.rd 2 false,.rd 3 false,.rd 4 true,.rd 5 true,.rd 6 false,.ef 7 [],.rd 8 false,.rd 9 false,.ef 10 []] ?_;simp only[go_sem,hp,hx2,hgs];refine(AT.weak (Mp s.given [f] (by omega) hs.gs (by simp) (fun y hy=>by rw[List.mem_singleton.1 hy];exact hfs)) (vws_same Ou)).p ?_;rw[Ao4 hs.gr];obtain⟨kE,kF⟩:=h2.setH (l:=(Bq s f).given);have esp:Az (evC true s a hv) 5 [.sl 4 (faC (Bq s f).given)]=evC true (Bq s f) {a with gv:=.sl 4 (faC (Bq s f).given)} hv:=rfl;simp only[go_sem,Aa,hx2,esp,kE.all1];have F3:=(Frm.of hsb).trans kF;obtain⟨s1,hs1⟩:∃s1:ES,s1=Bq s f:=⟨_,rfl⟩;rw[show({s with given:=(Bq s f).given}:ES)=s1 from hs1.symm,←hs1]at kE F3;rw[←hs1];obtain⟨a1,ha1⟩:∃a1:EA,a1={a with gv:=.sl 4 (faC s1.given)}:=⟨_,rfl⟩;rw[←ha1]at kE F3⊢;have O1:SOk n s1:=by rw[hs1];exact Xn hs
 have hd:Gr s f=(0,{((C7 s1).foldl Cp (s1,[])).1 with outs:=((C7 s1).foldl Cp (s1,[])).1.outs++(Aw Ai [] ((C7 s1).foldl Cp (s1,[])).2).map fun y=>(y,true)}):=by unfold Gr;rw[if_pos hin,hs1]
 clear kF hx2 hp hs1 ha1;generalize σ2.set x (.cells (evC true s1 a1 hv))=σ4 at kE F3⊢;have hx4:=kE.cx;have gl4:=O1.gl;have hg4:=kE.gsl;have ht4:σ4 a1.t=some (.cells [.sl 4 (faC s1.T),int s1.lim]):=kE.ct;have htl:=O1.tok.len;obtain⟨W,hW⟩:∃W,W=s1.given:=⟨_,rfl⟩;refine⟨fun m fr σ'=>∃(i:Nat) (lv:AV),m=W.length-i∧i≤W.length∧LAt 4 σ' lv (faC ((W.take i).filter fun g=>decide (g∈s1.T)))∧Cg σ4 σ' lv∧fr 0=ptr x∧fr 5=lv∧fr 6=int i,⟨_,0,A4,rfl,by omega,.none,.nil,rfl,rfl,rfl⟩,?_⟩;rintro m fr σ5 ⟨i,lv,rfl,hi,hL,hG,f0,f5,f6⟩;have E5:=kE.more hG.sub;have hx5:=E5.cx;have ht5:=hG.sub _ _ ht4;rw[←hW]at hg4;rw[←hW]at gl4;simp only[go_sem,f0,f6,hx5,hg4,Aj];refine aIf_by (fun hlt=>?_) (fun hlt=>?_)
 ·have hil:i<W.length:=by omega
  have hsm:=O1.gs W[i] (by rw[←hW];exact List.getElem_mem hil);have et:=Iw (p:=fun g=>decide (g∈s1.T)) hil;have nx:=As i (by omega);simp only[go_sem,Aa];refine Af [.rd 0 false,.rd 1 false,.rd 2 false,.rd 3 true,.rd 4 false,.rd 5 false,.rd 6 true,.rd 7 false,.rd 8 false,.rd 9 false,.rd 10 true,.rd 11 false,.rd 12 false,.rd 13 true,.ef 14 []] ?_;simp only[go_sem,Aa,f0,f6,hx5,hg4,ht5,Aq hil,Aj];refine⟨by omega,(El s1.T W[i] (by omega) O1.tok.sm hsm).p ?_⟩;by_cases hm:W[i]∈s1.T
  ·rw[if_pos (decide_eq_true hm)]at et
   have tl:((W.take i).filter fun g=>decide (g∈s1.T)).length≤W.length:=Nm;simp only[go_sem,Aa,decide_eq_true hm,f0,f5,f6,hx5,hg4,Aq hil,Aj];refine⟨by omega,?_⟩;refine Ap (ys:=[W[i].cs]) rfl (by decide) (by decide) (by decide) (hL.app (by rw[Aj];simp only[List.length_cons,List.length_nil];omega) fun lv' σ6 hL5 hs5=>?_);have e5:faC ((W.take i).filter fun g=>decide (g∈s1.T))++[W[i].cs]=faC ((W.take (i+1)).filter fun g=>decide (g∈s1.T)):=by rw[et];simp[faC]
   rw[e5]at hL5;simp only[go_sem,Aa,f6,nx];exact⟨W.length-(i+1),by omega,i+1,lv',rfl,by omega,hL5,hG.step hs5,f0,rfl,rfl⟩
  ·rw[if_neg (by simpa using hm),List.append_nil]at et
   simp only[go_sem,Aa,decide_eq_false hm,f6,nx];exact⟨W.length-(i+1),by omega,i+1,lv,rfl,by omega,by rw[et];exact hL,hG,f0,f5,rfl⟩
 ·rw[List.take_of_length_le (by omega)]at hL
  simp only[go_sem,Aa,f0,f5,hx5];have nlv:∀y,Bo x a1 y→¬Own lv y:=fun y hf=>by
   obtain⟨o,hy⟩:=Ig kE hf;exact(hG y o hy).2
  obtain⟨σ6,e6⟩:∃σ6,σ6=St.free σ5 lv:=⟨_,rfl⟩;have E6:EV true σ6 x a1 s1 hv:=E5.keep fun y o hy hf=>by rw[e6,I8 (nlv y hf)];exact hy
  have F6:Frm x a a1 σ σ6:=F3.trans fun y o hy hn=>⟨by rw[e6,I8 (hG y o hy).2];exact(hG y o hy).1,hn⟩;obtain⟨bs,hbs⟩:∃bs,bs=W.filter fun g=>decide (g∈s1.T):=⟨_,rfl⟩;have hbl:bs.length≤W.length:=by rw[hbs];exact List.length_filter_le _ _
  have hbm:∀y∈bs,y.Sm:=fun y hy=>O1.gs y (by rw[hbs]at hy;rw[←hW];exact(List.mem_filter.1 hy).1);have hb6:RK σ6 a1.b s1.B:=E6.cb;have hbk:=O1.bok (by omega);have hbl2:=O1.bl;rw[←hbs]at hL;refine AT.pre (args':=[ptr a1.b,.sl 4 (faC bs)]) ((Aay (e6▸hb6) hbk bs (by omega) hbm).mono ?_) (by kernel_rfl) Agb (vws_same (vws_cons hL.vw_free By));rintro _ _ ⟨rfl,rfl⟩;rw[←e6];clear e6 E5 hx5 ht5 hL hG nlv kE F3 hx4 ht4;have hx6:=E6.cx;have ht6:σ6 a1.t=some (.cells [.sl 4 (faC s1.T),int s1.lim]):=E6.ct;have ly:=No s1.B bs;have lyl:=ly.len;have lys:∀y∈Cb s1.B bs,y.Sm:=fun y hy=>by
   rcases ly.own y hy with hy|⟨d,hd,e⟩
   ·exact hbm y hy
   ·rw[←e];exact(O1.bs d hd).1
  simp only[go_sem,Aa,f0,hx6,ht6];refine(Mp s1.T (Cb s1.B bs) (by omega) O1.tok.sm (by omega) lys).p ?_;rw[hbs,hW,Aov O1.tok.rises];simp only[go_sem,Aa,f0];refine(Rk E6 O1 hn).p ?_;obtain⟨G,hG⟩:∃G,G=C7 s1:=⟨_,rfl⟩;rw[←hG]at hd⊢
  have hGs:∀y∈G,y.Sm:=fun y hy=>O1.tok.sm y (by
   rw[hG]at hy;have:=(List.mem_filter.1 hy).1;rw[Ar Ah]at this;simpa using this)
  have gl:G.length≤1000000:=by
   rw[hG];have h1:=List.length_filter_le (fun y=>!decide (y∈Lq s1)) (Aw Ai [] s1.T);have h2:=Bn (c:=Ai) (s:=[]) (l:=s1.T);simp only[List.length_nil]at h2;unfold C7;omega
  have g0:GOk n (s1,[]):=⟨O1,by have:=O1.bo;show s1.B.length+s1.outs.length+0≤n;omega,fun y hy=>by cases hy⟩;have fcl:=Aj G;obtain⟨was,hwas⟩:∃was,was=M3 s1:=⟨_,rfl⟩;have hws:=Ajq O1;rw[←hwas]at hws⊢;simp only[go_sem,Aa];refine⟨fun m fr σ'=>∃(i:Nat) (P:ES×List Fa),m=G.length-i∧i≤G.length∧P=(G.take i).foldl Cp (s1,[])∧GOk n P∧EV true σ' x a1 P.1 hv∧Frm x a a1 σ σ'∧fr 0=ptr x∧fr 8= .sl 4 (faC G)∧fr 9= .sl 4 (faC was)∧fr 10=int i,⟨_,0,(s1,[]),rfl,by omega,rfl,g0,E6,F6,f0,rfl,rfl,rfl⟩,?_⟩;clear g0 E6 F6 hx6 ht6 f0 f5 f6 hb6;rintro m fr σ2 ⟨i,P,rfl,hi,hP,hO,hE,hF,f0,f8,f9,f10⟩;simp only[go_sem,f8,f10,fcl];refine aIf_by (fun hlt=>?_) (fun hlt=>?_)
  case' refine_1=>
   have hil:i<G.length:=by omega
   have hgs:=hGs _ (List.getElem_mem hil);obtain⟨g,hg⟩:∃g,g=G[i]:=⟨_,rfl⟩;rw[←hg]at hgs;have gg:(faC G).getD i []=g.cs:=by rw[hg];exact Aq hil
   have hx4:=hE.cx;simp only[go_sem,Aa];refine Af [.rd 0 false,.rd 1 false,.rd 2 false,.rd 3 true,.rd 4 false,.rd 5 false,.rd 6 false,.rd 7 true,.ef 8 []] ?_;simp only[go_sem,Aa,f0,f8,f10,hx4,gg,fcl];refine⟨by omega,(Aly (t:=a1.t) hE.ct hO.ok.tok g hgs).mono ?_⟩;rintro _ σ5 ⟨rfl,rfl⟩;have hE1:EV true (σ2.set a1.t (tbC (Ha P.1.T g).1 P.1.lim)) x a1 (Q7 P g).1 hv:=hE.setT;have hF1:Frm x a a1 σ (σ2.set a1.t (tbC (Ha P.1.T g).1 P.1.lim)):=hF.trans .setT;have hO1:=Adv (g:=g) hO;obtain⟨P1,hP1⟩:∃P1,P1=Q7 P g:=⟨_,rfl⟩;have hB1:P1.1.B=P.1.B:=by rw[hP1];rfl
   rw[←hP1]at hE1 hO1;generalize σ2.set a1.t (tbC (Ha P.1.T g).1 P.1.lim)=σ5 at hE1 hF1⊢;clear hE hF hx4;have hx5:=hE1.cx;have hb5:RK σ5 a1.b P1.1.B:=hE1.cb;simp only[go_sem,Aa];refine Af [.rd 0 false,.rd 1 false,.rd 2 false,.rd 3 true,.rd 4 false,.rd 5 false,.rd 6 false,.rd 7 true,.ef 8 [],.rd 9 false] ?_;simp only[go_sem,Aa,f0,f8,f10,hx5,gg,fcl];refine⟨by omega,(Al0 hb5 (hO1.ok.bok (by omega)) g hgs).p ?_⟩;obtain⟨U,hU⟩:∃U,U=Py P1.1.B g:=⟨_,rfl⟩;have hUm:∀d∈U,d∈P1.1.B:=fun d hd=>by rw[hU]at hd;exact(List.mem_filter.1 hd).1
   have hUn:U.Nodup:=by rw[hU];exact(Hn A8 hO1.ok.br).filter _
   have hUl:U.length≤800000000000:=by
    have h1:=List.length_filter_le (fun d:De=>decide (g∈d.bo)) P1.1.B;have h2:=hO1.ok.bl;rw[hU];unfold Py;omega
   have hUs:∀d∈U,d.Sm:=fun d hd=>hO1.ok.bs d (hUm d hd);have es1:U.foldl Cu P1=Cp P g:=by unfold Cp;rw[hU,hP1];rfl
   rw[←hU];have dcl:=Au U;simp only[go_sem,Aa];refine⟨fun m fr σ'=>∃(k:Nat) (P2:ES×List Fa),m=U.length-k∧k≤U.length∧P2=(U.take k).foldl Cu P1∧GOk n P2∧EV true σ' x a1 P2.1 hv∧Frm x a a1 σ σ'∧fr 0=ptr x∧fr 8= .sl 4 (faC G)∧fr 9= .sl 4 (faC was)∧fr 10=int i∧fr 11= .sl 6 (deC U)∧fr 12=int k,⟨_,0,P1,rfl,by omega,rfl,hO1,hE1,hF1,f0,f8,f9,f10,rfl,rfl⟩,?_⟩;clear hE1 hF1 hx5 hb5 f0 f8 f9 f10;rintro m fr σ2 ⟨k,P2,rfl,hk,hP2,hO2,hE2,hF2,f0,f8,f9,f10,f11,f12⟩;simp only[go_sem,f11,f12,dcl];refine aIf_by (fun hlt=>?_) (fun hlt=>?_)
   case' refine_2=>
    have ek:k=U.length:=by omega
    have eP:P2=(G.take (i+1)).foldl Cp (s1,[]):=by rw[hP2,ek,List.take_length,es1,Mf _ hil,←hP,hg]
    simp only[go_sem,Aa,f10,As i (by omega)];exact⟨G.length-(i+1),by omega,i+1,P2,rfl,by omega,eP,hO2,hE2,hF2,f0,f8,f9,rfl⟩
   have hkl:k<U.length:=by omega
   obtain⟨d,hdd⟩:∃d,d=U[k]:=⟨_,rfl⟩;have hdm:d∈U:=by rw[hdd];exact List.getElem_mem hkl
   have hds:=hUs d hdm;have hdB:d∈P2.1.B:=by
    rw[hP2];exact S8 _ _ (hUm d hdm) (by rw[hdd];exact Aff hUn hkl)
   have dg:(deC U).getD k []=d.cs:=by rw[hdd];exact Co hkl
   have e2:Cu P2 d=(U.take (k+1)).foldl Cu P1:=by rw[Mf _ hkl,←hP2,hdd]
   have hO3:=Ab3 hO2 hdB;have hx4:=hE2.cx;simp only[go_sem,Aa];refine Af [.rd 0 false,.rd 1 false,.rd 2 false,.rd 3 true,.rd 4 false,.rd 5 false,.rd 6 false,.rd 7 true,.ef 8 []] ?_;simp only[go_sem,Aa,f0,f11,f12,hx4,dg,dcl];refine⟨by omega,(Alo (t:=a1.b) hE2.cb (hO2.ok.bok (by omega)) d hds).mono ?_⟩;rintro _ σ5 ⟨rfl,rfl⟩;have hE3:EV true (σ2.set a1.b (rkC (P2.1.B.filter fun y=>!decide (y=d)))) x a1 (Cu P2 d).1 hv:=hE2.setB;have hF3:Frm x a a1 σ (σ2.set a1.b (rkC (P2.1.B.filter fun y=>!decide (y=d)))):=hF2.trans .setB;simp only[go_sem,Aa,f12,As k (by omega)];exact⟨U.length-(k+1),by omega,k+1,Cu P2 d,rfl,by omega,e2,hO3,hE3,hF3,f0,f8,f9,f10,f11,rfl⟩
  have ei:i=G.length:=by omega
  rw[ei,List.take_length]at hP;simp only[go_sem,Aa,f0,f9];refine(Rk hE hO.ok hn).p ?_;have hws2:=Ajq hO.ok;simp only[go_sem,Aa,f9];refine(Mp was (M3 P.1) (by omega) hws.2 (by omega) hws2.2).p ?_;rw[hwas,hP,Apa (Hn A8 O1.br) G,←hP];rw[←hP]at hd;obtain⟨H,hH⟩:∃H,H=Aw Ai [] P.2:=⟨_,rfl⟩;rw[←hH]at hd⊢;have Hl:H.length≤P.2.length:=by
   have:=Bn (c:=Ai) (s:=[]) (l:=P.2);rw[←hH]at this;simp only[List.length_nil]at this;omega
  have hcl:=Aj H;have hle:=hO.le;obtain⟨z,hz⟩:∃z,z=P.1.outs:=⟨_,rfl⟩;have hzl:z.length+P.2.length≤n:=by rw[hz];omega
  simp only[go_sem,Aa];refine⟨fun m fr σ'=>∃(k:Nat) (a':EA) (s':ES),m=H.length-k∧k≤H.length∧s'={P.1 with outs:=z++(H.take k).map fun y=>(y,true)}∧EV true σ' x a' s' hv∧Frm x a a' σ σ'∧fr 0=ptr x∧fr 13= .sl 4 (faC H)∧fr 14=int k,⟨_,0,a1,P.1,rfl,by omega,by rw[hz];simp,hE,hF,f0,rfl,rfl⟩,?_⟩;clear hE hF f0 f8 f9 f10;rintro m fr σ2 ⟨k,a',s',rfl,hk,hs',E2,F2,f0,f13,f14⟩;simp only[go_sem,f13,f14,hcl];refine aIf_by (fun hlt=>?_) (fun hlt=>?_)
  case' refine_2=>
   have ek:k=H.length:=by omega
   rw[ek,List.take_length,hz]at hs';simp only[go_sem,Aa];exact Ae (r:=int 0) rfl ⟨by rw[hd],a',by rw[hd,←hs'];exact E2,F2⟩
  have hkl:k<H.length:=by omega
  obtain⟨g,hg⟩:∃g,g=H[k]:=⟨_,rfl⟩;have gg:(faC H).getD k []=g.cs:=by rw[hg];exact Aq hkl
  have hx4:=E2.cx;have ol:s'.outs.length=z.length+k:=by rw[hs'];simp;omega
  simp only[go_sem,Aa];refine Af [.rd 0 false,.rd 1 false,.rd 2 false,.rd 3 false,.rd 4 true,.rd 5 false,.rd 6 false,.rd 7 false,.rd 8 true,.rd 9 false,.rd 10 false,.ef 11 [],.rd 12 false,.rd 13 false,.ef 14 []] ?_;simp only[go_sem,Aa,f0,f13,f14,hx4,gg,hcl];refine⟨by omega,Nat.le_refl 5,rfl,rfl,?_⟩;refine Ap (ys:=[g.cs++[boo true]]) rfl (by decide) (by decide) (by decide) (E2.co.app (by rw[Sa,ol];simp only[List.length_cons,List.length_nil];omega) fun v' σ5 k1 k2=>?_);rw[show ouC s'.outs++[g.cs++[boo true]]=ouC (s'.outs++[(g,true)]) by simp[ouC]]at k1;obtain⟨kx,kE,kF⟩:=E2.setO k1 k2;have esp:Az (evC true s' a' hv) 7 [v']=evC true {s' with outs:=s'.outs++[(g,true)]} {a' with ov:=v'} hv:=rfl;have e5:({s' with outs:=s'.outs++[(g,true)]}:ES)={P.1 with outs:=z++(H.take (k+1)).map fun y=>(y,true)}:=by
   rw[hs',List.take_add_one,List.getElem?_eq_getElem hkl,hg];simp only[List.map_append,Option.toList,List.map_cons,List.map_nil,List.append_assoc]
  simp only[go_sem,Aa,kx,k1.one,k1.cells,esp,kE.all1,f14,As k (by omega)];exact⟨H.length-(k+1),by omega,k+1,_,_,rfl,by omega,e5,kE,F2.trans kF,f0,f13,rfl⟩
end
structure Kz(s s':ES):Prop where
 me:s'.me=s.me
 names:s'.names=s.names
 rules:s'.rules=s.rules
 lim:s'.lim=s.lim
theorem Kz.refl(s:ES):Kz s s:=⟨rfl,rfl,rfl,rfl⟩
theorem Kz.trans{s s' s'':ES}(h:Kz s s')(k:Kz s' s''):Kz s s'':=⟨k.me.trans h.me,k.names.trans h.names,k.rules.trans h.rules,k.lim.trans h.lim⟩
theorem Vn(s:ES)(f:Fa):Kz s (Dp s f).2:=by
 unfold Dp
 repeat' split
 all_goals exact⟨rfl,rfl,rfl,rfl⟩
theorem R7{n g:Nat}{s:ES}{f:Fa}(h:SOk n s)(hg:s.given.length≤g)(g1:g+1≤1000000):SOk (n+1) (Dp s f).2∧(Dp s f).2.given.length≤g+1:=by
 unfold Dp;split
 ·rename_i hf
  split
  ·split
   ·exact⟨h.le (by omega),Nat.le_trans hg (Nat.le_succ g)⟩
   ·have h2:=Bn (c:=Ai) (s:=[]) (l:=s.given++[f])
    simp only[List.length_nil,List.length_append,List.length_cons]at h2;have hsm:=Xs hf;have hgl:(Aw Ai [] (s.given++[f])).length≤g+1:=by omega
    refine⟨{h.le (show n≤n+1 by omega)with ql:=?_,qs:=fun y hy=>?_,gr:=Bh Ah .nil,gl:=(by show(Aw Ai [] (s.given++[f])).length≤1000000;omega),gs:=fun y hy=>?_},hgl⟩
    ·show(s.queue++[f]).length≤n+1
     have:=h.ql;simp only[List.length_append,List.length_cons,List.length_nil];omega
    ·rcases List.mem_append.1 hy with hy|hy
     ·exact h.qs y hy
     ·rw[List.mem_singleton.1 hy];exact hsm
    ·rcases(Ar Ah).1 hy with hy|hy
     ·rcases List.mem_append.1 hy with hy|hy
      ·exact h.gs y hy
      ·rw[List.mem_singleton.1 hy];exact hsm
     ·cases hy
  ·exact⟨h.le (by omega),Nat.le_trans hg (Nat.le_succ g)⟩
 ·exact⟨h.le (by omega),Nat.le_trans hg (Nat.le_succ g)⟩
theorem Aeq{n:Nat}:∀(l:List De) (p:ES×List Fa),l.Nodup→(∀d∈l,d∈p.1.B)→GOk n p→GOk n (l.foldl Cu p)
 | [],p,_,_,h=>h
 |d::l,p,hn,hm,h=>by
  obtain⟨n1,n2⟩:=List.nodup_cons.1 hn;exact Aeq l (Cu p d) n2 (fun e he=>W5 (hm e (by simp[he])) fun e'=>n1 (e'▸he)) (Ab3 h (hm d (by simp)))
theorem Asf{n:Nat}{p:ES×List Fa}{g:Fa}(h:GOk n p):GOk n (Cp p g):=
 Aeq _ _ ((Hn A8 h.ok.br).filter _) (fun d hd=>(List.mem_filter.1 hd).1) (Adv h)
theorem Ae1{n:Nat}:∀(l:List Fa) (p:ES×List Fa),GOk n p→GOk n (l.foldl Cp p)
 | [],p,h=>h
 |g::l,p,h=>Ae1 l (Cp p g) (Asf h)
theorem Qi:∀(l:List De) (p:ES×List Fa),Kz p.1 (l.foldl Cu p).1∧(l.foldl Cu p).1.given=p.1.given∧(l.foldl Cu p).1.queue=p.1.queue∧(l.foldl Cu p).1.T=p.1.T∧(l.foldl Cu p).1.full=p.1.full∧(l.foldl Cu p).1.outs=p.1.outs
 | [],p=>⟨.refl _,rfl,rfl,rfl,rfl,rfl⟩
 |d::l,p=>by
  obtain⟨h1,h2,h3,h4,h5,h6⟩:=Qi l (Cu p d);exact⟨Kz.trans (s':=(Cu p d).1) ⟨rfl,rfl,rfl,rfl⟩ h1,h2,h3,h4,h5,h6⟩
theorem Qt:∀(l:List Fa) (p:ES×List Fa),Kz p.1 (l.foldl Cp p).1∧(l.foldl Cp p).1.given=p.1.given∧(l.foldl Cp p).1.queue=p.1.queue∧(l.foldl Cp p).1.full=p.1.full∧(l.foldl Cp p).1.outs=p.1.outs
 | [],p=>⟨.refl _,rfl,rfl,rfl,rfl⟩
 |g::l,p=>by
  obtain⟨h1,h2,h3,h4,h5⟩:=Qt l (Cp p g);obtain⟨k1,k2,k3,_,k4,k5⟩:=Qi (Py p.1.B g) (Q7 p g);exact⟨Kz.trans (s':=(Cp p g).1) (Kz.trans (s':=(Q7 p g).1) ⟨rfl,rfl,rfl,rfl⟩ k1) h1,h2.trans k2,h3.trans k3,h4.trans k4,h5.trans k5⟩
theorem U7(s:ES)(f:Fa):Kz s (Gr s f).2:=by
 unfold Gr;split
 ·have:=(Qt (C7 (Bq s f)) (Bq s f,[])).1
  exact⟨this.me,this.names,this.rules,this.lim⟩
 ·exact .refl s
theorem Aed{n g:Nat}{s:ES}{f:Fa}(h:SOk n s)(hg:s.given.length≤g):SOk n (Gr s f).2∧(Gr s f).2.given.length≤g:=by
 unfold Gr;split
 ·have G0:GOk n (Bq s f,[]):=⟨Xn h,by have:=h.bo;exact this,fun y hy=>by cases hy⟩
  have G:=Ae1 (C7 (Bq s f)) _ G0;obtain⟨_,e1,_⟩:=Qt (C7 (Bq s f)) (Bq s f,[]);generalize (C7 (Bq s f)).foldl Cp (Bq s f,[])=p at G e1;have h2:=Bn (c:=Ai) (s:=[]) (l:=p.2);have h3:=G.le;simp only[List.length_nil]at h2;refine⟨{G.ok with bo:=?_,os:=fun o ho=>?_},?_⟩
  ·show p.1.B.length+(p.1.outs++(Aw Ai [] p.2).map fun y=>(y,true)).length≤n
   rw[List.length_append,List.length_map];omega
  ·rcases List.mem_append.1 ho with ho|ho
   ·exact G.ok.os o ho
   ·obtain⟨y,hy,rfl⟩:=List.mem_map.1 ho
    rcases(Ar Ah).1 hy with hy|hy
    ·exact G.sm y hy
    ·cases hy
  ·show p.1.given.length≤g
   rw[e1];have h1:=List.length_filter_le (fun y=>!decide (y∈[f])) (Aw Ai [] s.given);have h2:=Bn (c:=Ai) (s:=[]) (l:=s.given);simp only[List.length_nil]at h2;show((Aw Ai [] s.given).filter fun y=>!decide (y∈[f])).length≤g;omega
 ·exact⟨h,hg⟩
theorem G9(s:ES):Kz s (A5 s).2∧(A5 s).2.given=s.given:=by
 unfold A5;split
 ·exact⟨.refl s,rfl⟩
 split
 ·exact⟨.refl s,rfl⟩
 rename_i f q hq;split
 ·exact⟨⟨rfl,rfl,rfl,rfl⟩,rfl⟩
 split
 ·have k:=Iu s.me f (Bs s.T s.lim f).1 s.rules {s with queue:=q,T:=(Bs s.T s.lim f).1} s.rules.length
  exact⟨⟨k.me,k.names,k.rules,k.lim⟩,k.given⟩
 ·exact⟨⟨rfl,rfl,rfl,rfl⟩,rfl⟩
theorem Va:∀(k:Nat) (s:ES),Kz s (C1 k s)∧(C1 k s).given=s.given
 |0,s=>⟨.refl s,rfl⟩
 |k+1,s=>by
  show Kz s (if(A5 s).1=true then C1 k (A5 s).2 else s)∧(if(A5 s).1=true then C1 k (A5 s).2 else s).given=s.given;split
  ·obtain⟨h1,h2⟩:=Va k (A5 s).2
   obtain⟨k1,k2⟩:=G9 s;exact⟨k1.trans h1,h2.trans k2⟩
  ·exact⟨.refl s,rfl⟩
theorem W4:∀(k:Nat) {n:Nat} {s:ES},SOk n s→Cr s.rules s.rules.length≤80→Kv k s→SOk (n+k*4800160) (C1 k s)∧Hv (C1 k s)∧(A5 (C1 k s)).1=false
 |0,n,s,h,hl,hd=>⟨h.le (by omega),hd.1,hd.2⟩
 |k+1,n,s,h,hl,hd=>by
  show SOk _ (if(A5 s).1=true then C1 k (A5 s).2 else s)∧Hv (if(A5 s).1=true then C1 k (A5 s).2 else s)∧(A5 (if(A5 s).1=true then C1 k (A5 s).2 else s)).1=false;split
  ·rename_i hc
   obtain⟨k1,k2⟩:=G9 s;have h1:=(Uf h hd.1).le (m:=n+4800160) (by omega);obtain⟨j1,j2,j3⟩:=W4 k h1 (by rw[k1.rules];exact hl) (hd.2 hc);exact⟨j1.le (by omega),j2,j3⟩
  ·rename_i hc
   exact⟨h.le (by omega),hd.1,by simpa using hc⟩
structure Both(σ:St)(x:Nat)(a:EA)(y:Nat)(b:EA)(s:ES):Prop where
 ex:EV false σ x a s false
 ey:EV true σ y b s false
 dj:∀z,Bo x a z→¬Bo y b z
theorem EV.stay{r:Bool}{σ σ':St}{x y:Nat}{a a' b:EA}{t:ES}{hv:Bool}(h:EV r σ y b t hv)(F:Frm x a a' σ σ')(dj:∀z,Bo y b z→¬Bo x a z):EV r σ' y b t hv∧∀z,Bo y b z→¬Bo x a' z:=
 ⟨h.keep fun z o hz hf=>(F z o hz (dj z hf)).1,fun z hf=>by
  obtain⟨o,ho⟩:=Ig h hf;exact(F z o ho (dj z hf)).2⟩
def Hh(s:ES)(a:Ac):ES:=if a.k=0 then(Dp s a.f).2 else if a.k=1 then(Gr s a.f).2 else if a.k=2 then(A5 s).2 else s
def C2(l:List Ac)(s:ES):ES:=l.foldl Hh s
theorem Q4{l:List Ac}{i:Nat}(s:ES)(h:i<l.length):C2 (l.take (i+1)) s=Hh (C2 (l.take i) s) l[i]:=by
 unfold C2;rw[List.take_add_one,List.getElem?_eq_getElem h];simp only[Option.toList,List.foldl_append,List.foldl_cons,List.foldl_nil]
theorem U4(s:ES)(a:Ac):Kz s (Hh s a):=by
 unfold Hh
 repeat' split
 ·exact Vn s a.f
 ·exact U7 s a.f
 ·exact(G9 s).1
 ·exact .refl s
theorem H5:∀(l:List Ac) (s:ES),Kz s (C2 l s)
 | [],s=>.refl s
 |a::l,s=>(U4 s a).trans (H5 l (Hh s a))
theorem Ad5{n g:Nat}{s:ES}{a:Ac}(h:SOk n s)(hg:s.given.length≤g)(g1:g+1≤1000000)(hl:Cr s.rules s.rules.length≤80)(hw:a.k=2→Hv s):SOk (n+4800320) (Hh s a)∧(Hh s a).given.length≤g+1:=by
 unfold Hh;split
 ·have:=R7 (f:=a.f) h hg g1
  exact⟨this.1.le (by omega),this.2⟩
 ·split
  ·have:=Aed (f:=a.f) h hg
   exact⟨this.1.le (by omega),by omega⟩
  ·split
   ·rename_i h2
    have h1:=Uf h (hw h2);refine⟨h1.le ?_,by rw[(G9 s).2];omega⟩;exact Nat.add_le_add_left (Nat.le_trans (Nat.mul_le_mul hl (Nat.le_refl 60002)) (by decide)) n
   ·exact⟨h.le (by omega),by omega⟩
theorem Al2(s:ES):(A5 s).2.T.length≤s.T.length+1∧(A5 s).2.lim=s.lim:=by
 refine⟨?_,(G9 s).1.lim⟩;have hp:∀f,(Bs s.T s.lim f).1.length≤s.T.length+1:=fun f=>by
  unfold Bs
  repeat' split
  ·simp
  ·simp
  ·exact I9
  ·simp
 unfold A5;split
 ·exact Nat.le_succ _
 split
 ·exact Nat.le_succ _
 rename_i f q hq;split
 ·exact Nat.le_succ _
 split
 ·rw[(Iu s.me f (Bs s.T s.lim f).1 s.rules {s with queue:=q,T:=(Bs s.T s.lim f).1} s.rules.length).T]
  exact hp f
 ·exact hp f
theorem Am1(s:ES)(f:Fa):(Gr s f).2.T.length≤s.T.length:=by
 have key:∀(G:List Fa) (p:ES×List Fa),(G.foldl Cp p).1.T.length≤p.1.T.length:=fun G=>by
  induction G with
  |nil=>exact fun _=>Nat.le_refl _
  |cons g G ih=>
   intro p;refine Nat.le_trans (ih (Cp p g)) ?_;show((Py p.1.B g).foldl Cu (Q7 p g)).1.T.length≤_;rw[(Qi (Py p.1.B g) (Q7 p g)).2.2.2.1];show(Ha p.1.T g).1.length≤_;unfold Ha;split
   ·exact List.length_filter_le _ _
   ·exact Nat.le_refl _
 unfold Gr;split
 ·exact key (C7 (Bq s f)) (Bq s f,[])
 ·exact Nat.le_refl _
structure Way(n:Nat)(s:ES):Prop where
 inv:Inv s
 full:s.full=false
 T:s.T.length≤n
theorem Way.step{n:Nat}{s:ES}(h:Way n s)(hl:(n:Int)<s.lim):Way (n+1) (A5 s).2:=by
 obtain⟨h1,h2⟩:=Ao0 h.inv (.inl (by have:=h.T;omega)) h.full;exact⟨h1,h2,Nat.le_trans (Al2 s).1 (by have:=h.T;omega)⟩
theorem Way.le{n m:Nat}{s:ES}(h:Way n s)(hm:n≤m):Way m s:=⟨h.inv,h.full,Nat.le_trans h.T hm⟩
theorem Way.act{n:Nat}{s:ES}(h:Way n s)(hl:(n:Int)<s.lim)(a:Ac):Way (n+1) (Hh s a):=by
 unfold Hh;split
 ·refine⟨Aj7 h.inv a.f,?_,?_⟩
  ·unfold Dp
   repeat' split
   all_goals exact h.full
  ·have:(Dp s a.f).2.T=s.T:=by
    unfold Dp
    repeat' split
    all_goals rfl
   rw[this];have:=h.T;omega
 ·split
  ·obtain⟨h1,h2⟩:=Aoz h.inv a.f
   exact⟨h1,h2.trans h.full,Nat.le_trans (Am1 s a.f) (by have:=h.T;omega)⟩
  ·split
   ·exact h.step hl
   ·exact h.le (Nat.le_succ n)
theorem Way.run:∀(l:List Ac) {n:Nat} {s:ES},Way n s→(n:Int)+l.length≤s.lim→Way (n+l.length) (C2 l s)
 | [],n,s,h,_=>h
 |a::l,n,s,h,hl=>by
  simp only[List.length_cons]at hl⊢;have:=Way.run l (h.act (by omega) a) (by rw[(U4 s a).lim];omega);exact this.le (by omega)
theorem Way.drn:∀(k:Nat) {n:Nat} {s:ES},Way n s→(n:Int)+k≤s.lim→Way (n+k) (C1 k s)
 |0,n,s,h,_=>h
 |k+1,n,s,h,hl=>by
  show Way _ (if(A5 s).1=true then C1 k (A5 s).2 else s);split
  ·have:=Way.drn k (h.step (by omega)) (by rw[(Al2 s).2];omega)
   exact this.le (by omega)
  ·exact h.le (by omega)
theorem Af9{s:ES}(h:(A5 s).1=false)(hf:s.full=false):s.queue=[]:=by
 cases hq:s.queue with
 |nil=>rfl
 |cons f q=>
  exfalso;revert h;unfold A5;rw[if_neg (by rw[hf];decide),hq];simp only;split
  ·intro h;cases h
  ·split<;>(intro h;cases h)
def M4(me:ByteArray)(names:List ByteArray)(rs:List Rl)(l:List Ac):ES:=C1 400 (C2 l (Ch me names 4096 rs))
structure Fin7(me:ByteArray)(names:List ByteArray)(rs:List Rl)(l:List Ac)(s:ES):Prop where
 inv:Inv s
 q:s.queue=[]
 full:s.full=false
 ok:SOk 3000000000 s
 eme:s.me=me
 enames:s.names=names
 erules:s.rules=rs
 egiven:s.given=(C2 l (Ch me names 4096 rs)).given
 nm:me∈names
 gl:s.given.length≤100
 drn:Kv 400 (C2 l (Ch me names 4096 rs))
theorem fin7{me:ByteArray}{names:List ByteArray}{rs:List Rl}{l:List Ac}(hm:me∈names)(hb:¬K0 rs)(hS:C7Sm names rs l)(hw:∀i (h:i<l.length),l[i].k=2→Hv (C2 (l.take i) (Ch me names 4096 rs)))(hd:Kv 400 (C2 l (Ch me names 4096 rs))):Fin7 me names rs l (M4 me names rs l):=by
 obtain⟨i1,i2,i3,i4⟩:=Ae4 (me:=me) (names:=names) (lim:=4096) hb;have k0:SK (Lj me names 4096 rs) (Ch me names 4096 rs):=Ep me rs _ _;have l0:(Ch me names 4096 rs).lim=4096:=k0.lim;have r0:(Ch me names 4096 rs).rules=rs:=k0.rules;have al:=hS.al;have W0:Way 0 (Ch me names 4096 rs):=⟨i1,i2,by rw[i4];exact Nat.le_refl _⟩;have W1:=Way.run l W0 (by rw[l0];omega);have sm:=H5 l (Ch me names 4096 rs);have W2:=Way.drn 400 W1 (by rw[sm.lim,l0];omega);have rl80:=hS.rl;have O0:SOk 4800320 (Ch me names 4096 rs):=(Ux (n:=0) (me:=me) (rules:=rs) (Lk (by omega) (by omega) hS.rs (by omega) (by have:=hS.nm;omega)) rs.length).le (by omega);have O1:∀i,i≤l.length→SOk (4800320+i*4800320) (C2 (l.take i) (Ch me names 4096 rs))∧(C2 (l.take i) (Ch me names 4096 rs)).given.length≤i:=fun i=>by
  induction i with
  |zero=>exact fun _=>⟨O0,by show(Ch me names 4096 rs).given.length≤0;rw[i3];exact Nat.le_refl _⟩
  |succ i ih=>
   intro hi;obtain⟨k1,k2⟩:=ih (by omega);rw[Q4 _ (show i<l.length by omega)];obtain⟨j1,j2⟩:=Ad5 (a:=l[i]) k1 k2 (by omega) (by rw[(H5 (l.take i) (Ch me names 4096 rs)).rules,r0];exact hS.lt) (hw i (by omega));exact⟨j1.le (by omega),j2⟩
 obtain⟨k1,k2⟩:=O1 l.length (Nat.le_refl _);rw[List.take_length]at k1 k2;obtain⟨j1,j2,j3⟩:=W4 400 k1 (by rw[sm.rules,r0];exact hS.lt) hd;obtain⟨d1,d2⟩:=Va 400 (C2 l (Ch me names 4096 rs));refine⟨W2.inv,Af9 j3 W2.full,W2.full,j1.le (by omega),?_,?_,?_,d2,hm,?_,hd⟩
 ·exact d1.me.trans (sm.me.trans k0.me)
 ·exact d1.names.trans (sm.names.trans k0.names)
 ·exact d1.rules.trans (sm.rules.trans r0)
 ·show(C1 400 _).given.length≤100
  rw[d2];omega
theorem Ahb(me:ByteArray)(names:List ByteArray)(lim:Int)(rs:List Rl):(Ch me names lim rs).given=[]∧(Ch me names lim rs).me=me:=by
 have k:SK (Lj me names lim rs) (Ch me names lim rs):=Ep me rs _ _;exact⟨k.given,k.me⟩
def Dq(l:List Fa):List Ac:=l.map fun f=>⟨0,f⟩
theorem Pl(l:List Fa):(Dq l).length=l.length:=by simp[Dq]
theorem Ak0{l:List Fa}{a:Ac}:a∈Dq l↔∃f∈l,a=⟨0,f⟩:=by
 unfold Dq;rw[List.mem_map];exact⟨fun⟨f,h,e⟩=>⟨f,h,e.symm⟩,fun⟨f,h,e⟩=>⟨f,h,e.symm⟩⟩
def Bp(c:Int)(s:ES):ES:={s with lim:=c}
theorem Ao6(c:Int)(s:ES)(i:Nat)(b:List Fa):Dt (Bp c s) i b=Bp c (Dt s i b):=by
 unfold Dt Bp;simp only;split
 ·rfl
 ·repeat' split
  all_goals rfl
theorem Acs(c:Int){i:Nat}:∀(l:List (List Fa)) (s:ES),bdS i l (Bp c s)=Bp c (bdS i l s)
 | [],_=>rfl
 |b::l,s=>by
  show bdS i l (Dt (Bp c s) i b)=_;rw[Ao6,Acs c l];rfl
theorem Aki(c:Int){me:ByteArray}{f:Fa}{T:List Fa}{i:Nat}{r:Rl}(s:ES):∀k,ltS me f T i r k (Bp c s)=Bp c (ltS me f T i r k s)
 |0=>rfl
 |k+1=>by rw[Il,Il,Aki c s k,Acs]
theorem Akj(c:Int){me:ByteArray}{f:Fa}{T:List Fa}{rules:List Rl}(s:ES):∀k,rlS me f T rules k (Bp c s)=Bp c (rlS me f T rules k s)
 |0=>rfl
 |k+1=>by rw[Iv,Iv,Akj c s k,Aki]
theorem Ae8(c:Int){me:ByteArray}{rules:List Rl}(s:ES):∀k,Rc me rules k (Bp c s)=Bp c (Rc me rules k s)
 |0=>rfl
 |k+1=>by
  rw[Hb,Hb,Ae8 c s k];split
  ·rw[Acs]
  ·rfl
theorem Ao8(c d:Int)(me:ByteArray)(names:List ByteArray)(rs:List Rl):Ch me names c rs=Bp c (Ch me names d rs):=by
 unfold Ch;rw[←Ae8];rfl
theorem Ao7(c:Int)(s:ES)(f:Fa):(Dp (Bp c s) f).2=Bp c (Dp s f).2:=by
 unfold Dp Bp;simp only
 repeat' split
 all_goals rfl
structure Less(c:Int)(s t:ES):Prop where
 full:t.full=true
 len:(t.T.length:Int)=c
 rise:B5 Ai t.T
 lm:∀f∈t.T,LM s.me s.names s.rules s.given f∧f.at'=s.me
 more:∃f,f∉t.T∧LM s.me s.names s.rules s.given f∧f.at'=s.me
theorem Afv{T:List Fa}{c lim:Int}{f:Fa}(h:(T.length:Int)<c)(hc:c≤lim):Bs T c f=Bs T lim f:=by
 unfold Bs;split
 ·split
  ·rfl
  ·rw[if_neg (by omega),if_neg (by omega)]
 ·rfl
theorem Aiw:∀(k:Nat) {s:ES},s.full=true→Kv k s∧C1 k s=s
 |0,s,h=>⟨⟨fun h'=>by(rw[h]at h';cases h'),by unfold A5;rw[if_pos h]⟩,rfl⟩
 |k+1,s,h=>by
  have e:(A5 s).1=false:=by unfold A5;rw[if_pos h]
  refine⟨⟨fun h'=>by(rw[h]at h';cases h'),fun h'=>by(rw[e]at h';cases h')⟩,?_⟩;show(if(A5 s).1=true then _ else s)=s;rw[if_neg (by rw[e];decide)]
theorem Ao5{c:Int}:∀(k:Nat) {n:Nat} {s:ES},Way n s→(n:Int)+k≤s.lim→(s.T.length:Int)≤c→c≤s.lim→B5 Ai s.T→Kv k s→Kv k (Bp c s)∧(C1 k (Bp c s)=Bp c (C1 k s)∧((C1 k s).T.length:Int)≤c∨Less c s (C1 k (Bp c s))):=by
 intro k
 induction k with
 |zero=>
  intro n s W hl h1 h2 hT hd;have hq:=Af9 hd.2 W.full;have e:A5 (Bp c s)=(false,Bp c s):=by
   unfold A5;rw[if_neg (by show¬s.full=true;rw[W.full];decide)];show(match s.queue with| []=>_|f::q=>_)=_;rw[hq]
  refine⟨⟨fun _ f q hq'=>?_,by rw[e]⟩,.inl ⟨rfl,h1⟩⟩;have:s.queue=f::q:=hq';rw[hq]at this;cases this
 |succ k ih=>
  intro n s W hl h1 h2 hT hd;have hfl:¬s.full=true:=by rw[W.full];decide
  cases hq:s.queue with
  |nil=>
   have e0:(A5 s).1=false:=by unfold A5;rw[if_neg hfl,hq]
   have e:(A5 (Bp c s)).1=false:=by
    unfold A5;rw[if_neg (show¬(Bp c s).full=true from hfl),show(Bp c s).queue=[]from hq]
   refine⟨⟨fun _ f q hq'=>?_,fun h=>by(rw[e]at h;cases h)⟩,.inl ?_⟩
   ·have:s.queue=f::q:=hq'
    rw[hq]at this;cases this
   ·show(if(A5 (Bp c s)).1=true then _ else Bp c s)=Bp c (if(A5 s).1=true then _ else s)∧((if(A5 s).1=true then C1 k (A5 s).2 else s).T.length:Int)≤c
    rw[if_neg (by rw[e];decide),if_neg (by rw[e0];decide)];exact⟨rfl,h1⟩
  |cons f q=>
   have e0:(A5 s).1=true:=by
    unfold A5;rw[if_neg hfl,hq];simp only
    repeat' split
    all_goals rfl
   have hd2:=hd.2 e0;have W2:=W.step (by omega);have sm:=(G9 s).1;have sg:=(G9 s).2;have tl:=Al2 s;have alike:Hv (Bp c s)→A5 (Bp c s)=(true,Bp c (A5 s).2)→((A5 s).2.T.length:Int)≤c→B5 Ai (A5 s).2.T→Kv (k+1) (Bp c s)∧(C1 (k+1) (Bp c s)=Bp c (C1 (k+1) s)∧((C1 (k+1) s).T.length:Int)≤c∨Less c s (C1 (k+1) (Bp c s))):=fun ok e hc hT'=>by
    obtain⟨i1,i2⟩:=ih W2 (by rw[sm.lim];omega) hc (by rw[sm.lim];exact h2) hT' hd2;have ea:C1 (k+1) (Bp c s)=C1 k (Bp c (A5 s).2):=by
     show(if(A5 (Bp c s)).1=true then C1 k (A5 (Bp c s)).2 else _)=_;rw[e,if_pos rfl]
    have eb:C1 (k+1) s=C1 k (A5 s).2:=by
     show(if(A5 s).1=true then C1 k (A5 s).2 else _)=_;rw[if_pos e0]
    refine⟨⟨ok,fun _=>by rw[e];exact i1⟩,?_⟩;rw[ea,eb];refine i2.imp _root_.id fun L=>⟨L.full,L.len,L.rise,?_,?_⟩
    ·have:=L.lm;rw[sm.me,sm.names,sm.rules,sg]at this;exact this
    ·have:=L.more;rw[sm.me,sm.names,sm.rules,sg]at this;exact this
   have hne:∀{A B:Prop} [Decidable A],s.full=false→True:=fun _=>trivial;by_cases hs:f∈s.T∨(f∉s.given∧(ofF s.B f).length=0)
   ·have es:A5 s=(true,{s with queue:=q}):=by
     unfold A5;rw[if_neg hfl,hq];simp only;rw[if_pos hs]
    refine alike (fun _ f' q' hq' hn=>?_) ?_ (by rw[es];exact h1) (by rw[es];exact hT)
    ·have:s.queue=f'::q':=hq'
     rw[hq]at this;obtain⟨rfl,rfl⟩:=List.cons.inj this;exact absurd hs hn
    ·rw[es]
     unfold A5;rw[if_neg (show¬(Bp c s).full=true from hfl),show(Bp c s).queue=f::q from hq];simp only;rw[if_pos (show f∈(Bp c s).T∨(f∉(Bp c s).given∧(ofF (Bp c s).B f).length=0)from hs)];rfl
   ·have hok:=(W.inv.qme f (by rw[hq];simp)).2
    have hme:=(W.inv.qme f (by rw[hq];simp)).1;have hnT:f∉s.T:=fun h=>hs (.inl h);by_cases hlt:(s.T.length:Int)<c
    ·have ep:Bs s.T c f=Bs s.T s.lim f:=Afv hlt h2
     have ep2:Bs s.T s.lim f=(A1 Ai f s.T,0):=by
      unfold Bs;rw[if_pos hok,if_neg hnT,if_neg (by omega)]
     have es:A5 s=(true,rlS s.me f (A1 Ai f s.T) s.rules s.rules.length {s with queue:=q,T:=A1 Ai f s.T}):=by
      unfold A5;rw[if_neg hfl,hq];simp only;rw[if_neg hs,ep2,if_pos rfl]
     have eT:(A5 s).2.T=A1 Ai f s.T:=by
      rw[es];exact(Iu s.me f (A1 Ai f s.T) s.rules _ s.rules.length).T
     refine alike (fun hf f' q' hq' hn hz i hi j hj=>?_) ?_ (by rw[eT];have:=I9 (c:=Ai) (b:=f) (l:=s.T);omega) (by rw[eT];exact Fu Ah hT)
     ·have hq2:s.queue=f'::q':=hq'
      have e':Bs (Bp c s).T (Bp c s).lim f'=Bs s.T s.lim f':=Afv hlt h2;rw[e']at hz⊢;exact hd.1 W.full f' q' hq2 hn hz i hi j hj
     ·rw[es,←Akj]
      unfold A5;rw[if_neg (show¬(Bp c s).full=true from hfl),show(Bp c s).queue=f::q from hq];simp only;rw[if_neg (show¬(f∈(Bp c s).T∨(f∉(Bp c s).given∧(ofF (Bp c s).B f).length=0))from hs),show Bs (Bp c s).T (Bp c s).lim f=(A1 Ai f s.T,0)from ep.trans ep2,if_pos rfl];rfl
    ·have ep:Bs s.T c f=(s.T,150):=by
      unfold Bs;rw[if_pos hok,if_neg hnT,if_pos (by omega)]
     have es:A5 (Bp c s)=(true,{Bp c s with queue:=q,full:=true}):=by
      unfold A5;rw[if_neg (show¬(Bp c s).full=true from hfl),show(Bp c s).queue=f::q from hq];simp only;rw[if_neg (show¬(f∈(Bp c s).T∨(f∉(Bp c s).given∧(ofF (Bp c s).B f).length=0))from hs),show Bs (Bp c s).T (Bp c s).lim f=(s.T,150)from ep,if_neg (show¬(150:Int)=0 by decide)];rfl
     obtain⟨d1,d2⟩:=Aiw k (s:={Bp c s with queue:=q,full:=true}) rfl;refine⟨⟨fun hf f' q' hq' hn hz=>?_,fun _=>by rw[es];exact d1⟩,.inr ?_⟩
     ·have hq2:s.queue=f'::q':=hq'
      rw[hq]at hq2;obtain⟨rfl,rfl⟩:=List.cons.inj hq2;rw[show Bs (Bp c s).T (Bp c s).lim f=(s.T,150)from ep]at hz;cases hz
     ·have ea:C1 (k+1) (Bp c s)={Bp c s with queue:=q,full:=true}:=by
       show(if(A5 (Bp c s)).1=true then C1 k (A5 (Bp c s)).2 else _)=_;rw[es,if_pos rfl,d2]
      rw[ea];refine⟨rfl,by show(s.T.length:Int)=c;omega,hT,fun y hy=>⟨W.inv.fnd y hy,W.inv.tme y hy⟩,f,hnT,?_,hme⟩;by_cases hg:f∈s.given
      ·exact .base hg
      ·obtain⟨d,hd',e⟩:∃d∈s.B,d.hd=f:=Decidable.byContradiction fun hn=>hs (.inr ⟨hg,by
        unfold ofF;rw[List.length_eq_zero_iff,List.filter_eq_nil_iff];intro d hd' h;exact hn ⟨d,hd',by simpa using h⟩⟩)
       obtain⟨h3,h4⟩:=(W.inv.B d).1 hd';rw[←e];exact .step h3 fun y hy=>W.inv.fnd y (h4 y hy)
theorem Afo(c:Int):∀(l:List Fa) (s:ES),C2 (Dq l) (Bp c s)=Bp c (C2 (Dq l) s)
 | [],_=>rfl
 |f::l,s=>by
  show C2 (Dq l) (Hh (Bp c s) ⟨0,f⟩)=Bp c (C2 (Dq l) (Hh s ⟨0,f⟩));rw[←Afo c l];unfold Hh;rw[if_pos rfl,if_pos rfl,Ao7]
theorem Aq7:∀(l:List Fa) (s:ES),(C2 (Dq l) s).T=s.T
 | [],_=>rfl
 |f::l,s=>by
  show(C2 (Dq l) (Hh s ⟨0,f⟩)).T=s.T;rw[Aq7 l];unfold Hh;rw[if_pos rfl];unfold Dp
  repeat' split
  all_goals rfl
theorem Vx:∀{a b:List Fa},a.Nodup→(∀y∈a,y∈b)→a.length≤b.length
 | [],_,_,_=>Nat.zero_le _
 |x::a,b,h,hs=>by
  have h:=List.nodup_cons.1 h;have:=Vx (a:=a) (b:=b.erase x) h.2 fun y hy=>(List.mem_erase_of_ne (show y≠x from fun e=>h.1 (by rw[←e];exact hy))).2 (hs y (by simp[hy]));have hx:=hs x (by simp);rw[List.length_erase_of_mem hx]at this;have:=List.length_pos_of_mem hx;simp only[List.length_cons];omega
theorem Aj1{me:ByteArray}{names:List ByteArray}{rs:List Rl}{l:List Fa}{c:Int}(F:Fin7 me names rs (Dq l) (M4 me names rs (Dq l)))(hl:l.length≤60)(h1:1≤c)(h2:c≤20):Kv 400 (C2 (Dq l) (Ch me names c rs))∧∃t,t=C1 400 (C2 (Dq l) (Ch me names c rs))∧(t.T.length:Int)≤c∧B5 Ai t.T∧(∀f∈t.T,f∈(M4 me names rs (Dq l)).T)∧t.full=decide (c<((M4 me names rs (Dq l)).T.length:Int))∧(t.full=true∨t.T=(M4 me names rs (Dq l)).T):=by
 have hb:¬K0 rs:=by have:=F.inv.good;rw[F.erules]at this;exact this
 obtain⟨i1,i2,i3,i4⟩:=Ae4 (me:=me) (names:=names) (lim:=4096) hb;have k0:SK (Lj me names 4096 rs) (Ch me names 4096 rs):=Ep me rs _ _;have l0:(Ch me names 4096 rs).lim=4096:=k0.lim;have W0:Way 0 (Ch me names 4096 rs):=⟨i1,i2,by rw[i4];exact Nat.le_refl _⟩;have W1:=Way.run (Dq l) W0 (by rw[l0,Pl];omega);have sm:=H5 (Dq l) (Ch me names 4096 rs);rw[Pl]at W1;have hT:(C2 (Dq l) (Ch me names 4096 rs)).T=[]:=by rw[Aq7,i4]
 obtain⟨d1,d2⟩:=Ao5 (c:=c) 400 W1 (by rw[sm.lim,l0];omega) (by rw[hT];simp;omega) (by rw[sm.lim,l0];omega) (by rw[hT];exact .nil) F.drn;have el:C2 (Dq l) (Ch me names c rs)=Bp c (C2 (Dq l) (Ch me names 4096 rs)):=by rw[Ao8 c 4096,Afo]
 rw[el];refine⟨d1,_,rfl,?_⟩;rcases d2 with⟨e,hc⟩|L
 ·rw[e]
  have hf:(Bp c (C1 400 (C2 (Dq l) (Ch me names 4096 rs)))).full=false:=F.full;exact⟨hc,F.ok.tok.rises,fun f h=>h,by rw[hf];exact(decide_eq_false (by show¬c<((C1 400 (C2 (Dq l) (Ch me names 4096 rs))).T.length:Int);omega)).symm,.inr rfl⟩
 ·have h3:=Aj8 F.inv F.q
  rw[F.eme,F.enames,F.erules,F.egiven]at h3;have m1:=sm.me.trans k0.me;have m2:=sm.names.trans k0.names;have m3:=sm.rules.trans k0.rules;have L1:=L.lm;have L2:=L.more;rw[m1,m2,m3]at L1 L2;have hs:∀f∈(C1 400 (Bp c (C2 (Dq l) (Ch me names 4096 rs)))).T,f∈(M4 me names rs (Dq l)).T:=fun f hf=>(h3.1 f).2 (L1 f hf);refine⟨by rw[L.len];exact Int.le_refl _,L.rise,hs,?_,.inl L.full⟩;rw[L.full];obtain⟨f,hf,hl2⟩:=L2;have hin:=(h3.1 f).2 hl2;have nd:=Hn Ah L.rise;have:=Vx (b:=(M4 me names rs (Dq l)).T) (List.nodup_cons.2 ⟨hf,nd⟩) fun y hy=>by
   rcases List.mem_cons.1 hy with rfl|hy
   ·exact hin
   ·exact hs y hy
  have len:=L.len;simp only[List.length_cons]at this;exact(decide_eq_true (by omega)).symm
def BdE(s:List Fa×Nat)(c:Nat):Prop:=s.1.length≤s.2+c∧s.2≤60001∧∀f∈s.1,f.Sm
theorem Apd{names:List ByteArray}{m:List Fa}{r:Rl}{s:List Fa×Nat}{h:ByteArray}{c:Nat}(hr:r.S4)(hs:BdE s c):BdE (Gw names m r s h) (c+1):=by
 unfold Gw;split
 ·have:=Acf (names:=names) (m:=m) (r:=r) r.bo ‹_› s c hs.1 hs.2.1
  exact⟨this.1,this.2,Ach hr _ _ _ hs.2.2⟩
 ·exact⟨by have:=hs.1;omega,hs.2⟩
theorem Xt{homes names:List ByteArray}{m:List Fa}{r:Rl}(hr:r.S4):∀{hs:List ByteArray} {s:List Fa×Nat} {c:Nat},BdE s c→BdE (hs.foldl (Gw names m r) s) (c+hs.length)
 | [],s,c,h=>h
 |x::hs,s,c,h=>by
  have:=Xt (homes:=homes) (names:=names) (m:=m) hr (hs:=hs) (Apd (names:=names) (m:=m) (h:=x) hr h);rw[List.foldl_cons,List.length_cons,show c+(hs.length+1)=c+1+hs.length by omega];exact this
theorem Pk{homes names:List ByteArray}{m:List Fa}:∀{rs:List Rl} {s:List Fa×Nat} {c:Nat},(∀r∈rs,r.S4)→BdE s c→BdE (rs.foldl (Lr homes names m) s) (c+rs.length*homes.length)
 | [],s,c,_,h=>by simpa using h
 |r::rs,s,c,hr,h=>by
  have:=Pk (homes:=homes) (names:=names) (m:=m) (rs:=rs) (fun q hq=>hr q (by simp[hq])) (Xt (homes:=homes) (names:=names) (m:=m) (hr r (by simp)) (hs:=homes) h);rw[List.foldl_cons,List.length_cons,Nat.succ_mul,show c+(rs.length*homes.length+homes.length)=c+homes.length+rs.length*homes.length by omega];exact this
section
variable{σ:St}{x:Nat}
theorem Aho(homes names:List ByteArray)(rs:List Rl)(m:List Fa)(d:Nat)(hrs:∀r∈rs,r.S4)(hm:m.length≤1000000)(hh:homes.length≤8)(hn:names.length≤1000000)(hrl:rs.length≤1000)(hx:σ x=some (.cells (wC homes names d)))(hd:d≤60001):
  AT Tryz.prog 95 [ptr x,.sl 11 (rlC rs),.sl 4 (faC m)] σ fun v σ'=>v= .sl 4 (faC (Ir homes names rs m d).1)∧σ'=σ.set x (.cells (wC homes names (Ir homes names rs m d).2)):=by
 refine AT.ob Tryz.func95 rfl ?_;simp only[go_sem,Aa];refine⟨fun mm fr σ'=>∃(i:Nat) (s:List Fa×Nat) (v:AV),mm=rs.length-i∧i≤rs.length∧σ'=σ.set x (.cells (wC homes names s.2))∧s=(rs.take i).foldl (Lr homes names m) ([],d)∧(v=A4∧s.1=[]∨v= .sl 4 (faC s.1))∧fr 0=ptr x∧fr 1= .sl 11 (rlC rs)∧fr 2= .sl 4 (faC m)∧fr 7=v∧fr 8=int i,⟨_,0,([],d),A4,rfl,by omega,(B8 hx).symm,rfl,.inl ⟨rfl,rfl⟩,rfl,rfl,rfl,rfl,rfl⟩,?_⟩;rintro mm fr _ ⟨i,s,v,rfl,hi,rfl,hs,hv,f0,f1,f2,f7,f8⟩;have hB:BdE s (i*8):=by
  have h0:BdE ([],d) 0:=⟨by simp,hd,fun f hf=>by cases hf⟩;have:=Pk (homes:=homes) (names:=names) (m:=m) (rs:=rs.take i) (fun r hr=>hrs r (List.mem_of_mem_take hr)) h0;rw[←hs,List.length_take,Nat.min_eq_left hi,Nat.zero_add]at this;exact⟨Nat.le_trans this.1 (by have:=Nat.mul_le_mul_left i hh;omega),this.2⟩
 simp only[go_sem,f1,f8];refine aIf_by (fun hlt=>?_) (fun hlt=>?_)
 ·have hil:i<rs.length:=by omega
  obtain⟨r,hr⟩:∃r,r=rs[i]:=⟨_,rfl⟩;have hr4:r.S4:=by rw[hr];exact hrs _ (List.getElem_mem hil)
  have er:(rlC rs).getD i []=r.cs:=by rw[hr];exact C4 hil
  have hstep:(rs.take (i+1)).foldl (Lr homes names m) ([],d)=Lr homes names m s r:=by
   rw[List.take_add_one,List.getElem?_eq_getElem hil,List.foldl_append,←hs,←hr];rfl
  simp only[go_sem,Aa];refine⟨fun mm fr σ'=>∃(j:Nat) (t:List Fa×Nat) (v:AV),mm=homes.length-j∧j≤homes.length∧σ'=σ.set x (.cells (wC homes names t.2))∧t=(homes.take j).foldl (Gw names m r) s∧(v=A4∧t.1=[]∨v= .sl 4 (faC t.1))∧fr 0=ptr x∧fr 1= .sl 11 (rlC rs)∧fr 2= .sl 4 (faC m)∧fr 7=v∧fr 8=int i∧fr 9=int j,⟨_,0,s,v,rfl,by omega,rfl,rfl,hv,f0,f1,f2,f7,f8,rfl⟩,?_⟩;clear hv f0 f1 f2 f7 f8 v fr;rintro mm fr _ ⟨j,t,v,rfl,hj,rfl,ht,hv,f0,f1,f2,f7,f8,f9⟩;have hBt:BdE t (i*8+j):=by
   have:=Xt (homes:=homes) (names:=names) (m:=m) hr4 (hs:=homes.take j) hB;rw[←ht,List.length_take,Nat.min_eq_left hj]at this;exact this
  simp only[go_sem,f0,f9,Ab];refine aIf_by (fun hlt2=>?_) (fun hlt2=>?_)
  ·have hjl:j<homes.length:=by omega
   have hst2:(homes.take (j+1)).foldl (Gw names m r) s=Gw names m r t homes[j]:=by
    rw[List.take_add_one,List.getElem?_eq_getElem hjl,List.foldl_append,←ht];rfl
   simp only[go_sem,Aa];refine Af [.rd 0 false,.rd 1 false,.rd 2 false,.rd 3 false,.rd 4 true,.rd 5 false,.rd 6 false,.rd 7 false,.rd 8 true,.rd 9 false,.rd 10 false,.rd 11 true,.ef 12 [4],.ef 13 [],.rd 14 false,.rd 15 false,.rd 16 false,.rd 17 false,.rd 18 false] ?_;simp only[go_sem,Aa,f0,f1,f8,f9,er,Ab,Kr hjl];refine⟨by omega,by omega,(Ml homes[j]).p ?_⟩;simp only[go_sem,Aa,f0,f1,f8,f9,er,Ab,Kr hjl];refine(AT.weak (H6 r.ho (nmC homes[j]) [] (by simp)) (vws_same (vws_same (vws_cons (.nil 4) By)))).p ?_;cases hu:Bd r.ho (nmC homes[j]) []with
   |none=>
    have e1:Gw names m r t homes[j]=t:=by unfold Gw;rw[hu]
    rw[e1]at hst2;simp only[go_sem,Aa,f0,f1,f2,f7,f8,f9,As j (by omega)];refine⟨homes.length-(j+1),by omega,j+1,t,v,rfl,by omega,rfl,hst2.symm,hv,?_⟩
    (and_intros<;>first|assumption|rfl|omega)
   |some env=>
    have e1:Gw names m r t homes[j]=frE names m r r.bo env t:=by unfold Gw;rw[hu]
    rw[e1]at hst2;have hel:=Gi hu;simp only[List.length_nil]at hel;have hvw:∀σ',VW σ' σ' v (.sl 4 (faC t.1)):=fun σ'=>by
     rcases hv with⟨rfl,h0⟩|rfl
     ·rw[h0];exact .nil 4
     ·exact .refl _
    simp only[go_sem,Aa,f0,f1,f2,f7,f8,er,Ab];refine⟨by omega,(AT.weak (Ag8 homes names r m (i*8+j) hr4 hm hn (by omega) r.bo.length 0 (env:=env) (out:=t.1) (d:=t.2) (by omega) (by omega) Ab hBt.1 hBt.2.1 hBt.2.2) (vws_same (vws_same (vws_same (vws_same (vws_same (vws_cons (hvw _) By))))))).p ?_⟩;rw[Ct];simp only[go_sem,Aa,f0,f1,f2,f8,f9,As j (by omega)];refine⟨homes.length-(j+1),by omega,j+1,frE names m r r.bo env t,.sl 4 (faC (frE names m r r.bo env t).1),rfl,by omega,rfl,hst2.symm,.inr rfl,?_⟩
    (and_intros<;>first|assumption|rfl|omega)
  ·rw[List.take_of_length_le (by omega)]at ht
   simp only[go_sem,Aa,f0,f1,f2,f7,f8,As i (by omega)];refine⟨rs.length-(i+1),by omega,i+1,t,v,rfl,by omega,rfl,?_,hv,?_⟩
   ·rw[hstep,ht];rfl
   ·(and_intros<;>first|assumption|rfl|omega)
 ·rw[List.take_of_length_le (by omega)]at hs
  have e:s=Ir homes names rs m d:=hs;simp only[go_sem,Aa,f7];refine Ad (r:=v) rfl (.sl 4 (faC s.1)) _ (view_of (Es fun y o hy=>.inl hy) ?_) ⟨by rw[e],by rw[e]⟩;rcases hv with⟨rfl,h0⟩|rfl
  ·rw[h0];exact .nil 4
  ·exact .refl _
end
section
variable{homes names:List ByteArray}{rs:List Rl}{m:List Fa}
theorem Afl{r:Rl}{s:List Fa×Nat}{h:ByteArray}:s.2≤(Gw names m r s h).2:=by
 unfold Gw;split
 ·exact Acg _ _ _
 ·exact Nat.le_refl _
theorem Afm{r:Rl}{s:List Fa×Nat}:s.2≤(Lr homes names m s r).2:=foldl_inv (p:=fun t:List Fa×Nat=>s.2≤t.2) (fun t x ht=>Nat.le_trans ht Afl) homes s (Nat.le_refl _)
theorem Ape{r:Rl}{s:List Fa×Nat}{h:ByteArray}(hd:(Gw names m r s h).2≤60000):(Gw names m r s h).1=Aw Ai s.1 (Pj names m r h)∧cntH m r h+s.2≤(Gw names m r s h).2+1:=by
 unfold Gw Pj cntH at*;cases hu:Bd r.ho (nmC h) []with
 |none=>exact⟨rfl,by simp⟩
 |some env=>
  rw[hu]at hd;obtain⟨h1,h2⟩:=Ajw (names:=names) (m:=m) (r:=r) r.bo env s hd;refine⟨h1,?_⟩;simp only;split at h2<;>omega
theorem Afn{r:Rl}:∀{hs:List ByteArray} {s:List Fa×Nat},(hs.foldl (Gw names m r) s).2≤60000→(hs.foldl (Gw names m r) s).1=Aw Ai s.1 (hs.flatMap fun h=>Pj names m r h)∧(hs.map fun h=>cntH m r h).sum+s.2≤(hs.foldl (Gw names m r) s).2+hs.length
 | [],s,h=>⟨rfl,by simp⟩
 |x::hs,s,h=>by
  rw[List.foldl_cons]at h⊢;have hm:(Gw names m r s x).2≤(hs.foldl (Gw names m r) (Gw names m r s x)).2:=foldl_inv (p:=fun t:List Fa×Nat=>(Gw names m r s x).2≤t.2) (fun t y ht=>Nat.le_trans ht Afl) hs _ (Nat.le_refl _);obtain⟨i1,i2⟩:=Afn (hs:=hs) h;obtain⟨j1,j2⟩:=Ape (names:=names) (m:=m) (r:=r) (s:=s) (h:=x) (by omega);rw[List.flatMap_cons,Ef,i1,j1];refine⟨rfl,?_⟩;simp only[List.map_cons,List.sum_cons,List.length_cons];omega
theorem Vy:∀{rs:List Rl} {s:List Fa×Nat},(rs.foldl (Lr homes names m) s).2≤60000→(rs.foldl (Lr homes names m) s).1=Aw Ai s.1 (Aar homes names rs m)∧cntL homes rs m+s.2≤(rs.foldl (Lr homes names m) s).2+rs.length*homes.length
 | [],s,h=>⟨rfl,by simp[cntL]⟩
 |r::rs,s,h=>by
  rw[List.foldl_cons]at h⊢;have hm:(Lr homes names m s r).2≤(rs.foldl (Lr homes names m) (Lr homes names m s r)).2:=foldl_inv (p:=fun t:List Fa×Nat=>(Lr homes names m s r).2≤t.2) (fun t y ht=>Nat.le_trans ht Afm) rs _ (Nat.le_refl _);obtain⟨i1,i2⟩:=Vy (rs:=rs) h;obtain⟨j1,j2⟩:=Afn (names:=names) (m:=m) (r:=r) (hs:=homes) (s:=s) (by have:(homes.foldl (Gw names m r) s).2=(Lr homes names m s r).2:=rfl;omega);have e:Aar homes names (r::rs) m=(homes.flatMap fun h=>Pj names m r h)++Aar homes names rs m:=rfl;rw[e,Ef,i1];refine⟨by rw[show Lr homes names m s r=homes.foldl (Gw names m r) s from rfl,j1],?_⟩;have e2:cntL homes (r::rs) m=(homes.map fun h=>cntH m r h).sum+cntL homes rs m:=by simp[cntL]
  rw[e2,List.length_cons,Nat.succ_mul];have:(homes.foldl (Gw names m r) s).2=(Lr homes names m s r).2:=rfl;omega
theorem Ala{d:Nat}(h:(Ir homes names rs m d).2≤60000):(Ir homes names rs m d).1=Ls homes names rs m∧cntL homes rs m+d≤(Ir homes names rs m d).2+rs.length*homes.length:=Vy h
theorem Aas{d:Nat}:d≤(Ir homes names rs m d).2:=foldl_inv (p:=fun t:List Fa×Nat=>d≤t.2) (fun t y ht=>Nat.le_trans ht Afm) rs ([],d) (Nat.le_refl _)
end
theorem Ahd{α:Type}{c:α→α→Int}(h:Gp c){l:List α}(hl:B5 c l):Aw c [] l=l:=D2 h (Bh h .nil) hl fun y=>by rw[Ar h];simp
theorem Aab{α:Type}{c:α→α→Int}(h:Gp c){l k:List α}(hl:B5 c l):Aw c [] (l++k)=Aw c l k:=by rw[Ef,Ahd h hl]
theorem R8{α:Type}{c:α→α→Int}:∀{l s:List α},s.length≤(Aw c s l).length
 | [],s=>Nat.le_refl _
 |x::l,s=>Nat.le_trans Acn (R8 (l:=l) (s:=A1 c x s))
def K3(homes names:List ByteArray)(rs:List Rl):Nat→List Fa→Nat→List Fa×Int×Nat
 |0,_,d=>([],0,d)
 |n+1,m,d=>if 60000<d then([],0,d)else if 400<m.length then([],150,d)else
  if(Aw Ai m (Ir homes names rs m d).1).length=m.length then(m,0,(Ir homes names rs m d).2)else K3 homes names rs n (Aw Ai m (Ir homes names rs m d).1) (Ir homes names rs m d).2
def nxP(homes names:List ByteArray)(rs:List Rl)(m:List Fa):List Fa:=Aw Ai [] (m++Ls homes names rs m)
def leaP(homes names:List ByteArray)(rs:List Rl):Nat→List Fa→List Fa×Int
 |0,_=>([],0)
 |n+1,m=>if 400<m.length then([],150)else if(nxP homes names rs m).length=m.length then(m,0)else leaP homes names rs n (nxP homes names rs m)
def OkP(homes names:List ByteArray)(rs:List Rl):Nat→List Fa→Prop
 |0,_=>True
 |n+1,m=>m.length≤400→cntL homes rs m≤900000∧((nxP homes names rs m).length≠m.length→OkP homes names rs n (nxP homes names rs m))
theorem Ae7(homes names:List ByteArray)(rs:List Rl):∀(n:Nat) (m:List Fa) (d:Nat),d≤(K3 homes names rs n m d).2.2
 |0,_,d=>Nat.le_refl _
 |n+1,m,d=>by
  unfold K3;split
  ·exact Nat.le_refl _
  ·split
   ·exact Nat.le_refl _
   ·split
    ·exact Aas
    ·exact Nat.le_trans Aas (Ae7 homes names rs n _ _)
theorem Aah(homes names:List ByteArray)(rs:List Rl)(hb:rs.length*homes.length≤100000):∀(n:Nat) (m:List Fa) (d:Nat),B5 Ai m→(K3 homes names rs n m d).2.2≤60000→leaP homes names rs n m=((K3 homes names rs n m d).1,(K3 homes names rs n m d).2.1)∧OkP homes names rs n m
 |0,_,d,_,_=>⟨rfl,trivial⟩
 |n+1,m,d,hm,h=>by
  unfold K3 at h⊢;unfold leaP OkP;by_cases h1:60000<d
  ·rw[if_pos h1]at h
   have h':d≤60000:=h;omega
  ·rw[if_neg h1]at h⊢
   by_cases h2:400<m.length
   ·rw[if_pos h2,if_pos h2]
    exact⟨rfl,fun h3=>by omega⟩
   ·rw[if_neg h2]at h⊢
    rw[if_neg h2];have ho:(Ir homes names rs m d).2≤60000:=by
     split at h
     ·exact h
     ·exact Nat.le_trans (Ae7 homes names rs n _ _) h
    obtain⟨k1,k2⟩:=Ala ho;have e:nxP homes names rs m=Aw Ai m (Ir homes names rs m d).1:=by unfold nxP;rw[Aab Ah hm,k1]
    rw[e];by_cases h3:(Aw Ai m (Ir homes names rs m d).1).length=m.length
    ·rw[if_pos h3]at h⊢
     rw[if_pos h3];exact⟨rfl,fun _=>⟨by omega,fun hn=>absurd h3 hn⟩⟩
    ·rw[if_neg h3]at h⊢
     rw[if_neg h3];obtain⟨i1,i2⟩:=Aah homes names rs hb n _ _ (Bh Ah hm) h;exact⟨i1,fun _=>⟨by omega,fun _=>i2⟩⟩
section
variable{σ:St}{x:Nat}
theorem Acr(homes names:List ByteArray)(rs:List Rl)(base:List Fa)(hrs:∀r∈rs,r.S4)(hh:homes.length≤8)(hn:names.length≤1000000)(hrl:rs.length≤1000)(hbl:base.length≤1000000)(hbs:∀f∈base,f.Sm)(hx:σ x=some (.cells (wC homes names 0))):
  AT Tryz.prog 47 [ptr x,.sl 11 (rlC rs),.sl 4 (faC base)] σ fun v σ'=>v= .tup [.sl 4 (faC (K3 homes names rs 402 (Aw Ai [] base) 0).1),int (K3 homes names rs 402 (Aw Ai [] base) 0).2.1]∧σ'=σ.set x (.cells (wC homes names (K3 homes names rs 402 (Aw Ai [] base) 0).2.2)):=by
 refine AT.ob Tryz.func47 rfl ?_;simp only[go_sem,Aa];refine(T9 base (by omega) hbs).p ?_;obtain⟨R,hR⟩:∃R,R=K3 homes names rs 402 (Aw Ai [] base) 0:=⟨_,rfl⟩;rw[←hR];have hs0:∀f∈Aw Ai [] base,f.Sm:=fun f hf=>by
  rcases(Ar Ah).1 hf with h|h
  ·exact hbs f h
  ·cases h
 have hl0:=Bn (c:=Ai) (s:=[]) (l:=base);simp only[List.length_nil]at hl0;simp only[go_sem,Aa];refine⟨fun mm fr σ'=>∃(n:Nat) (m:List Fa) (d:Nat),mm=n∧402≤m.length+n∧1≤n∧m.length≤1100000∧(∀f∈m,f.Sm)∧d≤60001∧K3 homes names rs n m d=R∧σ'=σ.set x (.cells (wC homes names d))∧fr 0=ptr x∧fr 1= .sl 11 (rlC rs)∧fr 8= .sl 4 (faC m),⟨_,402,Aw Ai [] base,0,rfl,by omega,by omega,by omega,hs0,by omega,hR.symm,(B8 hx).symm,rfl,rfl,rfl⟩,?_⟩;rintro mm fr _ ⟨n,m,d,rfl,hm1,hm2,hm3,hms,hd,hI,rfl,f0,f1,f8⟩;obtain⟨n,rfl⟩:∃k,mm=k+1:=⟨mm-1,by omega⟩;unfold K3 at hI;by_cases h1:60000<d
 ·rw[if_pos h1]at hI
  have d1:=decide_eq_true h1;simp only[go_sem,Aa,f0,Ab,d1];exact Ad (r:=.tup [A4,int 0]) rfl _ (σ.set x (.cells (wC homes names d))) (Gh (fun _ _ h=>h) _) ⟨by rw[←hI];rfl,by rw[←hI]⟩
 ·rw[if_neg h1]at hI
  have d1:=decide_eq_false h1;by_cases h2:400<m.length
  ·rw[if_pos h2]at hI
   have d2:=decide_eq_true (show(400:Int)<m.length by omega);simp only[go_sem,Aa,f0,f8,Ab,d1,d2];exact Ad (r:=.tup [A4,int 150]) rfl _ (σ.set x (.cells (wC homes names d))) (Gh (fun _ _ h=>h) _) ⟨by rw[←hI];rfl,by rw[←hI]⟩
  ·rw[if_neg h2]at hI
   have d2:=decide_eq_false (show¬(400:Int)<m.length by omega);simp only[go_sem,Aa,f0,f8,Ab,d1,d2];refine Ap (ys:=faC m) (by simp[src]) (by decide) (by decide) (by decide) (LAt.full.app (by rw[Aj];simp only[List.length_nil];omega) fun l1 σ2 g1 g2=>?_);rw[List.nil_append]at g1;have G:Cg (σ.set x (.cells (wC homes names d))) σ2 l1:=fun y o hy=>g2 y o hy A3;have hx2:σ2 x=some (.cells (wC homes names d)):=(G x _ Ab).1;have hnx:¬Own l1 x:=g1.not_own hx2;simp only[go_sem,Aa,f0,f1,f8];refine(Aho homes names rs m d hrs (by omega) hh hn hrl hx2 hd).p ?_;have hq0:=Pk (homes:=homes) (names:=names) (m:=m) (s:=([],d)) (c:=0) hrs ⟨by simp,hd,fun f hf=>by cases hf⟩;obtain⟨q,hq⟩:∃q,q=Ir homes names rs m d:=⟨_,rfl⟩;rw[show rs.foldl (Lr homes names m) ([],d)=q from hq.symm]at hq0;rw[←hq]at hI⊢;obtain⟨hq1,hq2,hqs⟩:=hq0;have hmul:rs.length*homes.length≤8000:=Nat.le_trans (Nat.mul_le_mul hrl hh) (by decide);have g3:LAt 4 (σ2.set x (.cells (wC homes names q.2))) l1 (faC m):=g1.keep fun y o hy ho=>by
    have hne:y≠x:=fun e=>hnx (e▸ho);rw[Ag hne];exact hy
   have hgr:∀y o,(σ.set x (.cells (wC homes names q.2))) y=some o→(σ2.set x (.cells (wC homes names q.2))) y=some o∧¬Own l1 y:=fun y o hy=>by
    by_cases e:y=x
    ·subst e;rw[Ab]at hy⊢;exact⟨hy,hnx⟩
    ·rw[Ag e]at hy⊢
     exact G y o (by rw[Ag e];exact hy)
   have hSV:SV (σ2.set x (.cells (wC homes names q.2))) (σ.set x (.cells (wC homes names q.2))):=Es fun y o hy=>.inl (hgr y o hy).1;have hVW:VW (σ2.set x (.cells (wC homes names q.2))) (σ.set x (.cells (wC homes names q.2))) l1 (.sl 4 (faC m)):=g3.vw_same fun y ho=>by
    cases hy:(σ.set x (.cells (wC homes names q.2))) y with
    |none=>rfl
    |some o=>exact absurd ho (hgr y o hy).2
   obtain⟨σ3,e3⟩:∃s,s=σ2.set x (.cells (wC homes names q.2)):=⟨_,rfl⟩;obtain⟨σ4,e4⟩:∃s,s=σ.set x (.cells (wC homes names q.2)):=⟨_,rfl⟩;rw[←e3,←e4]at hVW hSV;rw[←e3]at g3⊢;have hx4:σ4 x=some (.cells (wC homes names q.2)):=by rw[e4];exact Ab
   simp only[go_sem,Aa];refine⟨fun mm fr σ'=>∃(i:Nat) (v:AV),mm=q.1.length-i∧i≤q.1.length∧(i=0∧v=l1∧σ'=σ3∨v= .sl 4 (faC (Aw Ai m (q.1.take i)))∧σ'=σ4)∧fr 0=ptr x∧fr 1= .sl 11 (rlC rs)∧fr 8= .sl 4 (faC m)∧fr 9=v∧fr 10= .sl 4 (faC q.1)∧fr 11=int i,⟨_,0,l1,rfl,by omega,.inl ⟨rfl,rfl,rfl⟩,f0,f1,f8,rfl,rfl,rfl⟩,?_⟩;clear f0 f1 f8;rintro mm fr σ' ⟨i,v,rfl,hi,hv,f0,f1,f8,f9,f10,f11⟩;simp only[go_sem,f10,f11];refine aIf_by (fun hlt=>?_) (fun hlt=>?_)
   ·have hil:i<q.1.length:=by omega
    have hlen:=Bn (c:=Ai) (s:=m) (l:=q.1.take i);have hsm:∀x∈Aw Ai m (q.1.take i),x.Sm:=fun x hx=>by
     rcases(Ar Ah).1 hx with h|h
     ·exact hqs x (List.mem_of_mem_take h)
     ·exact hms x h
    rw[List.length_take]at hlen;have hnext:A1 Ai q.1[i] (Aw Ai m (q.1.take i))=Aw Ai m (q.1.take (i+1)):=by
     rw[List.take_add_one,List.getElem?_eq_getElem hil,Ef];rfl
    have hw:=H1 (σ:=σ4) (Aw Ai m (q.1.take i)) q.1[i] (by omega) hsm (hqs _ (List.getElem_mem hil));rw[hnext]at hw;simp only[go_sem,Aa,f9,f10,f11,Aq hil];refine⟨by omega,?_⟩;have hc:AT Tryz.prog 28 [v,.agg q.1[i].cs] σ' fun v σ'=>v= .sl 4 (faC (Aw Ai m (q.1.take (i+1))))∧σ'=σ4:=by
     rcases hv with⟨rfl,rfl,rfl⟩|⟨rfl,rfl⟩
     ·exact AT.pre hw (by kernel_rfl) hSV (vws_cons hVW (vws_cons (.refl _) By))
     ·exact hw
    refine hc.p ?_;simp only[go_sem,Aa,f0,f1,f8,f10,f11,As i (by omega)];refine⟨q.1.length-(i+1),by omega,i+1,.sl 4 (faC (Aw Ai m (q.1.take (i+1)))),rfl,by omega,Or.inr rfl,?_⟩
    (and_intros<;>first|assumption|rfl|omega)
   ·have hiq:i=q.1.length:=by omega
    rcases hv with⟨rfl,rfl,rfl⟩|⟨rfl,rfl⟩
    ·have hq0:q.1=[]:=List.eq_nil_of_length_eq_zero hiq.symm
     rw[hq0]at hI;rw[if_pos (show(Aw Ai m []).length=m.length from rfl)]at hI;simp only[go_sem,f8,f9,g3.len];exact Ad (r:=.tup [.sl 4 (faC m),int 0]) rfl _ (σ.set x (.cells (wC homes names q.2))) (An fun y o hy=>by rw[e3];exact(hgr y o hy).1) ⟨by rw[←hI],by rw[←hI]⟩
    ·rw[hiq,List.take_length]at f9
     by_cases hl2:(Aw Ai m q.1).length=m.length
     ·rw[if_pos hl2]at hI
      have dd:=decide_eq_true (show((Aw Ai m q.1).length:Int)=m.length by omega);simp only[go_sem,f8,f9];simp only[go_sem,f8,dd];exact Ae (r:=.tup [.sl 4 (faC m),int 0]) rfl ⟨by rw[←hI],by rw[e4,←hI]⟩
     ·rw[if_neg hl2]at hI
      have dd:=decide_eq_false (show¬((Aw Ai m q.1).length:Int)=m.length by omega);have hge:=R8 (c:=Ai) (s:=m) (l:=q.1);have hle:=Bn (c:=Ai) (s:=m) (l:=q.1);have hsm:∀x∈Aw Ai m q.1,x.Sm:=fun x hx=>by
       rcases(Ar Ah).1 hx with h|h
       ·exact hqs x h
       ·exact hms x h
      simp only[go_sem,Aa,f0,f1,f8,f9,dd];refine⟨n,by omega,n,Aw Ai m q.1,q.2,rfl,by omega,by omega,by omega,hsm,hq2,hI,e4,?_⟩
      (and_intros<;>first|assumption|rfl|omega)
end
theorem Ae6{homes names:List ByteArray}{rs:List Rl}(hrs:∀r∈rs,r.S4):∀(n:Nat) {m:List Fa} {d:Nat},(∀f∈m,f.Sm)→(K3 homes names rs n m d).1.length≤400∧∀f∈(K3 homes names rs n m d).1,f.Sm
 |0,m,d,h=>⟨by simp[K3],fun f hf=>by cases hf⟩
 |n+1,m,d,h=>by
  unfold K3;split
  ·exact⟨by simp,fun f hf=>by cases hf⟩
  ·split
   ·exact⟨by simp,fun f hf=>by cases hf⟩
   ·split
    ·exact⟨by simp only;omega,h⟩
    ·refine Ae6 hrs n fun f hf=>?_
     rcases(Ar Ah).1 hf with h1|h1
     ·exact(Pk (homes:=homes) (names:=names) (m:=m) (s:=([],d)) (c:=0) hrs ⟨by simp,by simp only;omega,fun f hf=>by cases hf⟩).2.2 f h1
     ·exact h f h1
end Go.Proofs.YtmifmncabejffaaGreat
