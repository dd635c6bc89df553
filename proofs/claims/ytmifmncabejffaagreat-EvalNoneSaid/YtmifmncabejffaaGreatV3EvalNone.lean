/-
  The program logic: definitions and lemmas over any program.
  Conditions: none.
-/
import Derived.Test.YtmifmncabejffaaGreatV1EvalNone
import Derived.Test.YtmifmncabejffaaGreatV2EvalNone
set_option linter.unusedVariables false
set_option linter.unusedSimpArgs false
set_option linter.unusedSectionVars false
set_option maxRecDepth 100000
namespace Go.Av
open Go Go.RowKit
abbrev ER:=Option (AEx×Tr RS×Sto)
def Rf(b:Tr RS→Sto→ER):Nat→Tr RS→Sto→ER
 |0,_,_=>none
 |m+1,fr,h=>match b fr h with
  |some (.normal,fr',h')=>Rf b m fr' h'
  |r=>r
def Aex(id:Nat):Pls→Option (List PS)
 | []=>none
 |(i,p)::l=>match Nat.beq i id with
  |true=>some p
  |false=>Aex id l
def Ec(P:Program)(pls:Pls):Code→Bool
 | .region id ops true=>match Aex id pls with
  |some pl=>pl.length==ops.toList.length&&C0 P ops.toList.toArray pl (Array.replicate ops.toList.length false) []
  |none=>false
 | .seq x y=>Ec P pls x&&Ec P pls y
 | .cond _ x y=>Ec P pls x&&Ec P pls y
 | .block _ x=>Ec P pls x
 | .loop x=>Ec P pls x
 | .scope x=>Ec P pls x
 | .rangeFunc _ _ x y=>Ec P pls x&&Ec P pls y
 |_=>true
def Xg(E:En)(pls:Pls)(g:RS)(ps:List Nat)(assign body:Code)(fr:Tr RS)(h:Sto):ER:=match g with
 | .fn f fi ca=>gd (fi.all RS.isV&&ca.all RS.isV) (match h.new (.loop fr ps assign body .ready none pls)with
  |some (l,h1)=>match E.cl f (fi++[.yld l]++ca) h1 with
   |some (_,h2)=>match h2.get l with
    | .loop _ _ _ _ st pend _=>match st with
     | .busy=>none
     |_=>match pend with
      |none=>some (.normal,fr,h2.put l .gone)
      |some .ret=>some (.ret,fr,h2.put l .gone)
      |some (.exit id)=>some (.exit id,fr,h2.put l .gone)
      |_=>none
    |_=>none
   |none=>none
  |none=>none)
 |_=>none
def Cr(E:En)(lf:Nat)(pls:Pls):Code→Tr RS→Sto→ER
 | .skip,fr,h=>some (.normal,fr,h)
 | .region id ops false,fr,h=>match eOps E (Gf ops) ops.toList fr h with
  |some (fr',h')=>some (.normal,fr',h')
  |none=>none
 | .region id ops true,fr,h=>match Aex id pls with
  |some pl=>match Lu E (ops.toList.map (·.dst)) ops.toList pl [] fr h with
   |some (fr',h')=>some (.normal,fr',h')
   |none=>none
  |none=>none
 | .seq x y,fr,h=>match Cr E lf pls x fr h with
  |some (.normal,fr',h')=>Cr E lf pls y fr' h'
  |r=>r
 | .cond q x y,fr,h=>match eEv fr q with
  |some (.v (.bool true))=>Cr E lf pls x fr h
  |some (.v (.bool false))=>Cr E lf pls y fr h
  |_=>none
 | .block id x,fr,h=>match Cr E lf pls x fr h with
  |some (.exit j,fr',h')=>match Nat.beq j id with
   |true=>some (.normal,fr',h')
   |false=>some (.exit j,fr',h')
  |r=>r
 | .loop x,fr,h=>Rf (Cr E lf pls x) lf fr h
 | .exit id,fr,h=>some (.exit id,fr,h)
 | .scope x,fr,h=>match Cr E lf pls x fr h with
  |some (.goto _,_,_)=>none
  |r=>r
 | .ret,fr,h=>some (.ret,fr,h)
 | .label _,fr,h=>some (.normal,fr,h)
 | .rangeFunc g ps assign body,fr,h=>match eEv fr g with
  |some g=>Xg E pls g ps.toList assign body fr h
  |none=>none
 |_,_,_=>none
section
variable{P:Program}{σ0 σ:St}{c c':Cx}{h h':Sto}{n:Nat}{fr fr':Tr RS}{v:RS}
theorem Vg{x:Code}{b:Tr RS→Sto→ER}
  (hb:∀(e:AEx) (fr:Tr RS) (h:Sto) (fr':Tr RS) (h':Sto) (c:Cx) (σ:St) (K:AK),b fr h=some (e,fr',h')→Mt σ0 c h σ→wfr h.n fr→Kf σ0 c h fr' h' (K e)→Aw P x K (ifr c fr) σ) {K:AK} {e:AEx} (hn:e≠.normal):
  ∀{m:Nat} {fr:Tr RS} {h:Sto} {c:Cx} {σ:St},Rf b m fr h=some (e,fr',h')→Mt σ0 c h σ→wfr h.n fr→Kf σ0 c h fr' h' (K e)→Km P x K m (ifr c fr) σ
 |0,fr,h,c,σ,he,_,_,_=>by cases he
 |m+1,fr,h,c,σ,he,hM,hf,hk=>by
  simp only[Rf]at he;show Aw P x (AK.then (Km P x K m) K) (ifr c fr) σ;split at he
  ·rename_i fr1 h1 hb1
   refine hb _ _ _ _ _ c σ _ hb1 hM hf fun c1 σ1 ha hM1 hn1 hkp hf1=>?_;exact Vg hb hn he hM1 hf1 (hk.then ha hn1 hkp)
  ·rename_i hne
   rw[he]at hne;refine hb _ _ _ _ _ c σ _ he hM hf fun c1 σ1 ha hM1 hn1 hkp hf1=>?_;have:=hk c1 σ1 ha hM1 hn1 hkp hf1;cases e with
   |normal=>exact absurd rfl hn
   |_=>exact this
theorem Rh{b:Tr RS→Sto→ER}{e:AEx}:∀{m:Nat} {fr:Tr RS} {h:Sto},Rf b m fr h=some (e,fr',h')→e≠.normal
 |0,fr,h,he=>by cases he
 |m+1,fr,h,he=>by
  simp only[Rf]at he;split at he
  ·exact Rh he
  ·rename_i hne
   intro h2;subst h2;exact hne _ _ he
theorem Abh{E:En}(hE:Mo P E){pls:Pls}{g:RS}{ps:List Nat}{assign body:Code}{K:AK}{e:AEx}(hM:Mt σ0 c h σ)(hf:wfr h.n fr)(hg:g.wf h.n)(he:Xg E pls g ps assign body fr h=some (e,fr',h'))(hk:Kf σ0 c h fr' h' (K e)):
  Ip P (g.iv c) ps assign body K (ifr c fr) σ:=by
 unfold Xg at he;split at he
 ·rename_i f fi ca
  rw[Ah,Bool.and_eq_true]at he;obtain⟨hv,he⟩:=he;split at he
  ·rename_i l h1 hnew
   split at he
   ·rename_i r h2 hcl
    have hl:=Rx hnew;subst hl;simp only[RS.iv,RS.vv,Ip];intro nn b hb hbx;have hag:=Gm c h.n b nn;have hfr:=Dc hag hf;obtain⟨_,hn1,hM1⟩:=hM.new (k:=nn) (x:=.loop (ifr c fr) nn ps assign body .ready none) hb hnew (by simp only[io];rw[hfr];simp only[Cx.more,if_true]) hf (Nat.zero_le _);simp only[RS.wf]at hg;have e1:∀l:List RS,l.all RS.isV=true→RS.wfs h.n l→(RS.vvs c l).map AV.v=RS.ivs (c.more h.n b nn) l:=fun l hl hw=>by
     rw[D2 hag l hw,Ue,Ce,List.map_map];exact List.map_congr_left fun x hx=>(Gj (List.all_eq_true.1 hl x hx)).symm
    have hargs:(RS.vvs c fi).map AV.v++[AV.v (.func (.yield b) #[] #[])]++(RS.vvs c ca).map AV.v=RS.ivs (c.more h.n b nn) (fi++[.yld h.n]++ca):=by
     rw[e1 fi hv.1 hg.1,e1 ca hv.2 hg.2,L1,L1];simp only[RS.ivs,RS.iv,RS.vv,Cx.more,if_true]
    have hwa:RS.wfs h1.n (fi++[.yld h.n]++ca):=by
     rw[hn1];refine J5 (J5 (Dq (by omega) _ hg.1) ?_) (Dq (by omega) _ hg.2);simp only[RS.wfs,RS.wf,and_true];omega
    have hlg:h1.get h.n= .loop fr ps assign body .ready none pls:=by
     unfold Sto.new at hnew;rw[Ah,A1]at hnew;obtain⟨hlt,hnew⟩:=hnew;injection hnew with hnew;injection hnew with _ h3;subst h3;have:=Sto.get_put (h:=h) (o:=.loop fr ps assign body .ready none pls) hlt hlt;rw[if_pos rfl]at this;exact this
    have hkn:=Ih.new hnew;rw[hargs];refine hE.cl _ _ _ _ _ hcl σ0 _ _ _ hM1 hwa fun c2 σ2 ha2 hM2 hn2 hkp2 hr=>?_;have hrb:c2.r h.n=b:=by rw[ha2.r h.n (by omega)];simp[Cx.more]
    have hknn:c2.k h.n=nn:=by rw[ha2.k h.n (by omega)];simp[Cx.more]
    have hag2:Dw h.n c c2:=hag.trans ha2 (by omega);split at he
    ·rename_i fr3 ps3 a3 b3 st pend pls3 hget
     rcases hkp2.lp h.n fr ps assign body .ready none pls (by omega) hlg with hgone|⟨st',pend',hget'⟩
     ·rw[hgone]at hget;cases hget
     rw[hget']at hget;injection hget with q1 q2 q3 q4 q5 q6 q7;subst q1;subst q2;subst q3;subst q4;subst q5;subst q6;subst q7;have hfr2:=Dc hag2 hf;have hob:=hM2.ob h.n (.loop (ifr c fr) nn ps assign body st' pend') (by omega) (by rw[hget'];simp only[io,hfr2,hknn]);rw[hrb]at hob;have hne:h2.get h.n≠.gone:=by rw[hget'];intro e;cases e
     have hM3:=hM2.del (i:=h.n) (by omega) hne;rw[hrb]at hM3;have hkd:Ih h2 (h2.put h.n .gone):=.put hM2.wf.lt (by omega) (fun _ _ _ _ _ _ _ _=>.inl rfl) (fun _=>rfl);have hfin:∀e,(h'=h2.put h.n .gone∧fr'=fr)→Kf σ0 c h fr' h' (K e)→K e (ifr c fr) (σ2.del b):=fun e ⟨e1,e2⟩ hk=>by
      subst e1;subst e2;have:=hk c2 _ hag2 hM3 (by show h.n≤h2.n;omega) ((hkn.trans hkp2 (by omega)).trans hkd (by omega)) (Ee (by show h.n≤h2.n;omega) hf);rw[hfr2]at this;exact this
     simp only[Ij,hob];split at he
     ·cases he
     ·rename_i hst
      refine⟨hst,?_⟩;unfold Nn;split at he
      ·injection he with he
       injection he with h3 h4;injection h4 with h4 h5;subst h3;exact hfin _ ⟨h5.symm,h4.symm⟩ hk
      ·injection he with he
       injection he with h3 h4;injection h4 with h4 h5;subst h3;exact hfin _ ⟨h5.symm,h4.symm⟩ hk
      ·injection he with he
       injection he with h3 h4;injection h4 with h4 h5;subst h3;exact hfin _ ⟨h5.symm,h4.symm⟩ hk
      ·cases he
    ·cases he
   ·cases he
  ·cases he
 ·cases he
theorem B9{E:En}(hE:Mo P E)(hm:P.follows .mixedOrders=true){lf:Nat}{pls:Pls}:∀(x:Code) {K:AK} {e:AEx} {fr fr':Tr RS} {h h':Sto} {c:Cx} {σ:St},Ec P pls x=true→Cr E lf pls x fr h=some (e,fr',h')→Mt σ0 c h σ→wfr h.n fr→Kf σ0 c h fr' h' (K e)→Aw P x K (ifr c fr) σ
 | .skip,K,e,fr,fr',h,h',c,σ,hp,he,hM,hf,hk=>by
  simp only[Cr,Option.some.injEq,Prod.mk.injEq]at he;obtain⟨rfl,rfl,rfl⟩:=he;exact hk c σ (.refl _ _) hM (Nat.le_refl _) (.refl h) hf
 | .region id ops false,K,e,fr,fr',h,h',c,σ,hp,he,hM,hf,hk=>by
  simp only[Cr]at he;split at he
  ·rename_i fr1 h1 ho
   injection he with he;injection he with h3 h4;injection h4 with h4 h5;subst h3;subst h4;subst h5;simp only[Aw];exact S8 hE ho hM hf hk
  ·cases he
 | .region id ops true,K,e,fr,fr',h,h',c,σ,hp,he,hM,hf,hk=>by
  simp only[Cr]at he;simp only[Ec]at hp;split at he
  ·rename_i pl hpl
   rw[hpl]at hp;simp only[Bool.and_eq_true]at hp;split at he
   ·rename_i fr1 h1 ho
    injection he with he;injection he with h3 h4;injection h4 with h4 h5;subst h3;subst h4;subst h5;simp only[Aw];have e1:ops=ops.toList.toArray:=by simp
    rw[e1];exact Kl pl hm hp.1 hp.2 (Hh hE (S:=[]) hp.2 ho (fun s hs=>by cases hs) hM hf hk)
   ·cases he
  ·cases he
 | .seq x y,K,e,fr,fr',h,h',c,σ,hp,he,hM,hf,hk=>by
  simp only[Ec,Bool.and_eq_true]at hp;simp only[Cr]at he;simp only[Aw];split at he
  ·rename_i fr1 h1 h2
   refine B9 hE hm x hp.1 h2 hM hf fun c1 σ1 ha hM1 hn1 hkp hf1=>?_;exact B9 hE hm y hp.2 he hM1 hf1 (hk.then ha hn1 hkp)
  ·rename_i hne
   refine B9 hE hm x hp.1 he hM hf fun c1 σ1 ha hM1 hn1 hkp hf1=>?_;have:=hk c1 σ1 ha hM1 hn1 hkp hf1;cases e with
   |normal=>exact absurd he (hne _ _)
   |_=>exact this
 | .cond q x y,K,e,fr,fr',h,h',c,σ,hp,he,hM,hf,hk=>by
  simp only[Ec,Bool.and_eq_true]at hp;simp only[Cr]at he;simp only[Aw];split at he
  ·rename_i hq
   have:=A5 (c:=c) hq;simp only[RS.iv,RS.vv]at this;rw[this];exact B9 hE hm x hp.1 he hM hf hk
  ·rename_i hq
   have:=A5 (c:=c) hq;simp only[RS.iv,RS.vv]at this;rw[this];exact B9 hE hm y hp.2 he hM hf hk
  ·cases he
 | .block id x,K,e,fr,fr',h,h',c,σ,hp,he,hM,hf,hk=>by
  simp only[Ec]at hp;simp only[Cr]at he;simp only[Aw];split at he
  ·rename_i j fr1 h1 h2
   split at he
   ·rename_i hj
    rw[Aq]at hj;injection he with he;injection he with h3 h4;injection h4 with h4 h5;subst h3;subst h4;subst h5;refine B9 hE hm x hp h2 hM hf fun c1 σ1 ha hM1 hn1 hkp hf1=>?_;show(if j=id then _ else _);rw[if_pos hj];exact hk c1 σ1 ha hM1 hn1 hkp hf1
   ·rename_i hj
    injection he with he;injection he with h3 h4;injection h4 with h4 h5;subst h3;subst h4;subst h5;refine B9 hE hm x hp h2 hM hf fun c1 σ1 ha hM1 hn1 hkp hf1=>?_;show(if j=id then _ else _);rw[if_neg (fun e=>by rw[Aq.2 e]at hj;cases hj)];exact hk c1 σ1 ha hM1 hn1 hkp hf1
  ·rename_i hne
   refine B9 hE hm x hp he hM hf fun c1 σ1 ha hM1 hn1 hkp hf1=>?_;have:=hk c1 σ1 ha hM1 hn1 hkp hf1;cases e with
   |exit j=>exact absurd he (hne _ _ _)
   |_=>exact this
 | .loop x,K,e,fr,fr',h,h',c,σ,hp,he,hM,hf,hk=>by
  simp only[Ec]at hp;simp only[Cr]at he;simp only[Aw];refine Fu lf ?_;exact Vg (fun e fr h fr' h' c σ K h1 h2 h3 h4=>B9 hE hm x hp h1 h2 h3 h4) (Rh he) he hM hf hk
 | .exit id,K,e,fr,fr',h,h',c,σ,hp,he,hM,hf,hk=>by
  simp only[Cr,Option.some.injEq,Prod.mk.injEq]at he;obtain⟨rfl,rfl,rfl⟩:=he;exact hk c σ (.refl _ _) hM (Nat.le_refl _) (.refl h) hf
 | .scope x,K,e,fr,fr',h,h',c,σ,hp,he,hM,hf,hk=>by
  simp only[Ec]at hp;simp only[Cr]at he;simp only[Aw];split at he
  ·cases he
  ·rename_i hne
   refine B9 hE hm x hp he hM hf fun c1 σ1 ha hM1 hn1 hkp hf1=>?_;have:=hk c1 σ1 ha hM1 hn1 hkp hf1;cases e with
   |goto j=>exact absurd he (hne _ _ _)
   |_=>exact this
 | .ret,K,e,fr,fr',h,h',c,σ,hp,he,hM,hf,hk=>by
  simp only[Cr,Option.some.injEq,Prod.mk.injEq]at he;obtain⟨rfl,rfl,rfl⟩:=he;exact hk c σ (.refl _ _) hM (Nat.le_refl _) (.refl h) hf
 | .label _,K,e,fr,fr',h,h',c,σ,hp,he,hM,hf,hk=>by
  simp only[Cr,Option.some.injEq,Prod.mk.injEq]at he;obtain⟨rfl,rfl,rfl⟩:=he;exact hk c σ (.refl _ _) hM (Nat.le_refl _) (.refl h) hf
 | .rangeFunc g ps assign body,K,e,fr,fr',h,h',c,σ,hp,he,hM,hf,hk=>by
  simp only[Cr]at he;simp only[Aw];split at he
  ·rename_i g' hg
   rw[A5 hg];exact Abh hE hM hf (Bp hf hg) he hk
  ·cases he
 | .goto _,K,e,fr,fr',h,h',c,σ,hp,he,hM,hf,hk=>by simp only[Cr]at he;cases he
 | .refuse _,K,e,fr,fr',h,h',c,σ,hp,he,hM,hf,hk=>by simp only[Cr]at he;cases he
structure FE where
 fn:Func
 pls:Pls
def Aix(P:Program)(fe:FE):Bool:=match fe.fn.body with
 |some c=>Di fe.fn.ntmps c&&fe.fn.results.toList.all (fun q=>decide (Sb q<fe.fn.ntmps))&&Ec P fe.pls c
 |none=>false
structure D4(P:Program)(f:FuncId)(fe:FE):Prop where
 fn:P.funcs[f]? =some fe.fn
 nm:fe.fn.name≠ "runtime.NumGoroutine"
 ok:Aix P fe=true
def Kp:List RS→Nat→Tr RS→Tr RS
 | [],_,t=>t
 |x::l,i,t=>Kp l (i+1) (t.set 10 i x)
theorem Kq:∀{l:List RS} {i:Nat} {t:Tr RS} {j:Nat},i+l.length≤1024→j<1024→(Kp l i t).get 10 j=if i≤j∧j<i+l.length then l[j-i]? else t.get 10 j
 | [],i,t,j,hi,hj=>by simp only[Kp,List.length_nil,Nat.add_zero];rw[if_neg (by omega)]
 |x::l,i,t,j,hi,hj=>by
  simp only[List.length_cons]at hi;simp only[Kp,List.length_cons];rw[Kq (by omega) hj,Tr.get_set 10 _ _ _ _ (by simp;omega) (by simpa using hj)];by_cases h1:j=i
  ·subst h1
   rw[if_neg (by omega),if_pos rfl,if_pos (by omega)];simp
  ·by_cases h2:i+1≤j∧j<i+1+l.length
   ·rw[if_pos h2,if_pos (by omega)]
    obtain⟨k,hk⟩:∃k,j-i=k+1:=⟨j-i-1,by omega⟩;rw[hk,show j-(i+1)=k by omega];simp
   ·rw[if_neg h2,if_neg h1,if_neg (by omega)]
theorem Aas(j:Nat):(Tr.e:Tr RS).get 10 j=none:=rfl
theorem Adq{as:List RS}(h:as.length≤1024):ifr c (Kp as 0 .e)=Gy (RS.ivs c as):=by
 funext j;simp only[ifr,Gy];by_cases hj:j<1024
 ·rw[if_pos hj,Kq (by omega) hj,Aas]
  by_cases h2:j<as.length
  ·rw[if_pos (by omega),Nat.sub_zero]
   obtain⟨x,hx⟩:∃x,as[j]? =some x:=⟨as[j],by simp[h2]⟩;rw[hx,Pt hx]
  ·rw[if_neg (by omega),List.getD_eq_getElem?_getD,List.getElem?_eq_none (by rw[Ca];omega)]
   rfl
 ·rw[if_neg hj,List.getD_eq_getElem?_getD,List.getElem?_eq_none (by rw[Ca];omega)]
  rfl
theorem Vm{as:List RS}(h:as.length≤1024)(hw:RS.wfs n as):wfr n (Kp as 0 .e):=by
 intro j v hj hv;rw[Kq (by omega) hj,Aas]at hv;split at hv
 ·exact Oj hw hv
 ·cases hv
def Zp(E:En)(fr:Tr RS)(h:Sto):ResultVar→Option RS
 | .tmp t=>eEv fr (.tmp t)
 | .cell b t=>match E.te t,eEv fr (.tmp b)with
  |some te,some (.ptr i 0)=>match h.get i with
   | .cells cs=>Ix te.k.ag te.k.sz 0 cs
   |_=>none
  |_,_=>none
def Pl(E:En)(fr:Tr RS)(h:Sto):List ResultVar→Option (List RS)
 | []=>some []
 |q::l=>match Zp E fr h q with
  |some x=>match Pl E fr h l with
   |some xs=>some (x::xs)
   |none=>none
  |none=>none
def Q2:List RS→RS
 | [x]=>x
 |l=>.tup l
theorem Ah1(l:List RS):(Q2 l).iv c=oneR (RS.ivs c l):=by
 match l with
 | []=>simp only[Q2,RS.iv,RS.ivs,oneR]
 | [x]=>simp only[Q2,RS.ivs,oneR]
 |x::y::l=>simp only[Q2,RS.iv,RS.ivs,oneR]
theorem Ah2{l:List RS}(h:RS.wfs n l):(Q2 l).wf n:=by
 match l,h with
 | [],h=>simpa only[Q2,RS.wf]using h
 | [x],h=>simp only[RS.wfs]at h;exact h.1
 |x::y::l,h=>simpa only[Q2,RS.wf]using h
theorem Adk{E:En}(hE:Mo P E)(hM:Mt σ0 c h σ)(hf:wfr h.n fr){q:ResultVar}(he:Zp E fr h q=some v):Oo P (ifr c fr) σ q=some (v.iv c)∧v.wf h.n:=by
 cases q with
 |tmp t=>simp only[Zp]at he;exact⟨congrArg some (A5 he),Bp hf he⟩
 |cell b t=>
  simp only[Zp]at he;split at he
  ·rename_i te i hte hb
   split at he
   ·rename_i cs hg
    have h1:=A5 (c:=c) hb;have h2:=Bp hf hb;simp only[RS.wf]at h2;simp only[Fr.ev,RS.iv,RS.vv]at h1;have h3:=hM.ob i (.cells (RS.ivs c cs)) h2 (by rw[hg];rfl);have hw:=hM.wf.ob i h2;rw[hg]at hw;refine⟨?_,Hj hw he⟩;have:=Hi (c:=c) (K:=fun a=>a=v.iv c) he rfl;unfold Ie at this;simp only[Oo,(hE.ty _ _ hte).k,Un,h1,h3];cases hag:te.k.ag with
    |true=>
     rw[hag]at this;simp only[if_true,Nat.zero_add,List.drop_zero]at this⊢;rw[if_pos this.1,this.2]
    |false=>
     rw[hag]at this;simp only[Bool.false_eq_true,if_false]at this⊢;rw[if_pos this.1,this.2]
   ·cases he
  ·cases he
theorem Vi{E:En}(hE:Mo P E)(hM:Mt σ0 c h σ)(hf:wfr h.n fr):∀{l:List ResultVar} {vs:List RS},Pl E fr h l=some vs→No P (ifr c fr) σ l=some (RS.ivs c vs)∧RS.wfs h.n vs
 | [],vs,he=>by simp only[Pl,Option.some.injEq]at he;subst he;exact⟨rfl,by simp only[RS.wfs]⟩
 |q::l,vs,he=>by
  simp only[Pl]at he;split at he
  ·rename_i x hx
   split at he
   ·rename_i xs hxs
    injection he with he;subst he;have h1:=Adk hE hM hf hx;have h2:=Vi hE hM hf hxs;simp only[No,h1.1,h2.1,RS.ivs,RS.wfs];exact⟨trivial,h1.2,h2.2⟩
   ·cases he
  ·cases he
def eFun(E:En)(lf:Nat)(fe:FE)(as:List RS)(h:Sto):Option (RS×Sto):=gd (Nat.ble as.length 1024&&Nat.ble as.length fe.fn.ntmps) (match fe.fn.body with
 |some c=>match Cr E lf fe.pls c (Kp as 0 .e) h with
  |some (.normal,fr',h')=>match Pl E fr' h' fe.fn.results.toList with
   |some vs=>some (Q2 vs,h')
   |none=>none
  |some (.ret,fr',h')=>match Pl E fr' h' fe.fn.results.toList with
   |some vs=>some (Q2 vs,h')
   |none=>none
  |_=>none
 |none=>none)
theorem Agh{E:En}(hE:Mo P E)(hm:P.follows .mixedOrders=true){lf:Nat}{f:FuncId}{fe:FE}(hfe:D4 P f fe){as:List RS}(he:eFun E lf fe as h=some (v,h'))(hM:Mt σ0 c h σ)(hw:RS.wfs h.n as){k:AV→St→Prop}(hk:Kt σ0 c h v h' k):AT P f (RS.ivs c as) σ k:=by
 unfold eFun at he;rw[Ah,Bool.and_eq_true,Bf,Bf]at he;obtain⟨⟨hl1,hl2⟩,he⟩:=he;have hok:=hfe.ok;unfold Aix at hok;split at he
 ·rename_i cd hcd
  rw[hcd]at hok;simp only[Bool.and_eq_true]at hok;refine AT.of_body hfe.fn hcd hfe.nm hok.1.1 hok.1.2 (by rw[Ca];exact hl2) ?_;rw[←Adq hl1];have fin:∀fr1 h1 vs,Pl E fr1 h1 fe.fn.results.toList=some vs→v=Q2 vs→h'=h1→Kf σ0 c h fr1 h1 (Fp P k fe.fn.results.toList):=fun fr1 h1 vs hr e1 e2 c1 σ1 ha hM1 hn1 hkp hf1=>by
   subst e1;subst e2;obtain⟨g1,g2⟩:=Vi hE hM1 hf1 hr;refine⟨_,by unfold Bj;rw[g1],_,σ1,Ey.refl _ _,?_⟩;rw[←Ah1];exact hk c1 σ1 ha hM1 hn1 hkp (Ah2 g2)
  split at he
  ·rename_i fr1 h1 hc1
   split at he
   ·rename_i vs hvs
    injection he with he;injection he with e1 e2;exact B9 hE hm cd hok.2 hc1 hM (Vm hl1 hw) (fin _ _ _ hvs e1.symm e2.symm)
   ·cases he
  ·rename_i fr1 h1 hc1
   split at he
   ·rename_i vs hvs
    injection he with he;injection he with e1 e2;exact B9 hE hm cd hok.2 hc1 hM (Vm hl1 hw) (fin _ _ _ hvs e1.symm e2.symm)
   ·cases he
  ·cases he
 ·cases he
end
def Q3:List Nat→List RS→Tr RS→Option (Tr RS)
 |p::ps,a::as,fr=>gd (Nat.blt p 1024) (Q3 ps as (fr.set 10 p a))
 |_,_,fr=>some fr
def Xi(P:Program)(E:En)(lf:Nat)(l:Nat)(as:List RS)(h:Sto):Option (RS×Sto):=match h.get l with
 | .loop fr ps a b st pend pls=>match st with
  | .ready=>gd (Nat.beq as.length ps.length&&M5 a&&M5 b&&Ec P pls a&&Ec P pls b) (match Q3 ps as fr with
   |some fr0=>match Cr E lf pls a fr0 h with
    |some (.normal,fr1,h1)=>match h1.get l with
     | .loop _ _ _ _ .ready none _=>match Cr E lf pls b fr1 (h1.put l (.loop fr ps a b .busy none pls))with
      |some (e,_,h3)=>match h3.get l with
       | .loop _ _ _ _ .busy _ _=>match e with
        | .normal=>some (.v (.bool true),h3.put l (.loop fr ps a b .ready none pls))
        | .ret=>some (.v (.bool false),h3.put l (.loop fr ps a b .done (some .ret) pls))
        | .exit id=>some (.v (.bool false),h3.put l (.loop fr ps a b .done (some (.exit id)) pls))
        | .goto _=>none
       |_=>none
      |none=>none
     |_=>none
    |_=>none
   |none=>none)
  |_=>none
 |_=>none
section
variable{P:Program}{σ0 σ:St}{c c':Cx}{h h':Sto}{n:Nat}{fr fr':Tr RS}{v:RS}
theorem Aaa:∀{ps:List Nat} {as:List RS} {fr fr':Tr RS},Q3 ps as fr=some fr'→ifr c fr'=Ma (ifr c fr) ps (RS.ivs c as)
 |p::ps,a::as,fr,fr',he=>by
  simp only[Q3,Ah,A1]at he;obtain⟨hp,he⟩:=he;have:=H3 (c:=c) (fr:=fr) (d:=some p) (v:=a) (fr':=fr.set 10 p a) (by simp only[Lv];rw[A1.2 hp];rfl);rw[Aaa he,this];rfl
 | [],as,fr,fr',he=>by simp only[Q3,Option.some.injEq]at he;subst he;rfl
 |p::ps,[],fr,fr',he=>by simp only[Q3,Option.some.injEq]at he;subst he;rfl
theorem Aab:∀{ps:List Nat} {as:List RS} {fr fr':Tr RS},wfr n fr→RS.wfs n as→Q3 ps as fr=some fr'→wfr n fr'
 |p::ps,a::as,fr,fr',hf,hw,he=>by
  simp only[Q3,Ah,A1]at he;obtain⟨hp,he⟩:=he;simp only[RS.wfs]at hw;exact Aab (H4 (d:=some p) hf hw.1 (by simp only[Lv];rw[A1.2 hp];rfl)) hw.2 he
 | [],as,fr,fr',hf,_,he=>by simp only[Q3,Option.some.injEq]at he;subst he;exact hf
 |p::ps,[],fr,fr',hf,_,he=>by simp only[Q3,Option.some.injEq]at he;subst he;exact hf
theorem Abj{E:En}(hE:Mo P E)(hm:P.follows .mixedOrders=true){lf l:Nat}{as:List RS}(he:Xi P E lf l as h=some (v,h'))(hM:Mt σ0 c h σ)(hw:RS.wfs h.n as)(hl:l<h.n){k:AV→St→Prop}(hk:Kt σ0 c h v h' k):
  YC P (c.r l) (RS.ivs c as) σ k:=by
 unfold Xi at he;split at he
 ·rename_i fr ps a b st pend pls hg
  split at he
  ·rw[Ah]at he
   simp only[Bool.and_eq_true,Aq]at he;obtain⟨⟨⟨⟨⟨hlen,hfa⟩,hfb⟩,hpa⟩,hpb⟩,he⟩:=he;have hob:=hM.ob l (.loop (ifr c fr) (c.k l) ps a b .ready pend) hl (by rw[hg];rfl);have hfw:=hM.wf.ob l hl;rw[hg]at hfw;refine W0 hob (by rw[Ca];exact hlen) (by rw[hfa,hfb];rfl) ?_;split at he
   ·rename_i fr0 hpar
    rw[←Aaa hpar];have hf0:=Aab hfw hw hpar;split at he
    ·rename_i fr1 h1 hca
     refine B9 hE hm a hpa hca hM hf0 fun c1 σ1 ha1 hM1 hn1 hkp1 hf1=>?_;have hfr1:=Dc ha1 hfw;split at he
     ·rename_i fq pq aq bq pls1 hg1
      have hr1:h1.get l= .loop fr ps a b .ready none pls:=by
       rcases hkp1.lp l fr ps a b .ready pend pls hl hg with h2|⟨st',pend',h2⟩
       ·rw[h2]at hg1;cases hg1
       ·rw[h2]at hg1
        injection hg1 with q1 q2 q3 q4 q5 q6 q7;subst q5;subst q6;exact h2
      have hob1:=hM1.ob l (.loop (ifr c fr) (c.k l) ps a b .ready none) (by omega) (by rw[hr1];simp only[io,hfr1,ha1.k l hl]);rw[ha1.r l hl]at hob1;refine⟨hob1,?_⟩;have hne1:h1.get l≠.gone:=by rw[hr1];intro e;cases e
      have hM2:=hM1.put (i:=l) (o:=.loop fr ps a b .busy none pls) (x:=.loop (ifr c fr) (c.k l) ps a b .busy none) (by omega) hne1 (by simp only[io,hfr1,ha1.k l hl]) (Ee hn1 hfw) (Nat.zero_le _);rw[ha1.r l hl]at hM2
      have hkp2:Ih h1 (h1.put l (.loop fr ps a b .busy none pls)):=.put hM1.wf.lt (by omega) (fun fr' ps' a' b' st' pend' pls' e=>by
       rw[hr1]at e;injection e with q1 q2 q3 q4 q5 q6 q7;subst q1;subst q2;subst q3;subst q4;subst q7;exact .inr ⟨.busy,none,rfl⟩) (fun e=>absurd e hne1)
      split at he
      ·rename_i e fr3 h3 hcb
       refine B9 hE hm b hpb hcb hM2 hf1 fun c3 σ3 ha3 hM3 hn3 hkp3 hf3=>?_;have hn2:h.n≤h3.n:=Nat.le_trans hn1 hn3;have hl2:(h1.put l (.loop fr ps a b .busy none pls)).get l= .loop fr ps a b .busy none pls:=by
        have:=Sto.get_put (h:=h1) (o:=.loop fr ps a b .busy none pls) (i:=l) (j:=l) (by have:=hM1.wf.lt;omega) (by have:=hM1.wf.lt;omega);rw[if_pos rfl]at this;exact this
       have ha13:Dw h.n c c3:=ha1.trans ha3 hn1;have hfr3:=Dc ha13 hfw;split at he
       ·rename_i fq pq aq bq pendq plsq hg3
        have hr3:∃p,h3.get l= .loop fr ps a b .busy p pls:=by
         rcases hkp3.lp l fr ps a b .busy none pls (by show l<h1.n;omega) hl2 with h2|⟨st',pend',h2⟩
         ·rw[h2]at hg3;cases hg3
         ·rw[h2]at hg3
          injection hg3 with q1 q2 q3 q4 q5 q6 q7;subst q5;exact⟨pend',h2⟩
        obtain⟨p3,hr3⟩:=hr3;have hob3:=hM3.ob l (.loop (ifr c fr) (c.k l) ps a b .busy p3) (by omega) (by rw[hr3];simp only[io,hfr3,ha13.k l hl]);rw[ha13.r l hl]at hob3;have hne3:h3.get l≠.gone:=by rw[hr3];intro e;cases e
        have fin:∀st' pend' (x:RS),x.wf 0→v=x→h'=h3.put l (.loop fr ps a b st' pend' pls)→k (x.iv c3) (σ3.set (c.r l) (.loop (ifr c fr) (c.k l) ps a b st' pend')):=fun st' pend' x hx e1 e2=>by
         subst e1;subst e2;have hM4:=hM3.put (i:=l) (o:=.loop fr ps a b st' pend' pls) (x:=.loop (ifr c fr) (c.k l) ps a b st' pend') (by omega) hne3 (by simp only[io,hfr3,ha13.k l hl]) (Ee hn2 hfw) (Nat.zero_le _);rw[ha13.r l hl]at hM4;refine hk c3 _ ha13 hM4 hn2 ?_ (G9 (Nat.zero_le _) _ hx)
         refine((hkp1.trans hkp2 hn1).trans hkp3 (by show h.n≤h1.n;omega)).trans (.put hM3.wf.lt (by omega) (fun fr' ps' a' b' st'' pend'' pls' e=>by
          rw[hr3]at e;injection e with q1 q2 q3 q4 q5 q6 q7;subst q1;subst q2;subst q3;subst q4;subst q7;exact .inr ⟨st',pend',rfl⟩) (fun e=>absurd e hne3)) hn2
        split at he
        ·injection he with he
         injection he with e1 e2;have:=fin .ready none (.v (.bool true)) (by simp only[RS.wf]) e1.symm e2.symm;simp only[RS.iv,RS.vv]at this;exact⟨⟨p3,hob3⟩,this⟩
        ·injection he with he
         injection he with e1 e2;have:=fin .done (some .ret) (.v (.bool false)) (by simp only[RS.wf]) e1.symm e2.symm;simp only[RS.iv,RS.vv]at this;exact⟨⟨p3,hob3⟩,this⟩
        ·injection he with he
         injection he with e1 e2;have:=fin .done (some (.exit _)) (.v (.bool false)) (by simp only[RS.wf]) e1.symm e2.symm;simp only[RS.iv,RS.vv]at this;exact⟨⟨p3,hob3⟩,this⟩
        ·cases he
       ·cases he
      ·cases he
     ·cases he
    ·cases he
   ·cases he
  ·cases he
 ·cases he
def mkE(P:Program)(ty:Tr TE)(ft:Tr FE)(idle:FuncId→Bool)(lf:Nat):Nat→En
 |0=>⟨ty,fun _ _ _=>none,fun _ _ _=>none,idle⟩
 |d+1=>⟨ty,fun f as h=>match gd (Nat.blt f 1024) (ft.get 10 f)with
   |some fe=>eFun (mkE P ty ft idle lf d) lf fe as h
   |none=>none,fun l as h=>Xi P (mkE P ty ft idle lf d) lf l as h,idle⟩
structure PrOk(P:Program)(ty:Tr TE)(ft:Tr FE)(idle:FuncId→Bool):Prop where
 mx:P.follows .mixedOrders=true
 ty:∀t e,t<1024→ty.get 10 t=some e→Eg P t e
 ft:∀f e,f<1024→ft.get 10 f=some e→D4 P f e
 idle:∀f,idle f=true→(∃fn,P.funcs[f]? =some fn∧fn.body.isSome=true∧fn.name≠ "runtime.NumGoroutine")∧∀vs,Uf P f vs
theorem Aej{ty:Tr TE}{ft:Tr FE}{idle:FuncId→Bool}(hp:PrOk P ty ft idle)(lf d:Nat)(t:TypeId)(e:TE)(he:(mkE P ty ft idle lf d).te t=some e):Eg P t e:=by
 have h2:(mkE P ty ft idle lf d).ty=ty:=by cases d<;>rfl
 simp only[En.te,h2,Ah,A1]at he;exact hp.ty t e he.1 he.2
theorem Xx{ty:Tr TE}{ft:Tr FE}{idle:FuncId→Bool}(hp:PrOk P ty ft idle)(lf:Nat):∀d,Mo P (mkE P ty ft idle lf d)
 |0=>by
  refine⟨Aej hp lf 0,?_,?_,hp.idle⟩
  ·intro f as h v h' he;cases he
  ·intro l as h v h' he;cases he
 |d+1=>by
  refine⟨Aej hp lf (d+1),?_,?_,hp.idle⟩
  ·intro f as h v h' he σ0 c σ k hM hw hk
   simp only[mkE]at he;split at he
   ·rename_i fe hfe
    rw[Ah,A1]at hfe;exact Agh (Xx hp lf d) hp.mx (hp.ft f fe hfe.1 hfe.2) he hM hw hk
   ·cases he
  ·intro l as h v h' he σ0 c σ k hM hw hl hk
   exact Abj (Xx hp lf d) hp.mx he hM hw hl hk
end
def Dj{α β:Type}(f:α→Option β):List α→Option (List β)
 | []=>some []
 |x::l=>match f x with
  |some y=>match Dj f l with
   |some m=>some (y::m)
   |none=>none
  |none=>none
theorem Jb{α β:Type}{f:α→Option β}:∀{l:List α} {m:List β},Dj f l=some m→m.length=l.length∧∀(i:Nat) (x:α),l[i]? =some x→∃y,m[i]? =some y∧f x=some y
 | [],m,h=>by
  simp only[Dj,Option.some.injEq]at h;subst h;exact⟨rfl,fun i x hx=>by simp at hx⟩
 |a::l,m,h=>by
  simp only[Dj]at h;split at h
  ·rename_i y hy
   split at h
   ·rename_i m' hm
    injection h with h;subst h;obtain⟨h1,h2⟩:=Jb hm;refine⟨by simp[h1],fun i x hx=>?_⟩;cases i with
    |zero=>simp at hx;subst hx;exact⟨y,by simp,hy⟩
    |succ i=>simp at hx;obtain⟨z,hz,hf⟩:=h2 i x hx;exact⟨z,by simpa using hz,hf⟩
   ·cases h
  ·cases h
def rdF:Nat→Sto→RS→Option AV
 |0,_,_=>none
 |k+1,h,x=>match x with
  | .v x=>some (.v x)
  | .agg cs=>match Dj (rdF k h) cs with
   |some l=>some (.agg l)
   |none=>none
  | .tup cs=>match Dj (rdF k h) cs with
   |some l=>some (.tup l)
   |none=>none
  | .row i n=>match h.get i with
   | .rows q es _=>match Nat.beq n es.length with
    |true=>match Dj (Dj (rdF k h)) es with
     |some l=>some (.sl q l)
     |none=>none
    |false=>none
   |_=>none
  | .fsl q es=>match Dj (Dj (rdF k h)) es with
   |some l=>some (.sl q l)
   |none=>none
  | .sl q es=>match Dj (Dj (rdF k h)) es with
   |some l=>some (.sl q l)
   |none=>none
  |_=>none
section
variable{σ0 σ:St}{c:Cx}{h:Sto}
theorem Tp{k:Nat}(ih:∀(x:RS) (a:AV),rdF k h x=some a→x.wf h.n→VW σ σ0 (x.iv c) a){cs:List RS}{l:List AV}(he:Dj (rdF k h) cs=some l)(hw:RS.wfs h.n cs):l.length=(RS.ivs c cs).length∧∀j,j<(RS.ivs c cs).length→VW σ σ0 ((RS.ivs c cs).getD j (.v undef)) (l.getD j (.v undef)):=by
 obtain⟨h1,h2⟩:=Jb he;rw[Ce,List.length_map];refine⟨h1,fun j hj=>?_⟩;have hx:cs[j]? =some cs[j]:=List.getElem?_eq_getElem hj;obtain⟨y,hy,hf⟩:=h2 j _ hx;rw[List.getD_eq_getElem?_getD,List.getD_eq_getElem?_getD,hy,List.getElem?_map,hx];exact ih _ _ hf (Oj hw hx)
theorem Tq{k:Nat}(ih:∀(x:RS) (a:AV),rdF k h x=some a→x.wf h.n→VW σ σ0 (x.iv c) a){es:List (List RS)}{l:List (List AV)}(he:Dj (Dj (rdF k h)) es=some l)(hw:RS.wfss h.n es):
  l.length=(RS.ivss c es).length∧(∀i,i<(RS.ivss c es).length→(l.getD i []).length=((RS.ivss c es).getD i []).length)∧∀i j,i<(RS.ivss c es).length→j<((RS.ivss c es).getD i []).length→VW σ σ0 (((RS.ivss c es).getD i []).getD j (.v undef)) ((l.getD i []).getD j (.v undef)):=by
 obtain⟨h1,h2⟩:=Jb he;rw[Bs,List.length_map];have key:∀i,i<es.length→∃x y,(es.map (RS.ivs c)).getD i []=RS.ivs c x∧l.getD i []=y∧Dj (rdF k h) x=some y∧RS.wfs h.n x:=fun i hi=>by
  have hx:es[i]? =some es[i]:=List.getElem?_eq_getElem hi;obtain⟨y,hy,hf⟩:=h2 i _ hx;refine⟨es[i],y,?_,?_,hf,Jk hw hx⟩
  ·rw[List.getD_eq_getElem?_getD,List.getElem?_map,hx];rfl
  ·rw[List.getD_eq_getElem?_getD,hy];rfl
 refine⟨h1,fun i hi=>?_,fun i j hi hj=>?_⟩
 ·obtain⟨x,y,e1,e2,e3,e4⟩:=key i hi
  rw[e1,e2];exact(Tp ih e3 e4).1
 ·obtain⟨x,y,e1,e2,e3,e4⟩:=key i hi
  rw[e1]at hj⊢;rw[e2];exact(Tp ih e3 e4).2 j hj
theorem Ajr(hM:Mt σ0 c h σ):∀(k:Nat) (x:RS) (a:AV),rdF k h x=some a→x.wf h.n→VW σ σ0 (x.iv c) a
 |0,x,a,he,_=>by cases he
 |k+1,x,a,he,hw=>by
  have ih:=Ajr hM k;unfold rdF at he;split at he
  ·injection he with he
   subst he;simp only[RS.iv,RS.vv];exact .refl _
  ·split at he
   ·rename_i l hl
    injection he with he;subst he;simp only[RS.wf]at hw;simp only[RS.iv];obtain⟨h1,h2⟩:=Tp ih hl hw;exact .agg _ _ h1 h2
   ·cases he
  ·split at he
   ·rename_i l hl
    injection he with he;subst he;simp only[RS.wf]at hw;simp only[RS.iv];obtain⟨h1,h2⟩:=Tp ih hl hw;exact .tup _ _ h1 h2
   ·cases he
  ·rename_i i n
   split at he
   ·rename_i q es frz hg
    split at he
    ·rename_i hn
     have hn:=Nat.eq_of_beq_eq_true hn;split at he
     ·rename_i l hl
      injection he with he;subst he;simp only[RS.wf]at hw;simp only[RS.iv,RS.vv];have ho:=hM.ob i (.rows q (RS.ivss c es) frz (c.k i)) hw (by rw[hg];rfl);have hwe:=hM.wf.ob i hw;rw[hg]at hwe;have hcap:=hM.cap i hw;rw[hg]at hcap;simp only[SO.len]at hcap;obtain⟨h1,h2,h3⟩:=Tq ih hl hwe;have hle:(RS.ivss c es).length=es.length:=by rw[Bs,List.length_map]
      have hf:σ0 (c.r i)=none:=by
       cases e:σ0 (c.r i)with
       |none=>rfl
       |some o=>exact absurd rfl (hM.sep i (c.r i) o hw (by rw[hg];intro e;cases e) e)
      exact VW.row (c.r i) q (RS.ivss c es) l frz (c.k i) n (c.k i) ho hf (by omega) (by omega) h1 h2 h3
     ·cases he
    ·cases he
   ·cases he
  ·rename_i q es
   split at he
   ·rename_i l hl
    injection he with he;subst he;simp only[RS.wf]at hw;simp only[RS.iv];obtain⟨h1,h2,h3⟩:=Tq ih hl hw;exact .full q _ _ h1 h2 h3
   ·cases he
  ·rename_i q es
   split at he
   ·rename_i l hl
    injection he with he;subst he;simp only[RS.wf]at hw;simp only[RS.iv];obtain⟨h1,h2,h3⟩:=Tq ih hl hw;exact .part q _ _ h1 h2 h3
   ·cases he
  ·cases he
def runV(P:Program)(ty:Tr TE)(ft:Tr FE)(idle:FuncId→Bool)(lf d k:Nat)(f:FuncId)(as:List RS):Option AV:=match(mkE P ty ft idle lf d).cl f as ⟨0,.e⟩with
 |some (v,h)=>rdF k h v
 |none=>none
variable{P:Program}
theorem Aib{ty:Tr TE}{ft:Tr FE}{idle:FuncId→Bool}(hp:PrOk P ty ft idle){lf d k:Nat}{f:FuncId}{as:List RS}{x:AV}(he:runV P ty ft idle lf d k f as=some x)(hcl:Rq P f=false)(a:Nat→AV)(ha:∀i,(a i).one=true∧(a i).cells=[a i])(has:RS.wfs 0 as):
  AT P f (RS.ivs ⟨fun i=>i,fun i=>i,a⟩ as) σ fun r σ'=>r=x∧σ'=σ:=by
 unfold runV at he;split at he
 ·rename_i v h1 hc
  have hM:Mt σ ⟨fun i=>i,fun i=>i,a⟩ ⟨0,.e⟩ σ:=⟨ha,⟨Nat.zero_le _,fun i hi=>absurd hi (Nat.not_lt_zero _)⟩,fun y o h=>h,fun i o hi=>absurd hi (Nat.not_lt_zero _),fun i y o hi=>absurd hi (Nat.not_lt_zero _),fun i j hi=>absurd hi (Nat.not_lt_zero _),fun i hi=>absurd hi (Nat.not_lt_zero _)⟩;have h:=(Xx hp lf d).cl f as _ _ _ hc σ _ σ (fun r σ'=>∃c,Mt σ c h1 σ'∧v.wf h1.n∧r=v.iv c) hM has fun c' σ' _ hM' _ _ hw=>⟨c',hM',hw,rfl⟩;exact h.post hcl fun r σ' ⟨c,h1,h2,h3⟩=>⟨x,σ,by rw[h3];exact view_of (Jg fun y o hy=>.inl (h1.base y o hy)) (Ajr h1 k v x he h2),rfl,rfl⟩
 ·cases he
end
end Go.Av
