/-
  Contracts of the functions that the statement reaches, and the plain laws of what they reckon.
  Conditions: none.
-/
import Derived.Test.YtmifmncabejffaaGreatV1EvalDoes
import Derived.Test.YtmifmncabejffaaGreatV2EvalDoes
import Derived.Test.YtmifmncabejffaaGreatV3EvalDoes
import Derived.Test.YtmifmncabejffaaGreatX1EvalDoes
import Derived.Test.YtmifmncabejffaaGreatX2EvalDoes
set_option linter.unusedVariables false
set_option linter.unusedSimpArgs false
set_option linter.unusedSectionVars false
set_option maxRecDepth 100000
namespace Go.Proofs.YtmifmncabejffaaGreat
open Go Go.Av
section
variable{σ:St}
theorem Yi(r:Rl)(first:Int)(hr:r.Ok):AT Tryz.prog 100 [.agg r.cs,int first] σ fun v σ'=>v= .sl 1 (inC (Id (Hh r first)))∧σ'=σ:=by
 refine AT.ob Tryz.func100 rfl ?_;simp only[go_sem];refine Ax fun b hb hbn=>?_;obtain⟨β,hβ⟩:∃β,β=σ.set b (.cells r.cs):=⟨_,rfl⟩;have kb:β b=some (.cells r.cs):=by rw[hβ];exact Ab
 have ks:∀x o,σ x=some o→β x=some o:=by rw[hβ];exact Bt hb (fun _ _ h=>h)
 have hbl:=hr.1;rw[←hβ];clear hβ;simp only[go_sem];refine Ax fun o ho hon=>?_;have kb1:(β.set o (.cells [A0])) b=some (.cells r.cs):=Bt ho (fun _ _ h=>h) _ _ kb;simp only[go_sem,kb1];refine Ax fun v hv hvn=>?_;have hvo:o≠v:=hvn o _ Ab;have kb2:∀ob,((β.set o (.cells [A0])).set v ob) b=some (.cells r.cs):=fun ob=>Bt hv (fun _ _ h=>h) _ _ kb1;simp only[go_sem,kb2,Ab];simp only[Eh,Cv];simp only[go_sem,kb2,Ab];apply Hg (fun fr σ'=>∃ou vs,PO β σ' o v (Id ou) vs∧LO r first ou vs∧fr 2=ptr b∧fr 5=ptr o∧fr 6=ptr v∧fr 7= .v (.func (.func 158) #[] #[.pointer (some ⟨o,0,none⟩),.pointer (some ⟨b,0,none⟩),.pointer (some ⟨v,0,none⟩)]))
 case h1=>
  intro key;have no1:∀x,¬Own (.fsl 1 [[str r.ho.v]]) x:=fun x ⟨n,c,e⟩=>by cases e
  have no2:∀x,¬Own (.v (.slice none 0 0)) x:=fun x ⟨n,c,e⟩=>by cases e
  have r0:PO β ((β.set o (.cells [A0])).set v (.cells [.fsl 1 [[str r.ho.v]]])) o v (Id []) [r.ho.v]:=by
   refine⟨A0,.fsl 1 [[str r.ho.v]],⟨by rw[Ag hvo];exact Ab,.none⟩,⟨Ab,.full⟩,fun x=>?_,fun x p hx=>?_⟩
   ·by_cases e:x=o
    ·subst e;exact .inr ⟨hvo,no1 x⟩
    ·exact .inl ⟨e,no2 x⟩
   ·have h1:x≠o:=hon x p hx
    have h2:x≠v:=hvn x p (by rw[Ag h1];exact hx);exact⟨by rw[Ag h2,Ag h1];exact hx,⟨h1,no2 x⟩,h2,no1 x⟩
  by_cases h0:0≤first
  ·by_cases h1:first<r.bo.length
   ·have hk:first.toNat<r.bo.length:=by omega
    simp only[go_sem,kb2,decide_eq_true h0,decide_eq_true h1];have e0:int first=int (first.toNat:Nat):=by rw[Int.toNat_of_nonneg h0]
    rw[e0];refine(Adi r hk kb r0 (by simp) (by simp) (by have:=hr.2 _ (List.getElem_mem hk);omega)).mono ?_;rintro _ σ1 h2;simp only[go_sem];refine key _ _ ?_;exact⟨_,_,h2,.first hr h0 hk,rfl,rfl,rfl,rfl⟩
   ·simp only[go_sem,kb2,decide_eq_true h0,decide_eq_false h1]
    refine key _ _ ?_;exact⟨_,_,r0,.start fun h=>h1 h.2,rfl,rfl,rfl,rfl⟩
  ·simp only[go_sem,kb2,decide_eq_false h0]
   refine key _ _ ?_;exact⟨_,_,r0,.start fun h=>h0 h.1,rfl,rfl,rfl,rfl⟩
 case h2=>
  rintro fr σ1 ⟨ou,vs,h,hL,f2,f5,f6,f7⟩;simp only[go_sem,Aa];refine⟨fun m fr σ1=>∃ou vs,m=r.bo.length-ou.length∧PO β σ1 o v (Id ou) vs∧LO r first ou vs∧fr 2=ptr b∧fr 5=ptr o∧fr 6=ptr v∧fr 7= .v (.func (.func 158) #[] #[.pointer (some ⟨o,0,none⟩),.pointer (some ⟨b,0,none⟩),.pointer (some ⟨v,0,none⟩)]),⟨_,ou,vs,rfl,h,hL,f2,f5,f6,f7⟩,?_⟩;clear h hL f2 f5 f6 f7 ou vs fr σ1;rintro m fr σ1 ⟨ou,vs,rfl,h,hL,f2,f5,f6,f7⟩;have kb1:=h.sub _ _ kb;have hlen:=hL.len hr;obtain⟨lo,c1,c2,c3⟩:=h.num;simp only[go_sem,f2,f5,f6,f7,c1,c2.len,kb1];refine aIf_by (fun hlt=>?_) (fun hlt=>?_)
  ·simp only[go_sem,Aa,f2,f5,f6,f7,kb1]
   refine⟨fun m fr σ'=>∃k:Nat,m=r.bo.length-k∧k≤r.bo.length∧PO β σ' o v (Id ou) vs∧fr 2=ptr b∧fr 5=ptr o∧fr 6=ptr v∧fr 7= .v (.func (.func 158) #[] #[.pointer (some ⟨o,0,none⟩),.pointer (some ⟨b,0,none⟩),.pointer (some ⟨v,0,none⟩)])∧fr 8=int (bst r.bo ou vs k).1∧fr 9=int (bst r.bo ou vs k).2∧fr 39= .sl 10 (liC r.bo)∧fr 40=int r.bo.length∧fr 41=int k,⟨_,0,rfl,by omega,h,f2,f5,f6,f7,rfl,rfl,rfl,rfl,rfl⟩,?_⟩;clear f2 f5 f6 f7 fr h kb1 c1 c2 c3 lo σ1;rintro m fr σ1 ⟨k,rfl,hk,h,f2,f5,f6,f7,f8,f9,f39,f40,f41⟩;simp only[go_sem,f40,f41];refine aIf_by (fun hlt2=>?_) (fun hlt2=>?_)
   ·have hkl:k<r.bo.length:=by omega
    have hal:=hr.2 _ (List.getElem_mem hkl);simp only[go_sem,Aa,f39,f41,Et hkl];refine⟨by omega,Ax fun c hc hcn=>?_⟩;have h':=h.new (ob:=.cells r.bo[k].cs) hc;obtain⟨lo,c1,c2,c3⟩:=h'.num;obtain⟨γ,g1,g2,g3⟩:=h'.base;have hcc:γ c=some (.cells r.bo[k].cs):=g3 c _ Ab (fun a e=>by injection e with e;exact absurd (congrArg List.length e) (by rw[Li.len];simp)) (fun _ _ _ e=>by cases e);simp only[go_sem,Aa,f39,f41,Et hkl,Ab,f5,c1,c2.len];revert h' c1 c2 c3 g1 g2 g3 hcc;generalize σ1.set c (.cells r.bo[k].cs)=σ2;intro h' c1 c2 c3 g1 g2 g3 hcc;obtain⟨l,hl⟩:∃l,l=r.bo[k]:=⟨_,rfl⟩;have hg:r.bo.getD k .zero=l:=by rw[hl,Vo hkl]
    rw[←hl]at hal hcc;have hst:bst r.bo ou vs (k+1)=if k∉ou∧(bst r.bo ou vs k).2<(knL l vs:Int)then((k:Int),(knL l vs:Int))else bst r.bo ou vs k:=by
     rw[←hg];rfl
    refine⟨fun m fr σ'=>∃j:Nat,m=ou.length-j∧j≤ou.length∧σ'=σ2∧k∉ou.take j∧fr 2=ptr b∧fr 5=ptr o∧fr 6=ptr v∧fr 7= .v (.func (.func 158) #[] #[.pointer (some ⟨o,0,none⟩),.pointer (some ⟨b,0,none⟩),.pointer (some ⟨v,0,none⟩)])∧fr 8=int (bst r.bo ou vs k).1∧fr 9=int (bst r.bo ou vs k).2∧fr 39= .sl 10 (liC r.bo)∧fr 40=int r.bo.length∧fr 41=int k∧fr 10=int k∧fr 11=ptr c∧fr 46=lo∧fr 47=int ou.length∧fr 48=int j,⟨_,0,rfl,by omega,rfl,by simp,f2,f5,f6,f7,f8,f9,f39,f40,f41,rfl,rfl,rfl,by rw[←H3 ou,←Vm];rfl,rfl⟩,?_⟩;clear f2 f5 f6 f7 f8 f9 f39 f40 f41 fr;rintro m fr σ' ⟨j,rfl,hj,rfl,hn,f2,f5,f6,f7,f8,f9,f39,f40,f41,f10,f11,f46,f47,f48⟩;simp only[go_sem,f47,f48];refine aIf_by (fun hlt3=>?_) (fun hlt3=>?_)
    ·have hjl:j<ou.length:=by omega
     have ej:(inC (Id ou)).getD j []=[int (ou[j]:Nat)]:=by
      rw[Vl (by rw[H3];exact hjl)];simp[Id]
     simp only[go_sem,Aa,f46,f48];refine c2.elem (by omega) (by rw[Vm,H3];omega) fun p hp=>?_;simp only[go_sem,Aa];refine hp.load1 (by omega) (by rw[Int.toNat_natCast,ej];simp) ?_;simp only[go_sem,Aa,ej,f10];refine aIf_by (fun he=>?_) (fun he=>?_)
     ·have hm:k∈ou:=by
       have:ou[j]=k:=by omega
       exact this▸List.getElem_mem hjl
      have e:bst r.bo ou vs (k+1)=bst r.bo ou vs k:=by rw[hst,if_neg fun h=>h.1 hm]
      simp only[go_sem,Aa,f2,f5,f6,f7,f8,f9,f39,f40,f41,Ai (show k<9223372036854775807 by omega)];exact⟨r.bo.length-(k+1),by omega,k+1,rfl,by omega,h',by rw[e],by rw[e],rfl⟩
     ·simp only[go_sem,Aa,f2,f5,f6,f7,f8,f9,f39,f40,f41,f10,f11,f46,f47,f48,Ai (show j<9223372036854775807 by omega)]
      refine⟨ou.length-(j+1),by omega,j+1,rfl,by omega,?_,rfl⟩;rw[List.take_add_one,List.getElem?_eq_getElem hjl];simp only[Option.toList,List.mem_append,List.mem_singleton,not_or];exact⟨hn,fun e=>he (by rw[←e])⟩
    ·have hn:k∉ou:=by
      rw[List.take_of_length_le (by omega)]at hn;exact hn
     obtain⟨lw,d1,d2,d3⟩:=h'.var;simp only[go_sem,Aa,f2,f5,f6,f10,f11,g1.sub _ _ hcc,Li.len,d1];refine(Ag8 l (by omega) (by omega) (.of d2)).mono ?_;rintro _ σ1 ⟨rfl,rfl⟩;simp only[go_sem,Aa,f9];refine aIf_by (fun g2=>?_) (fun g2=>?_)
     ·have e:bst r.bo ou vs (k+1)=((k:Int),(knL l vs:Int)):=by rw[hst,if_pos ⟨hn,g2⟩]
      simp only[go_sem,Aa,f2,f5,f6,f7,f8,f9,f39,f40,f41,f10,Ai (show k<9223372036854775807 by omega)];exact⟨r.bo.length-(k+1),by omega,k+1,rfl,by omega,h',by rw[e],by rw[e],rfl⟩
     ·have e:bst r.bo ou vs (k+1)=bst r.bo ou vs k:=by rw[hst,if_neg fun h=>g2 h.2]
      simp only[go_sem,Aa,f2,f5,f6,f7,f8,f9,f39,f40,f41,f10,Ai (show k<9223372036854775807 by omega)];exact⟨r.bo.length-(k+1),by omega,k+1,rfl,by omega,h',by rw[e],by rw[e],rfl⟩
   ·obtain rfl:k=r.bo.length:=by omega
    obtain⟨c,hc,e,hN⟩:=hL.next hr (by omega);rw[e]at f8;simp only[go_sem,Aa,f7,f8];refine(Adi r hc kb h (by omega) (by omega) (by have:=hr.2 _ (List.getElem_mem hc);omega)).mono ?_;rintro _ σ2 h2;simp only[go_sem,Aa,f2,f5,f6,f7];have:=Jb _ _ hN.1;simp only[List.length_append,List.length_cons,List.length_nil]at this;exact⟨_,by simp only[List.length_append,List.length_cons,List.length_nil];omega,_,_,rfl,h2,hN,f2,f5,f6,f7⟩
  ·simp only[go_sem,Aa,f5,c1]
   obtain rfl:=hL.done (by omega);obtain⟨lo',lw,q1,q2,q3,q4⟩:=h;obtain rfl:lo'=lo:=by
    have:=q1.cell.symm.trans c1;injection this with this;injection this with this;injection this
   exact Af (r:=lo') rfl _ σ (view_of (F9 fun x o hx=>.inl (q4 x o (ks x o hx)).1) (q1.lat.vw_same fun x hx=>Classical.byContradiction fun hn=>by
    obtain⟨o,ho⟩:=Option.ne_none_iff_exists'.1 hn;exact(q4 x o (ks x o ho)).2.1.2 hx)) ⟨rfl,rfl⟩
end
def Fa.zero:Fa:=⟨emp,emp,emp,[]⟩
def I8(r:Rl)(me:ByteArray)(first:Int)(f:Fa)(l:List Fa):List (List Fa):=
 match Bm r.ho (nmC me) []with
 |some env=>Cf r.ho r.bo (Cr first f l) (Hh r first) env (List.replicate r.bo.length .zero)
 |none=>[]
def Gv(r:Rl)(me:ByteArray)(first:Int)(f:Fa)(l:List Fa):List (List Fa):=Ba Ed [] (I8 r me first f l)
theorem Mu(r:Rl)(first:Int):(Hh r first).Nodup:=(N7 r first).1.1
theorem Vf(ho:Tm)(bo:List Li)(cand:Nat→List Fa)(hc:∀k,∀x∈cand k,x.Sm):∀(o:List Nat) (env:List Bi) (got:List Fa),(∀x∈got,x.Sm)→∀b∈Cf ho bo cand o env got,b.length=got.length∧∀x∈b,x.Sm
 | [],env,got,hg,b,hb=>by rw[List.mem_singleton.1 hb];exact⟨rfl,hg⟩
 |k::o,env,got,hg,b,hb=>by
  rw[Cf]at hb;obtain⟨x,hx,hb⟩:=List.mem_flatMap.1 hb;split at hb
  ·have:=Vf ho bo cand hc o _ (got.set k x) (fun y hy=>by
    rcases List.mem_or_eq_of_mem_set hy with hy|rfl
    ·exact hg y hy
    ·exact hc k _ hx) b hb
   exact⟨by rw[this.1,List.length_set],this.2⟩
  ·cases hb
section
variable{σ:St}
set_option maxHeartbeats 2000000 in
theorem Adx(r:Rl)(me:ByteArray)(first:Int)(f:Fa)(l:List Fa)(hr:r.S3)(hf:f.Sm)(hl:l.length≤1000000)(hls:∀y∈l,y.Sm)(hn:(I8 r me first f l).length≤1000000):
  AT Tryz.prog 53 [.agg r.cs,str me,int first,.agg f.cs,.sl 4 (faC l)] σ fun v σ'=>PB σ σ' v (Gv r me first f l):=by
 refine AT.ob Tryz.func53 rfl ?_;simp only[go_sem];refine Ctx.nil.alloc fun p σ1 c1=>?_;simp only[go_sem];refine c1.alloc fun q σ2 c2=>?_;simp only[go_sem,c2.g1];refine(AT.weak (K6 r.ho (nmC me) [] (by simp)) (vws_same (vws_same (vws_cons (.nil 4) By)))).mono ?_;rintro _ σ2 ⟨rfl,rfl⟩;simp only[go_sem];cases hu:Bm r.ho (nmC me) []with
 |none=>
  have e:Gv r me first f l=[]:=by unfold Gv I8;rw[hu];rfl
  rw[e];simp only[go_sem];exact Af (r:=A0) rfl _ σ (c2.view _) ⟨fun _ _ h=>h,fun x hx=>absurd hx Bh,[],.inl ⟨rfl,.inl rfl⟩,rfl,fun i hi=>by simp at hi⟩
 |some env=>
  have ef:I8 r me first f l=Cf r.ho r.bo (Cr first f l) (Hh r first) env (List.replicate r.bo.length .zero):=by unfold I8;rw[hu]
  have hel:=Gr hu;simp only[List.length_nil]at hel;have hr1:=hr.1;simp only[go_sem];refine Adr [.rd 0 true,.rd 1 true,.rd 2 false,.rd 4 true,.rd 5 false,.rd 6 false,.rd 7 true,.rd 8 false,.rd 10 false] 3 [0,4,7] [.ef 9 [0,1,4],.rd 11 false,.ef 12 [],.rd 13 false] 9 [0,1,4] [.ef 3 [0,4,7],.rd 11 false,.ef 12 [],.rd 13 false] (by kernel_rfl) (by kernel_rfl) (by kernel_rfl) (by kernel_rfl) ?_;simp only[go_sem,c2.g1];constructor
  case' left=>
   refine(Yi r first hr).mono ?_;rintro _ σ2 ⟨rfl,rfl⟩;simp only[go_sem,c2.g1];refine⟨by omega,by omega,M3 fun gb hgb hgn=>?_⟩;have c3:=c2.new (o:=.rows 4 (List.replicate r.bo.length [str emp,str emp,str emp,A0]) false r.bo.length) hgb;obtain⟨σ3,e3⟩:∃s,s=σ2.set gb (.rows 4 (List.replicate r.bo.length [str emp,str emp,str emp,A0]) false r.bo.length):=⟨_,rfl⟩;rw[←e3]at c3⊢;simp only[go_sem,c3.g2]
  case' right=>
   refine⟨by omega,by omega,M3 fun gb hgb hgn=>?_⟩;have c3:=c2.new (o:=.rows 4 (List.replicate r.bo.length [str emp,str emp,str emp,A0]) false r.bo.length) hgb;obtain⟨σ3,e3⟩:∃s,s=σ2.set gb (.rows 4 (List.replicate r.bo.length [str emp,str emp,str emp,A0]) false r.bo.length):=⟨_,rfl⟩;rw[←e3]at c3⊢;simp only[go_sem,c3.g2];refine(Yi r first hr).mono ?_;rintro _ σ3 ⟨rfl,rfl⟩;simp only[go_sem,c3.g2]
  all_goals
   repeat' refine And.intro (Nat.le_of_ble_eq_true (by kernel_rfl)) ?_
   refine And.intro (by kernel_rfl) ?_;refine c3.alloc (o:=.cells (fiC r (.sl 1 (inC (Id (Hh r first)))) f (.sl 4 (faC l)) (slv gb r.bo.length r.bo.length) A0 first)) fun x σ4 c4=>?_;simp only[go_sem];obtain⟨σ5,e5⟩:∃s,s=σ4.set gb (.rows 4 (faC (List.replicate r.bo.length Fa.zero)) false r.bo.length):=⟨_,rfl⟩;have k4:=c4.g3;have hE0:EI σ σ5 x r (Hh r first) f l first (List.replicate r.bo.length .zero) []:=by
    rw[e5];refine⟨gb,A0,[],?_,?_,.inl ⟨rfl,.inl rfl⟩,rfl,fun i hi=>by simp at hi,fun y o hy=>⟨?_,fun e=>?_,fun e=>?_,Bh⟩,fun e=>by cases e⟩
    ·rw[Ag k4.2.1,List.length_replicate];exact k4.1.1
    ·rw[Ab,List.length_replicate]
    ·have h1:=c4.f1
     rw[Ag (fun e=>by rw[e]at hy;rw[hy]at h1;cases h1)];exact c4.sub _ _ hy
    ·have h1:=c4.f0
     rw[e]at hy;rw[hy]at h1;cases h1
    ·have h1:=c4.f1
     rw[e]at hy;rw[hy]at h1;cases h1
   have hSV:SV σ4 σ5:=by
    rw[e5];refine K3 k4.1.2.1 ⟨rfl,rfl,rfl,by simp[faC],fun i hi=>?_⟩ fun y o hne hy=>hy;have hi':i<r.bo.length:=by simpa using hi
    have g1:(List.replicate r.bo.length [str emp,str emp,str emp,A0]).getD i []=[str emp,str emp,str emp,A0]:=by
     simp[List.getD_eq_getElem?_getD,hi']
    have g2:(faC (List.replicate r.bo.length Fa.zero)).getD i []=[str emp,str emp,str emp,.sl 3 []]:=by
     rw[Au (by simpa using hi')];simp[Fa.cs,Fa.zero,cnC]
    rw[g1,g2];exact vws_same (vws_same (vws_same (vws_cons (.nil 3) By)))
   refine AT.pre (args':=[ptr x,int 0,.sl 4 (biC env)]) ((Akb r (Hh r first) first f l hr hf hl hls (by rw[(N7 r first).2.1];exact hr1) (Mu r first) (N7 r first).1.2 (Hh r first).length 0 (by omega) (by simp) (by omega) hE0 (by rw[List.drop_zero,←ef];simpa using hn)).mono ?_) (by kernel_rfl) hSV (Ca _);rintro _ σ6 ⟨got',_,_,hE⟩;rw[List.drop_zero,←ef,List.nil_append]at hE;obtain⟨gb',lo,es,h1,h2,h3,h4,h5,h6,h7⟩:=hE;simp only[go_sem,h1];rcases h3 with⟨rfl,hlo|hlo⟩|⟨b,cap,rfl,hcap,hb⟩
   case' inl.inr=>exact absurd hlo h7
   case' inl.inl=>
    subst hlo;refine(Yv _).mono ?_;rintro _ σ6 rfl;simp only[go_sem,h1];refine(Xb _).mono ?_;rintro _ σ7 ⟨rfl,rfl⟩;have e0:I8 r me first f l=[]:=List.eq_nil_of_length_eq_zero (by simpa using h4.symm);obtain⟨v7,hv7⟩:∃v,v=A0:=⟨_,rfl⟩;obtain⟨β',L,hM⟩:∃(β':St) (L:List (BV β' σ)),Ow 1 σ7 v7 (L.map BV.en)∧(∀c o,β' c=some o→σ7 c=some o)∧L.map BV.bd=Gv r me first f l∧(∀y o,σ y=some o→σ7 y=some o)∧(∀y,Own v7 y→σ y=none)∧L.length≤1000000:=
     ⟨fun _=>none,[],.inl ⟨rfl,.inl hv7⟩,fun c o h=>(by cases h),by unfold Gv;rw[e0];rfl,fun y o hy=>(h6 y o hy).1,fun y hy=>by rw[hv7]at hy;exact absurd hy Bh,by simp⟩
    rw[←hv7]
   case' inr=>
    have hxb:x≠b:=fun e=>by subst e;rw[h1]at hb;cases hb
    obtain⟨β',hβ⟩:∃β':St,β'=fun y=>if y=b∨y=x then none else σ6 y:=⟨_,rfl⟩
    have hbb:β' b=none:=by rw[hβ];simp
    have hsub:∀y o,β' y=some o→σ6 y=some o∧y≠b∧y≠x:=fun y o hy=>by
     rw[hβ]at hy;simp only at hy;split at hy
     ·cases hy
     ·rename_i hn;exact⟨hy,fun e=>hn (.inl e),fun e=>hn (.inr e)⟩
    have hin:∀y o,σ6 y=some o→y≠b→y≠x→β' y=some o:=fun y o hy n1 n2=>by
     rw[hβ];simp only;rw[if_neg (by rintro(e|e);exact n1 e;exact n2 e)];exact hy
    have hsm:=Vf r.ho r.bo (Cr first f l) (fun k y hy=>by
     unfold Cr at hy;split at hy
     ·rw[List.mem_singleton.1 hy];exact hf
     ·exact hls y hy) (Hh r first) env (List.replicate r.bo.length .zero) (fun y hy=>by rw[(List.mem_replicate.1 hy).2];simp[Fa.zero,Fa.Sm])
    rw[←ef]at hsm;obtain⟨L0,hL1,hL2⟩:∃L0:List (BV β' σ),L0.map BV.en=es∧L0.map BV.bd=I8 r me first f l:=Ub es _ h4 fun i hi=>by
     obtain⟨v,v1,v2,v3,v4⟩:=h5 i hi;have sm:=hsm _ (List.getElem_mem hi);refine⟨⟨_,v,v2.keep fun y o hy ho=>hin y o hy (fun e=>?_) (fun e=>?_),⟨?_,sm.2⟩,v4⟩,v1,rfl⟩
     ·subst e
      obtain⟨c,hc⟩:=v2.lat.own_rows ho;rw[hb]at hc;cases hc
     ·subst e
      obtain⟨c,hc⟩:=v2.lat.own_rows ho;rw[h1]at hc;cases hc
     ·rw[sm.1];simp;omega
    have hb0:σ6 b=some (.rows 1 (rw' BV.en L0.toArray) false cap):=by rw[hb,←hL1];simp[rw']
    have hlen:es.length=L0.length:=by rw[←hL1,List.length_map]
    refine(L.sort_at (fun _=>rfl) BV.one BV.cells BV.ord_at hbb (n:=es.length) (by omega) BV.swo hb0 (fun y o hy=>(hsub y o hy).1) (by simpa using hlen.symm)).mono ?_;rintro _ _ ⟨d',rfl,hp,hsd⟩;have hdl:es.length=d'.toList.length:=by rw[hp.length_eq,hlen]
    have hx7:(σ6.set b (.rows 1 (rw' BV.en d') false cap)) x=some (.cells (fiC r (.sl 1 (inC (Id (Hh r first)))) f (.sl 4 (faC l)) (slv gb' got'.length got'.length) (slv b es.length cap) first)):=by rw[Ag hxb];exact h1
    simp only[go_sem,hx7];rw[hdl];refine(L.compact_at (fun _=>rfl) BV.one BV.cells BV.eq_at hbb (l:=d'.toList) Ab (Ap hbb fun y o hy=>(hsub y o hy).1) (by omega) (by omega)).mono ?_;rintro _ _ ⟨rfl,rfl⟩;rw[Cw];obtain⟨σ7,hσ7⟩:∃s,s=σ6.set b (.rows 1 ((Dd BV.eq d'.toList).map BV.en) false cap):=⟨_,rfl⟩;rw[←hσ7];obtain⟨v7,hv7⟩:∃v,v=slv b (Dd BV.eq d'.toList).length cap:=⟨_,rfl⟩;have hsz:d'.size=es.length:=by simpa using hdl.symm
    obtain⟨β',L,hM⟩:∃(β':St) (L:List (BV β' σ)),Ow 1 σ7 v7 (L.map BV.en)∧(∀c o,β' c=some o→σ7 c=some o)∧L.map BV.bd=Gv r me first f l∧(∀y o,σ y=some o→σ7 y=some o)∧(∀y,Own v7 y→σ y=none)∧L.length≤1000000:=by
     refine⟨β',Dd BV.eq d'.toList,.inr ⟨b,cap,by rw[List.length_map];exact hv7,?_,by rw[hσ7];exact Ab⟩,fun c o hc=>?_,?_,fun y o hy=>?_,fun y hy=>?_,by have:=Rc BV.eq d'.toList;omega⟩
     ·have:=Rc BV.eq d'.toList
      rw[List.length_map];omega
     ·rw[hσ7,Ag (hsub c o hc).2.1];exact(hsub c o hc).1
     ·unfold Gv
      refine BV.done ?_ (by rw[hsz];exact hsd);rw[←hL2];exact(hp.map BV.bd)
     ·have:=h6 y o hy
      rw[hσ7,Ag fun e=>this.2.2.2 (Bw.2 e)];exact this.1
     ·rw[hv7]at hy
      have e:=Bw.1 hy;subst e;cases h:σ y with
      |none=>rfl
      |some o=>exact absurd (Bw.2 rfl) (h6 y o h).2.2.2
    rw[←hv7]
   all_goals
    clear h1 h4 h5 h6 h7 hE0 hSV e5 k4 c4 c3 e3;obtain⟨q1,q2,q3,q4,q5,q6⟩:=hM;have hJ0:JB σ σ7 σ7 v7 (L.map BV.en) (fun _ _=>False):=⟨q4,q1,fun c b cap h7 h0=>⟨_,h7,by simp[faC],fun j hj=>⟨.sl 3 (cnC b[j].ar),by rw[Au hj];rfl,.inl ⟨rfl,fun h=>h⟩⟩⟩⟩;simp only[go_sem,Aa,q1.lat.len];refine⟨fun m fr σ'=>∃i:Nat,m=L.length-i∧i≤L.length∧JB σ σ7 σ' v7 (L.map BV.en) (fun c _=>∃k,∃h:k<L.length,k<i∧Own L[k].v c)∧fr 14=v7∧fr 54=v7∧fr 55=int L.length∧fr 56=int i,⟨_,0,rfl,by omega,hJ0.weak (fun c b cap j h1 h2 ⟨k,_,h3,_⟩=>by omega),rfl,rfl,rfl,rfl⟩,?_⟩;rintro m fr σ8 ⟨i,rfl,hi,hJ,f14,f54,f55,f56⟩;simp only[go_sem,f55,f56];refine aIf_by (fun hlt=>?_) (fun hlt=>?_)
    ·have hil:i<L.length:=by omega
     obtain⟨X,hX⟩:∃X,X=L[i]:=⟨_,rfl⟩;have eg:(L.map BV.en).getD i []=[X.v]:=by rw[hX];simp[List.getD_eq_getElem?_getD,hil,BV.en]
     simp only[go_sem,Aa,f54,f56];refine hJ.2.1.lat.elem (by omega) (by rw[List.length_map];omega) fun e he=>?_;simp only[go_sem,Aa];refine he.load1 (by decide) (by rw[Int.toNat_natCast,eg];exact Nat.le_refl 1) ?_;simp only[go_sem,Aa,eg,X.ow.lat.len,Am];refine⟨fun mm fr σ9=>∃j:Nat,mm=X.bd.length-j∧j≤X.bd.length∧JB σ σ7 σ9 v7 (L.map BV.en) (fun c j'=>(∃k,∃h:k<L.length,k<i∧Own L[k].v c)∨(Own X.v c∧j'<j))∧fr 14=v7∧fr 16=X.v∧fr 54=v7∧fr 55=int L.length∧fr 56=int i∧fr 61=int X.bd.length∧fr 62=int j,⟨_,0,rfl,by omega,hJ.weak (fun c b cap j h1 h2 h3=>h3.resolve_right fun h=>by omega),f14,rfl,f54,f55,f56,rfl,rfl⟩,?_⟩;clear f14 f54 f55 f56 hJ fr he e;rintro mm fr σ9 ⟨j,rfl,hj,hJ,f14,f16,f54,f55,f56,f61,f62⟩;simp only[go_sem,f61,f62];refine aIf_by (fun hlt2=>?_) (fun hlt2=>?_)
     ·have hjl:j<X.bd.length:=by omega
      have hsl:=X.sm.1;have hsj:=X.sm.2 _ (List.getElem_mem hjl);rcases X.ow with⟨h0,_⟩|⟨c,cap,hv,hcap,hc⟩
      ·have:=congrArg List.length h0
       rw[Am,List.length_nil]at this;omega
      ·have hown:∀y,Own X.v y↔y=c:=fun y=>by rw[hv];exact Bw
       have h0:=X.fr c ((hown c).2 rfl);have h7:=q2 _ _ hc;obtain⟨es9,g1,g2,g3⟩:=hJ.2.2 c _ cap h7 h0;obtain⟨a,ga,gb2⟩:=g3 j hjl;have hR:Rd 3 σ9 a (cnC X.bd[j].ar):=by
        rcases gb2 with⟨rfl,_⟩|⟨h,_⟩
        ·exact .sl
        ·exact .of h.lat
       rw[Am]at hv;simp only[go_sem,Aa,f16,f62,hv,g1,ga];refine⟨by omega,by omega,(O5 X.bd[j].ar hsj hR).mono ?_⟩;rintro lv σ10 ⟨hO,hG⟩;have g10:=hG.sub _ _ g1;simp only[go_sem,Aa,f16,f62,hv,g10,ga,hO.lat.one,hO.lat.cells,Ai (show j<9223372036854775807 by omega)];refine⟨by omega,by omega,?_⟩;have hJ':JB σ σ7 (σ10.set c (.rows 4 (es9.set j (faX X.bd[j] lv)) false cap)) v7 (L.map BV.en) (fun c j'=>(∃k,∃h:k<L.length,k<i∧Own L[k].v c)∨(Own X.v c∧j'<j+1)):=hJ.put hG.sub h7 h0 g1 hjl hO (fun y hy=>Ct hJ.1 (hG.own hy)) fun c' j' h=>by
        rcases h with h|⟨h,hlt3⟩
        ·exact .inl (.inl h)
        ·have e:=(hown c').1 h
         by_cases ej:j'=j
         ·exact .inr ⟨e,ej⟩
         ·exact .inl (.inr ⟨h,by omega⟩)
       rw[hv]at hJ';refine⟨X.bd.length-(j+1),by omega,j+1,rfl,by omega,hJ',?_⟩
       (and_intros<;>first|assumption|rfl|omega)
     ·simp only[go_sem,Aa,f14,f54,f55,f56,Ai (show i<9223372036854775807 by omega)]
      have hJ':JB σ σ7 σ9 v7 (L.map BV.en) (fun c _=>∃k,∃h:k<L.length,k<i+1∧Own L[k].v c):=?_
      ·refine⟨L.length-(i+1),by omega,i+1,rfl,by omega,hJ',?_⟩
       (and_intros<;>first|assumption|rfl|omega)
      refine hJ.weak fun c b cap j' h7 hj' ⟨k,hk,hki,ho⟩=>?_;by_cases e:k=i
      ·subst e
       rw[←hX]at ho;refine .inr ⟨ho,?_⟩;rcases X.ow with⟨_,h|h⟩|⟨c',cap',hv,hcap,hc⟩
       ·rw[h]at ho;exact absurd ho Bh
       ·rw[h]at ho;exact absurd ho A1
       ·rw[hv]at ho
        have e:=Bw.1 ho;subst e;rw[q2 _ _ hc]at h7;injection h7 with h7;injection h7 with _ h7 _ _;rw[←Acd h7]at hj';omega
      ·exact .inl ⟨k,hk,by omega,ho⟩
    ·obtain rfl:i=L.length:=by omega
     simp only[go_sem,Aa,f14];refine Ad (r:=v7) rfl ⟨hJ.1,q5,L.map BV.en,hJ.2.1,by rw[←q3];simp,fun k hk=>?_⟩;have hkl:k<L.length:=by rw[←q3]at hk;simpa using hk
     have ek:(Gv r me first f l)[k]=L[k].bd:=by
      have:=List.getElem_of_eq q3.symm hk;rw[this,List.getElem_map]
     rw[ek];refine⟨L[k].v,by simp[List.getD_eq_getElem?_getD,hkl,BV.en],?_⟩;rcases L[k].ow with⟨h0,h⟩|⟨c,cap,hv,hcap,hc⟩
     ·exact .inl ⟨List.map_eq_nil_iff.1 h0,h⟩
     ·rw[Am]at hv hcap
      have hown:Own L[k].v c:=by rw[hv];exact Bw.2 rfl
      obtain⟨es9,g1,g2,g3⟩:=hJ.2.2 c _ cap (q2 _ _ hc) (L[k].fr c hown);refine .inr ⟨c,cap,hv,hcap,L[k].fr c hown,es9,g1,g2,fun j hj=>?_⟩;obtain⟨a,ga,gb2⟩:=g3 j hj;exact⟨a,ga,.inr (gb2.resolve_left fun h=>h.2 ⟨k,hkl,hkl,hown⟩)⟩
end
theorem Y4{n:Nat}{cs:List AV}(h:Ty Tryz.prog (n+3) 88 cs):∃t:Tm,cs=t.cs:=by
 have hx:=Qa Tryz.underlying88 h;obtain⟨x1,y1,rfl,h1,x2,y2,rfl,h2,rfl⟩:=hx;obtain⟨v,rfl,_⟩:=Ir Tryz.underlying9 h1;have hc:=Qa Tryz.underlying86 h2;obtain⟨x3,y3,rfl,h3,x4,y4,rfl,h4,x5,y5,rfl,h5,rfl⟩:=hc;obtain⟨b,rfl⟩:=Adm Tryz.underlying4 h3;obtain⟨k,rfl,_⟩:=Wn Tryz.underlying3 h4;obtain⟨s,rfl,_⟩:=Ir Tryz.underlying9 h5;exact⟨⟨v,b,k,s⟩,rfl⟩
theorem Abb{n:Nat}:∀(es:List (List AV)),(∀x∈es,Ty Tryz.prog (n+3) 88 x)→∃l:List Tm,es=tmC l
 | [],_=>⟨[],rfl⟩
 |x::es,h=>by
  obtain⟨l,rfl⟩:=Abb es fun y hy=>h y (by simp[hy]);obtain⟨t,rfl⟩:=Y4 (h x (by simp));exact⟨t::l,rfl⟩
theorem Aps{n:Nat}{cs:List AV}(h:Ty Tryz.prog (n+5) 104 cs):∃l:Li,cs=l.cs∧l.Wf:=by
 have hx:=Qa Tryz.underlying104 h;obtain⟨x1,y1,rfl,h1,x2,y2,rfl,h2,x3,y3,rfl,h3,x4,y4,rfl,h4,rfl⟩:=hx;obtain⟨a,rfl⟩:=Y4 h1;obtain⟨nm,rfl,hn⟩:=Ir Tryz.underlying9 h2;obtain⟨es,rfl,hl,he⟩:=Sz Tryz.underlying89 h3;obtain⟨ts,rfl⟩:=Abb es he;obtain⟨c,rfl⟩:=Y4 h4;have e1:Tryz.prog.cellsOf 88=4:=by kernel_rfl
 have e2:Tryz.prog.bytesOf 88=48:=by kernel_rfl
 rw[e1];rw[e2,Jz]at hl;exact⟨⟨a,nm,ts,c⟩,rfl,by show ts.length≤_;omega,hn⟩
theorem Ahc{n:Nat}:∀(es:List (List AV)),(∀x∈es,Ty Tryz.prog (n+5) 104 x)→∃l:List Li,es=liC l∧∀x∈l,x.Wf
 | [],_=>⟨[],rfl,fun x hx=>by cases hx⟩
 |x::es,h=>by
  obtain⟨l,rfl,hl⟩:=Ahc es fun y hy=>h y (by simp[hy]);obtain⟨t,rfl,ht⟩:=Aps (h x (by simp));exact⟨t::l,rfl,fun y hy=>by rcases List.mem_cons.1 hy with rfl|hy;exact ht;exact hl y hy⟩
theorem Ap4{n:Nat}{cs:List AV}(h:Ty Tryz.prog (n+7) 92 cs):∃r:Rl,cs=r.cs∧r.Wf:=by
 have hx:=Qa Tryz.underlying92 h;obtain⟨x1,y1,rfl,h1,x2,y2,rfl,h2,x3,y3,rfl,h3,x4,y4,rfl,h4,x5,y5,rfl,h5,rfl⟩:=hx;obtain⟨a,rfl⟩:=Y4 h1;obtain⟨nm,rfl,hn⟩:=Ir Tryz.underlying9 h2;obtain⟨es,rfl,hl,he⟩:=Sz Tryz.underlying89 h3;obtain⟨ts,rfl⟩:=Abb es he;obtain⟨c,rfl⟩:=Y4 h4;obtain⟨es,rfl,hl2,he⟩:=Sz Tryz.underlying90 h5;obtain⟨ls,rfl,hls⟩:=Ahc es he;have e1:Tryz.prog.cellsOf 88=4:=by kernel_rfl
 have e2:Tryz.prog.bytesOf 88=48:=by kernel_rfl
 have e3:Tryz.prog.cellsOf 104=10:=by kernel_rfl
 have e4:Tryz.prog.bytesOf 104=136:=by kernel_rfl
 rw[e1,e3];rw[e2,Jz]at hl;rw[e4,Gn]at hl2;exact⟨⟨a,nm,ts,c,ls⟩,rfl,by show ts.length≤_;omega,hn,by show ls.length≤_;omega,hls⟩
def Jq(r:Rl)(me:ByteArray)(first:Int)(f:Fa)(l:List Fa):List (List Fa)×Nat:=
 match Bm r.ho (nmC me) []with
 |some env=>frm r.ho (lsF r first f l 0 r.bo.length) env [] ([],0)
 |none=>([],0)
theorem Aeu(r:Rl)(first:Int):(Hh r first).Perm (List.range' 0 r.bo.length):=by
 obtain⟨h1,h2,_⟩:=N7 r first;refine(List.perm_ext_iff_of_nodup h1.1 (by simp[List.nodup_range'])).2 fun k=>?_;rw[List.mem_range'_1];constructor
 ·intro hk;have:=h1.2 k hk;omega
 ·intro hk
  refine Classical.byContradiction fun hn=>?_
  have:Perm r.bo.length (k::Hh r first):=⟨List.nodup_cons.2 ⟨hn,h1.1⟩,fun j hj=>by
   rcases List.mem_cons.1 hj with rfl|hj
   ·omega
   ·exact h1.2 j hj⟩
  have:=Jb _ _ this;simp only[List.length_cons]at this;omega
theorem Ael{α:Type}{c:α→α→Int}(h:G8 c){l m:List α}(hp:∀y,y∈l↔y∈m):Ba c [] l=Ba c [] m:=
 Gk h (B9 h .nil) (B9 h .nil) fun y=>by rw[Bl h,Bl h,hp]
theorem Ajk{r:Rl}{me:ByteArray}{first:Int}{f:Fa}{l:List Fa}(h:(Jq r me first f l).2≤30000):(Jq r me first f l).1=Gv r me first f l∧(I8 r me first f l).length≤30001:=by
 unfold Jq Gv I8 at*;cases hu:Bm r.ho (nmC me) []with
 |none=>exact⟨rfl,by simp⟩
 |some env=>
  rw[hu]at h;simp only at h⊢;obtain⟨h1,h2⟩:=Agz r.ho (lsF r first f l 0 r.bo.length) env [] ([],0) h;have e1:=Ab9 r.ho r.bo (Cr first f l) r.bo.length 0 env (List.replicate r.bo.length .zero) (by simp);rw[List.take_zero]at e1;have hp:=Aeb (ho:=r.ho) (bo:=r.bo) (cand:=Cr first f l) (Aeu r first) (Mu r first) env (List.replicate r.bo.length .zero);rw[e1]at hp;have e2:lvF r.ho (lsF r first f l 0 r.bo.length) env []=lvF r.ho ((List.range' 0 r.bo.length).map fun i=>(r.bo.getD i .zero,Cr first f l i)) env []:=rfl;refine⟨by rw[h1,e2];exact Ael Dh fun y=>hp.mem_iff.symm,?_⟩;rw[hp.length_eq,←e2];simp only at h2;split at h2<;>omega
section
variable{β σ:St}{x:Nat}
theorem Aao(r:Rl)(me:ByteArray)(first:Int)(f:Fa)(l:List Fa)(hr:r.S3)(hf:f.Sm)(hl:l.length≤1000000)(hls:∀y∈l,y.Sm)(h:FI β σ x [] 0):AT Tryz.prog 122 [ptr x,.agg r.cs,str me,int first,.agg f.cs,.sl 4 (faC l)] σ fun _ σ'=>FI β σ' x (Jq r me first f l).1 (Jq r me first f l).2:=by
 refine AT.ob Tryz.func122 rfl ?_;simp only[go_sem];refine Ctx.nil.alloc fun p σ1 c1=>?_;simp only[go_sem];refine c1.alloc fun q σ2 c2=>?_;simp only[go_sem];refine Ae [.rd 0 false,.rd 1 true,.rd 2 false,.ef 3 [1],.ef 4 [],.rd 5 false,.rd 6 false,.rd 7 false,.rd 8 false,.rd 9 false] ?_;simp only[go_sem,c2.g1];refine(N3 me).mono ?_;rintro _ σ2 ⟨rfl,rfl⟩;simp only[go_sem,c2.g1];refine(AT.weak (Je r.ho (nmC me) [] (by simp)) (vws_same (vws_same (vws_cons (.nil 4) By)))).mono ?_;rintro _ σ2 ⟨rfl,rfl⟩;have h2:=h.mono c2.sub;cases hu:Bm r.ho (nmC me) []with
 |none=>
  have e:Jq r me first f l=([],0):=by unfold Jq;rw[hu]
  rw[e];simp only[go_sem];exact Ad (r:=.tup []) rfl h2
 |some env=>
  have e:Jq r me first f l=frm r.ho (lsF r first f l 0 r.bo.length) env [] ([],0):=by unfold Jq;rw[hu]
  rw[e];have hel:=Gr hu;simp only[List.length_nil]at hel;simp only[go_sem,c2.g1];refine(AT.weak (Ak4 r first f l hr hf hl hls r.bo.length 0 (env:=env) (got:=[]) (by omega) rfl (by omega) (fun y hy=>by cases hy) h2 (by simp) (by omega) (fun a ha=>by cases ha)) (vws_same (vws_same (vws_same (vws_same (vws_same (vws_same (vws_cons (.nil 4) By)))))))).mono ?_;intro _ σ3 h3;simp only[go_sem];exact Ad (r:=.tup []) rfl h3
end
def Jp(ho:Tm):List Li→List Fa→List Bi→Option (List Bi)
 | [],[],e=>some e
 |l::ls,x::xs,e=>(Bo ho l x e).bind (Jp ho ls xs)
 |_,_,_=>none
theorem Uf{α:Type}{c:α→α→Int}(h:G8 c):∀{k l:List α},C4 c l→C4 c k→(∀y,y∈l→y∈k)→l.length≤k.length
 |k,[],_,_,_=>by simp
 | [],x::l,_,_,hs=>by have:=hs x (by simp);cases this
 |y::k,x::l,hl,hk,hs=>by
  obtain⟨h1,h2⟩:=List.pairwise_cons.1 hl;obtain⟨k1,k2⟩:=List.pairwise_cons.1 hk;have irr:∀z,¬c z z<0:=fun z hz=>by rw[h.self]at hz;omega
  have:l.length≤k.length:=by
   refine Uf h h2 k2 fun z hz=>?_;rcases List.mem_cons.1 (hs z (by simp[hz]))with e|hz'
   ·exfalso
    subst e;have hx:=h1 z hz;rcases List.mem_cons.1 (hs x (by simp))with e|hx'
    ·subst e;exact irr _ hx
    ·exact irr _ (h.trans _ _ _ hx (k1 x hx'))
   ·exact hz'
  simp only[List.length_cons];omega
def InC(σ0 σ:St)(c:Nat)(out:List Fa):Prop:=∃lv,σ c=some (.cells [lv])∧Ow 4 σ lv (faC out)∧∀y o,σ0 y=some o→σ y=some o∧¬Own lv y∧y≠c
theorem InC.more{σ0 σ σ':St}{c:Nat}{out:List Fa}(h:InC σ0 σ c out)(hs:∀y o,σ y=some o→σ' y=some o):InC σ0 σ' c out:=by
 obtain⟨lv,h1,h2,h3⟩:=h;exact⟨lv,hs _ _ h1,h2.sub hs,fun y o hy=>⟨hs _ _ (h3 y o hy).1,(h3 y o hy).2⟩⟩
structure LyF(B:List De)(base out:List Fa):Prop where
 ris:C4 Ar out
 own:∀x∈out,x∈base∨∃d∈B,d.hd=x
theorem LyF.len{B:List De}{base out:List Fa}(h:LyF B base out):out.length≤base.length+B.length:=by
 have h1:=Uf An h.ris (B9 (l:=B.map De.hd) An (B9 (l:=base) An .nil)) fun y hy=>by
  rw[Bl An,Bl An];rcases h.own y hy with h|⟨d,hd,e⟩
  ·exact .inr (.inl h)
  ·exact .inl (List.mem_map.2 ⟨d,hd,e⟩)
 have h2:=Br (c:=Ar) (s:=Ba Ar [] base) (l:=B.map De.hd);have h3:=Br (c:=Ar) (s:=[]) (l:=base);simp only[List.length_map,List.length_nil]at h2 h3;omega
theorem LyF.step{B:List De}{base out:List Fa}{d:De}(hd:d∈B)(h:LyF B base out):LyF B base (Bd Ar d.hd out):=⟨Gd An h.ris,fun x hx=>by
 rcases(Es An).1 hx with rfl|hx
 ·exact .inr ⟨d,hd,rfl⟩
 ·exact h.own x hx⟩
section
variable{σ:St}{t c:Nat}{B:List De}
theorem Ag2{σ0:St}{out:List Fa}(h:InC σ0 σ c out)(hr:C4 Ar out)(hl:out.length≤4000000000000)(hs:∀y∈out,y.Sm)(f:Fa)(hf:f.Sm):AT Tryz.prog 178 [.agg f.cs,ptr c] σ fun r σ'=>r=boo (decide (f∈out))∧σ'=σ:=by
 refine AT.ob Tryz.func178 rfl ?_;obtain⟨lv,h1,h2,h3⟩:=h;simp only[go_sem];refine Ctx.nil.alloc fun p σ1 c1=>?_;have hp:=c1.g0;have hsb:=c1.sub;clear c1;simp only[go_sem,hp,hsb _ _ h1];refine(BF.bsearch_at out f hl hs hf hr (.of (h2.sub hsb).lat)).mono ?_;rintro _ σ1 ⟨⟨k,rfl,hk⟩,rfl⟩;simp only[go_sem];exact Af (r:=boo _) rfl _ σ (Aq hsb) ⟨rfl,rfl⟩
theorem Zx{v0:AV}(h:BK σ t B)(hB:BOk B)(base:List Fa)(h0:Rd 4 σ v0 (faC base))(hl:base.length≤50000000000)(hls:∀f∈base,f.Sm):AT Tryz.prog 130 [ptr t,v0] σ fun v σ'=>Made σ σ' v (C8 B base):=by
 refine AT.ob Tryz.func130 rfl ?_;have hbs:=hB.sm;have hbl:=hB.len;have sm:∀{out:List Fa},LyF B base out→∀y∈out,y.Sm:=fun h y hy=>by
  rcases h.own y hy with h|⟨d,hd,rfl⟩
  ·exact hls y h
  ·exact(hbs d hd).1
 simp only[go_sem];refine(Ke h).mono ?_;rintro _ σ ⟨rfl,rfl⟩;simp only[go_sem];refine(H8 base h0 (by omega) hls).mono ?_;rintro lv σ1 ⟨hO,hs1,hn1⟩;simp only[go_sem];refine Ax fun c hc hcn=>?_;simp only[go_sem,hO.lat.one,hO.lat.cells,Ab];simp only[Eh,Cv];have hcσ:σ c=none:=Ct hs1 hc
 have hI0:InC σ (σ1.set c (.cells [lv])) c (Ba Ar [] base):=⟨lv,Ab,hO.sub fun y o hy=>by rw[Ag (fun e=>by rw[e,hc]at hy;cases hy)];exact hy,fun y o hy=>by
  have hyc:y≠c:=fun e=>by rw[e,hcσ]at hy;cases hy
  exact⟨by rw[Ag hyc];exact hs1 _ _ hy,(fun ho=>by rw[hn1 y ho]at hy;cases hy),hyc⟩⟩
 have hY0:LyF B base (Ba Ar [] base):=⟨B9 An .nil,fun x hx=>by
  rcases(Bl An).1 hx with h|h
  ·exact .inl h
  ·cases h⟩
 have hk0:P6 B (Ba Ar [] base)<B.length+1:=Nat.lt_succ_of_le (List.length_filter_le _ _);obtain⟨fin,hfin⟩:∃fin,fin=C8 B base:=⟨_,rfl⟩;have hf0:Ph B (B.length+1) (Ba Ar [] base)=fin:=by rw[hfin];rfl
 rw[←hfin];generalize σ1.set c (.cells [lv])=σ2 at hI0;generalize Ba Ar [] base=out0 at hI0 hY0 hk0 hf0;simp only[go_sem,Aa];refine⟨fun m fr σ'=>∃(out:List Fa) (mr:Bool),InC σ σ' c out∧LyF B base out∧(mr=true→P6 B out<m∧Ph B m out=fin)∧(mr=false→out=fin)∧fr 0=ptr t∧fr 5=ptr c∧fr 6=clo 178 c∧fr 7=boo mr,⟨B.length+1,out0,true,hI0,hY0,fun _=>⟨hk0,hf0⟩,fun e=>(by cases e),rfl,rfl,rfl,rfl⟩,?_⟩;clear hI0 hY0 hk0 hf0 hfin hO hs1 hn1 hc hcn;rintro m fr σ2 ⟨out,mr,hI,hY,hm1,hm2,f0,f5,f6,f7⟩;simp only[go_sem,f7];refine aIf_bool (fun hmr=>?_) (fun hmr=>?_)
 ·obtain⟨hlk,hfu⟩:=hm1 hmr
  obtain⟨n,rfl⟩:∃n,m=n+1:=⟨m-1,by omega⟩;have hBK:BK σ2 t B:=by
   obtain⟨lv,_,_,h3⟩:=hI;exact(h3 _ _ h).1
  have h0:=hBK;unfold BK at h0;simp only[go_sem,Aa,f0,h0,At];refine⟨fun mm fr σ'=>∃(i:Nat) (o:List Fa) (more:Bool),mm=B.length-i∧i≤B.length∧(B.take i).foldl Eg (out,false)=(o,more)∧InC σ σ' c o∧LyF B base o∧fr 0=ptr t∧fr 5=ptr c∧fr 6=clo 178 c∧fr 7=boo more∧fr 23= .sl 6 (deC B)∧fr 24=int B.length∧fr 25=int i,⟨_,0,out,false,rfl,by omega,rfl,hI,hY,f0,f5,f6,rfl,rfl,rfl,rfl⟩,?_⟩;clear hI hY hm1 hm2 h0 hBK f0 f5 f6 f7 fr;rintro mm fr σ3 ⟨i,o,more,rfl,hi,hfo,hI,hY,f0,f5,f6,f7,f23,f24,f25⟩;simp only[go_sem,f24,f25];refine aIf_by (fun hlt=>?_) (fun hlt=>?_)
  ·have hil:i<B.length:=by omega
   obtain⟨d,hd⟩:∃d,d=B[i]:=⟨_,rfl⟩;have hdm:d∈B:=by rw[hd];exact List.getElem_mem hil
   have hds:=hbs d hdm;have hol:=hY.len;have nx:=Ai (show i<9223372036854775807 by omega);have hfo':(B.take (i+1)).foldl Eg (out,false)=Eg (o,more) d:=by
    rw[List.take_add_one,List.getElem?_eq_getElem hil,List.foldl_append,hfo,hd];rfl
   have dg:(deC B).getD i []=d.cs:=by rw[hd];exact Bv hil
   simp only[go_sem,Aa,f23,f25,dg,At];refine⟨by omega,Ctx.nil.alloc fun q σ4 c4=>?_⟩;obtain⟨σ5,e5,c5⟩:=c4.abs 0 rfl (.cells d.cs);have hq:=c5.g0;have hI5:=hI.more c5.sub;simp only at hq;simp only[go_sem,Aa,c4.g0,e5,f6,hq];clear e5 c5 c4;refine(Ag2 hI5 hY.ris (by omega) (sm hY) d.hd hds.1).mono ?_;rintro _ σ5 ⟨rfl,rfl⟩;by_cases hin:d.hd∈o
   ·have d1:=decide_eq_true hin
    have er:Eg (o,more) d=(o,more):=by unfold Eg;rw[if_pos hin]
    rw[er]at hfo';simp only[go_sem,Aa,d1,f0,f5,f6,f7,f23,f24,f25,nx];refine⟨B.length-(i+1),by omega,i+1,o,more,?_⟩
    (and_intros<;>first|assumption|rfl|omega)
   ·have d1:=decide_eq_false hin
    have bl:=Am d.bo;have hbol:=hds.2.1;simp only[go_sem,Aa,d1,hq,bl];refine⟨fun m5 fr σ'=>∃j:Nat,m5=d.bo.length-j∧j≤d.bo.length∧(∀x∈d.bo.take j,x∈o)∧InC σ σ' c o∧σ' q=some (.cells d.cs)∧fr 0=ptr t∧fr 5=ptr c∧fr 6=clo 178 c∧fr 7=boo more∧fr 9=ptr q∧fr 23= .sl 6 (deC B)∧fr 24=int B.length∧fr 25=int i∧fr 34= .sl 4 (faC d.bo)∧fr 35=int d.bo.length∧fr 36=int j,⟨_,0,rfl,by omega,fun x hx=>by simp at hx,hI5,hq,f0,f5,f6,f7,rfl,f23,f24,f25,rfl,rfl,rfl⟩,?_⟩;clear hI hI5 hq f0 f5 f6 f7 f23 f24 f25 fr;rintro m5 fr σ6 ⟨j,rfl,hj,hall,hI,hq,f0,f5,f6,f7,f9,f23,f24,f25,f34,f35,f36⟩;simp only[go_sem,f35,f36];refine aIf_by (fun hltj=>?_) (fun hltj=>?_)
    ·have hjl:j<d.bo.length:=by omega
     have bg:=Au hjl;have hxs:=hds.2.2 _ (List.getElem_mem hjl);simp only[go_sem,Aa,f34,f36,bg,bl];refine⟨by omega,Ctx.nil.alloc fun u σ7 c7=>?_⟩;obtain⟨σ8,e8,c8⟩:=c7.abs 0 rfl (.cells d.bo[j].cs);have hu:=c8.g0;have hI8:=hI.more c8.sub;have hq8:=c8.sub _ _ hq;simp only at hu;simp only[go_sem,Aa,c7.g0,e8,f6,hu];clear e8 c8 c7;refine(Ag2 hI8 hY.ris (by omega) (sm hY) d.bo[j] hxs).mono ?_;rintro _ σ8 ⟨rfl,rfl⟩;by_cases hjn:d.bo[j]∈o
     ·have d2:=decide_eq_true hjn
      have hall':∀x∈d.bo.take (j+1),x∈o:=fun x hx=>by
       rw[List.take_add_one,List.getElem?_eq_getElem hjl]at hx;rcases List.mem_append.1 hx with h|h
       ·exact hall x h
       ·simp at h;subst h;exact hjn
      simp only[go_sem,Aa,d2,Bool.not_true,f0,f5,f6,f7,f9,f23,f24,f25,f34,f35,f36,Ai (show j<9223372036854775807 by omega)];refine⟨d.bo.length-(j+1),by omega,j+1,?_⟩
      (and_intros<;>first|assumption|rfl|omega)
     ·have d2:=decide_eq_false hjn
      have er:Eg (o,more) d=(o,more):=by
       unfold Eg;rw[if_neg hin,if_neg fun h=>hjn (h _ (List.getElem_mem hjl))]
      rw[er]at hfo';simp only[go_sem,Aa,d2,Bool.not_false,f0,f5,f6,f7,f23,f24,f25,nx];refine⟨B.length-(i+1),by omega,i+1,o,more,?_⟩
      (and_intros<;>first|assumption|rfl|omega)
    ·rw[List.take_of_length_le (by omega)]at hall
     have er:Eg (o,more) d=(Bd Ar d.hd o,true):=by
      unfold Eg;rw[if_neg hin,if_pos hall]
     rw[er]at hfo';obtain⟨lv,h1,h2,h3⟩:=hI;simp only[go_sem,Aa,f5,f9,h1,hq];refine(BF.bsearch_at o d.hd (by omega) (sm hY) hds.1 hY.ris (.of h2.lat)).mono ?_;rintro _ σ6 ⟨⟨k,rfl,hk1,hk2,hk3⟩,rfl⟩;simp only[go_sem,Aa];refine Ae [.rd 0 true,.rd 1 false,.rd 2 true,.ef 3 [0],.rd 4 false,.rd 5 false,.ef 6 [],.ef 7 []] ?_;simp only[go_sem,Aa,f5,f9,h1,hq];refine(Aah d hds).mono ?_;rintro _ σ6 ⟨rfl,rfl⟩;simp only[go_sem,Aa,f5,h1];refine(BF.insert_at o d.hd k hk1 (by omega) h2).mono ?_;rintro r σ7 ⟨hO3,hK⟩;have hins:=Hx (c:=Ar) hk1 hk2 hk3;rw[if_neg (fun⟨h,e⟩=>hin (by rw[←(An.zero _ _).1 e];exact List.getElem_mem h))]at hins;rw[←hins]at hO3;have hL:=hO3.lat;have hc7:=hK _ _ h1 (h2.lat.not_own h1)
     have hI7:InC σ (σ7.set c (.cells [r])) c (Bd Ar d.hd o):=⟨r,Ab,hO3.keep fun y o hy ho=>by rw[Ag (fun e=>by rw[e]at ho;exact hc7.2 ho)];exact hy,fun y o hy=>by
      obtain⟨y1,y2,y3⟩:=h3 y o hy;have y4:=hK _ _ y1 y2;exact⟨by rw[Ag y3];exact y4.1,y4.2,y3⟩⟩
     have hY7:=hY.step hdm;simp only[go_sem,Aa,f0,f5,f6,f7,f23,f24,f25,hc7.1,hL.one,hL.cells,nx];refine⟨B.length-(i+1),by omega,i+1,Bd Ar d.hd o,true,?_⟩
     (and_intros<;>first|assumption|rfl|omega)
  ·rw[List.take_of_length_le (by omega)]at hfo
   have hfo:rnd B out=(o,more):=hfo;have hlk2:more=true→P6 B o<n:=fun e=>by
    have:=Ack (B:=B) (out:=out) (by rw[hfo];exact e);rw[hfo]at this;simp only at this;omega
   have hfu2:(if more=true then Ph B n o else o)=fin:=by
    rw[←hfu];show _=if(rnd B out).2=true then Ph B n (rnd B out).1 else(rnd B out).1
    rw[hfo]
   have hm1':more=true→P6 B o<n∧Ph B n o=fin:=fun e=>⟨hlk2 e,by rw[if_pos e]at hfu2;exact hfu2⟩;have hm2':more=false→o=fin:=fun e=>by rw[e]at hfu2;exact hfu2
   simp only[go_sem,Aa,f0,f5,f6,f7];refine⟨n,by omega,o,more,?_⟩
   (and_intros<;>first|assumption|rfl|omega)
 ·obtain⟨lv,h1,h2,h3⟩:=hI
  have e:=hm2 hmr;subst e;simp only[go_sem,Aa,f5,h1]
  exact Ad (r:=lv) rfl ⟨h2,fun y o hy=>(h3 y o hy).1,fun x hx=>by
   cases hs:σ x with
   |none=>rfl
   |some o=>exact absurd hx (h3 x o hs).2.1⟩
end
abbrev Ai3(l:Nat):AV:=.v (.func (.yield l) #[] #[])
theorem V3{l n:Nat}{fr fr1:Fr}{σ1:St}{ps:List Nat}{assign body:Code}{k:AV→St→Prop}:AK.round l fr n ps assign body k .normal fr1 σ1=((∃p,σ1 l=some (.loop fr n ps assign body .busy p))∧k (.v (.bool true)) (σ1.set l (.loop fr n ps assign body .ready none))):=_root_.id rfl
theorem U2{P:Program}{l n:Nat}{fr fr1:Fr}{σ1:St}{ps:List Nat}{assign body B:Code}{k:AV→St→Prop}(hB:body=B):AK.begun P l fr n ps assign body k .normal fr1 σ1=(σ1 l=some (.loop fr n ps assign body .ready none)∧A3 P B (@hid _ ⟨AK.round l fr n ps assign body k⟩) fr1 (σ1.set l (.loop fr n ps assign body .busy none))):=by subst hB;rfl
theorem Te{P:Program}{l n:Nat}{args:List AV}{σ:St}{k:AV→St→Prop}{fr:Fr}{ps:List Nat}{assign body A:Code}{pend:Option Code}(hA:assign=A)(hl:σ l=some (.loop fr n ps assign body .ready pend))(hn:args.length=ps.length)(hfl:(Pg assign&&Pg body)=true)
  (h:A3 P A (@hid _ ⟨AK.begun P l fr n ps assign body k⟩) (N8 fr ps args) σ):YC P l args σ k:=Zd hl hn hfl (by subst hA;exact h)
theorem Pj{P:Program}{g:AV}{ps:List Nat}{A B:Code}{K:AK}{fr:Fr}{σ:St}(F:Fr→Prop)(hF:F fr)(h:∀assign body fr,assign=A→body=B→F fr→Ka P g ps assign body K fr σ):Ka P g ps A B K fr σ:=h A B fr rfl rfl hF
def OnI(τ:St)(d:Nat)(acc:List Fa)(σ:St):Prop:=τ d=none∧∃lv,σ d=some (.cells [lv])∧LAt 4 σ lv (faC acc)∧Cd τ σ lv
section
variable{τ σ σ':St}{d c e l:Nat}{acc:List Fa}{o o':B7}
theorem OnI.start(hd:σ d=none):OnI σ d [] (σ.set d (.cells [A0])):=⟨hd,A0,Ab,.none,fun y o hy=>⟨Bt hd (fun _ _ h=>h) y o hy,Bh⟩⟩
theorem OnI.sub(h:OnI τ d acc σ){x:Nat}(hx:τ x=some o):σ x=some o:=by
 obtain⟨_,lv,_,_,h3⟩:=h;exact h3.sub x o hx
theorem OnI.ne(h:OnI τ d acc σ)(hc:σ c=none):c≠d:=fun e=>by
 obtain⟨_,lv,h1,_⟩:=h;rw[←e,hc]at h1;cases h1
theorem OnI.none(h:OnI τ d acc σ)(hc:σ c=none):τ c=none:=by
 cases hx:τ c with
 |none=>rfl
 |some o=>rw[h.sub hx]at hc;cases hc
theorem OnI.more(h:OnI τ d acc σ)(hs:∀x o,σ x=some o→σ' x=some o):OnI τ d acc σ':=by
 obtain⟨h0,lv,h1,h2,h3⟩:=h;exact⟨h0,lv,hs _ _ h1,h2.keep fun x o hx _=>hs x o hx,fun y o hy=>⟨hs _ _ (h3 y o hy).1,(h3 y o hy).2⟩⟩
theorem OnI.loop{fr:Fr}{n:Nat}{ps:List Nat}{A B:Code}{st:LoopState}{pend:Option Code}(h:OnI τ d acc σ)(hl:σ l=some (.loop fr n ps A B st pend))(ht:τ l=Option.none)(hs:∀y,y≠l→σ' y=σ y):OnI τ d acc σ':=by
 obtain⟨h0,lv,h1,h2,h3⟩:=h;have nl:¬Own lv l:=fun ho=>by obtain⟨cap,h⟩:=h2.own_rows ho;rw[hl]at h;cases h
 refine⟨h0,lv,?_,h2.keep fun x o hx ho=>?_,fun y o hy=>⟨?_,(h3 y o hy).2⟩⟩
 ·rw[hs d (fun e=>by rw[←e,h1]at hl;cases hl)];exact h1
 ·rw[hs x (by rintro rfl;exact nl ho)];exact hx
 ·rw[hs y (fun e=>by rw[e,ht]at hy;cases hy)];exact(h3 y o hy).1
theorem OnI.app{lv lv':AV}{σ8:St}{f:Fa}(hd0:τ d=Option.none)(h1:σ d=some (.cells [lv]))(h2:LAt 4 σ lv (faC acc))(h3:Cd τ σ lv)(hL4:LAt 4 σ8 lv' (faC acc++[f.cs]))(hs4:∀x o,σ x=some o→¬Own lv x→σ8 x=some o∧¬Own lv' x):
  OnI τ d (acc++[f]) (σ8.set d (.cells [lv']))∧σ8 d=some (.cells [lv]):=by
 have m1:=hs4 _ _ h1 (h2.not_own h1);have h3':=h3.step hs4;refine⟨⟨hd0,lv',Ab,?_,fun y o hy=>⟨?_,(h3' y o hy).2⟩⟩,m1.1⟩
 ·rw[show faC (acc++[f])=faC acc++[f.cs] by simp[faC]]
  exact hL4.keep fun y o hy ho=>by rw[Ag (by rintro rfl;exact m1.2 ho)];exact hy
 ·rw[Ag (fun e=>by rw[e,hd0]at hy;cases hy)]
  exact(h3' y o hy).1
end
abbrev Q2(b1 b2:Nat):AV:=.v (.func (.func 172) #[] #[.pointer (some ⟨b1,0,none⟩),.pointer (some ⟨b2,0,none⟩)])
section
variable{σ:St}{t l:Nat}{T:List Fa}{lim:Int}
theorem Ai4(f:Fa):AT Tryz.prog 117 [.agg f.cs] σ fun r σ'=>r=boo true∧σ'=σ:=by
 refine AT.ob Tryz.func117 rfl ?_;simp only[go_sem];refine Ctx.nil.alloc fun p σ1 c1=>?_;simp only[go_sem];exact Af (r:=boo true) rfl _ σ (c1.view _) ⟨rfl,rfl⟩
theorem Wj:AT Tryz.prog 61 [ptr t] σ fun v σ'=>∃b1 b2,v=Q2 b1 b2∧Ctx σ [(b2,.cells [fnv 117]),(b1,.cells [ptr t])] σ':=by
 have hs:AT Tryz.prog 116 [ptr t,fnv 117] σ fun v σ'=>∃b1 b2,v=Q2 b1 b2∧Ctx σ [(b2,.cells [fnv 117]),(b1,.cells [ptr t])] σ':=by
  refine AT.ob Tryz.func116 rfl ?_;simp only[go_sem];refine Ctx.nil.alloc fun b1 σ1 c1=>?_;simp only[go_sem];refine c1.alloc fun b2 σ2 c2=>?_;simp only[go_sem];simp only[Eh,Cv];simp only[go_sem];exact Ad (r:=Q2 b1 b2) rfl ⟨b1,b2,rfl,c2⟩
 refine AT.ob Tryz.func61 rfl ?_;simp only[go_sem];refine hs.mono ?_;rintro _ σ1 ⟨b1,b2,rfl,c⟩;simp only[go_sem];exact Ad (r:=Q2 b1 b2) rfl ⟨b1,b2,rfl,c⟩
theorem Pw{b1 b2:Nat}(hT:TOk T lim)(Inv:Nat→St→Prop)(h0:∀i σ',Inv i σ'→TB σ' t T lim∧σ' b1=some (.cells [ptr t])∧σ' b2=some (.cells [fnv 117]))
  (hmore:∀i σ' σ'',Inv i σ'→(∀y o,σ' y=some o→σ'' y=some o)→Inv i σ'') (step:∀i σ' (h:i<T.length),Inv i σ'→YC Tryz.prog l [.agg T[i].cs] σ' fun v σ''=>v=boo true∧Inv (i+1) σ'') (hI:Inv 0 σ):
  AT Tryz.prog 172 [Ai3 l,ptr b1,ptr b2] σ fun _ σ'=>Inv T.length σ':=by
 refine AT.ob Tryz.func172 rfl ?_;obtain⟨g1,g2,g3⟩:=h0 _ _ hI;have tl:=Am T;have tlen:=hT.len;simp only[go_sem,g2];refine(Ol g1).mono ?_;rintro _ σ ⟨rfl,rfl⟩;have d1:=decide_eq_false hT.lim;have g1':=g1;unfold TB at g1';simp only[go_sem,Aa,d1,g2,g1',tl];refine⟨fun m fr σ'=>∃i:Nat,m=T.length-i∧i≤T.length∧Inv i σ'∧fr 0=Ai3 l∧fr 1=ptr b1∧fr 2=ptr b2∧fr 11= .sl 4 (faC T)∧fr 12=int T.length∧fr 13=int i,⟨_,0,rfl,by omega,hI,rfl,rfl,rfl,rfl,rfl,rfl⟩,?_⟩;clear g1 g2 g3 g1' hI;rintro m fr σ1 ⟨i,rfl,hi,hI,f0,f1,f2,f11,f12,f13⟩;simp only[go_sem,f12,f13];refine aIf_by (fun hlt=>?_) (fun hlt=>?_)
 ·have hil:i<T.length:=by omega
  have sx:=hT.sm _ (List.getElem_mem hil);simp only[go_sem,Aa,f11,f13,Au hil,tl];refine⟨by omega,Ctx.nil.alloc fun q σ2 c2=>?_⟩;obtain⟨σ3,e3,c3⟩:=c2.abs 0 rfl (.cells T[i].cs);have hq:=c3.g0;have hI3:=hmore _ _ _ hI c3.sub;simp only at hq;obtain⟨g1,g2,g3⟩:=h0 _ _ hI3;simp only[go_sem,Aa,c2.g0,e3,f2,hq,g3];clear e3 c3 c2;refine(Ai4 T[i]).mono ?_;rintro _ σ3 ⟨rfl,rfl⟩;simp only[go_sem,Aa,Bool.not_true,hq];refine(Ht T[i].ar sx).mono ?_;rintro _ σ3 ⟨rfl,rfl⟩;have esp:Ay T[i].cs 3 [.sl 3 (cnC T[i].ar)]=T[i].cs:=rfl;have eid:σ3.set q (.cells T[i].cs)=σ3:=Bp hq;simp only[go_sem,Aa,f0,hq,esp,eid];refine(step i σ3 hil hI3).mono ?_;rintro _ σ4 ⟨rfl,hI4⟩;simp only[go_sem,Aa,Bool.not_true,f0,f1,f2,f11,f12,f13,Ai (show i<9223372036854775807 by omega)];refine⟨T.length-(i+1),by omega,i+1,?_⟩
  (and_intros<;>first|assumption|rfl|omega)
 ·have e:i=T.length:=by omega
  rw[e]at hI;simp only[go_sem,Aa];exact Ad (r:=.tup []) rfl hI
end
section
variable{σ:St}{t b1 b2:Nat}{T:List Fa}{lim:Int}
theorem Adw(h:TB σ t T lim)(hT:TOk T lim)(h1:σ b1=some (.cells [ptr t]))(h2:σ b2=some (.cells [fnv 117])):AT Tryz.prog 129 [A0,Q2 b1 b2] σ fun r σ'=>r= .sl 4 (faC T)∧σ'=σ:=by
 have hm:AT Tryz.prog 129 [A0,Q2 b1 b2] σ fun r σ'=>LAt 4 σ' r (faC T)∧Cd σ σ' r:=by
  refine AT.ob Tryz.func129 rfl ?_;have tlen:=hT.len;simp only[go_sem];refine Ax fun d hd hdm=>?_;have hI0:=OnI.start hd;obtain⟨σ2,e2⟩:∃s,s=σ.set d (.cells [A0]):=⟨_,rfl⟩;rw[←e2]at hI0⊢;clear e2 hdm;simp only[go_sem,Aa];refine Pj (fun fr=>fr 2=ptr d) rfl fun assign body fr hA hB f2=>?_;intro n l hl hlm;have htl:=hI0.none hl;have hsl:∀y o,σ2 y=some o→(σ2.set l (.loop fr n [7] assign body .ready none)) y=some o:=Bt hl fun _ _ h=>h;refine(Pw (t:=t) (b1:=b1) (b2:=b2) hT (fun i σ'=>OnI σ d (T.take i) σ'∧σ' l=some (.loop fr n [7] assign body .ready none)) ?_ ?_ ?_ ⟨by simpa using hI0.more hsl,Ab⟩).mono ?_
  ·rintro i σ5 ⟨g1,g2⟩
   exact⟨g1.sub h,g1.sub h1,g1.sub h2⟩
  ·rintro i σ5 σ6 ⟨g1,g2⟩ hs
   exact⟨g1.more hs,hs _ _ g2⟩
  ·rintro i σ5 hil ⟨g1,g2⟩
   refine Te hA g2 rfl (by rw[hA,hB];rfl) ?_;have hbg:=fun k fr1 σ1=>U2 (P:=Tryz.prog) (l:=l) (fr:=fr) (fr1:=fr1) (σ1:=σ1) (ps:=[7]) (n:=n) (assign:=assign) (k:=k) hB;simp only[go_sem];refine Ax fun q hq hqm=>?_;obtain⟨σ6,e6⟩:∃s,s=σ5.set q (.cells T[i].cs):=⟨_,rfl⟩;have hs6:∀y o,σ5 y=some o→σ6 y=some o:=by rw[e6];exact Bt hq fun _ _ h=>h
   have hq6:σ6 q=some (.cells T[i].cs):=by rw[e6];exact Ab
   have g1':=g1.more hs6;have g2':=hs6 _ _ g2;simp only[go_sem,Ab,Cw,←e6,hbg];clear e6 hqm hq g1 g2;refine⟨g2',?_⟩;have g3:=g1'.loop (σ':=σ6.set l (.loop fr n [7] assign body .busy none)) g2' htl fun y hy=>Ag hy;have g4:(σ6.set l (.loop fr n [7] assign body .busy none)) l=some (.loop fr n [7] assign body .busy none):=Ab;have g5:(σ6.set l (.loop fr n [7] assign body .busy none)) q=some (.cells T[i].cs):=by rw[Ag (fun e=>by rw[e,g2']at hq6;cases hq6)];exact hq6
   revert g3 g4 g5;generalize σ6.set l (.loop fr n [7] assign body .busy none)=σ7;intro g3 g4 g5;obtain⟨hd0,lv,k1,k2,k3⟩:=g3;have hld:l≠d:=fun e=>by rw[e,k1]at g4;cases g4
   have nl:¬Own lv l:=fun ho=>by obtain⟨cap,h⟩:=k2.own_rows ho;rw[g4]at h;cases h
   simp only[go_sem,Aa,f2,k1,g5];refine As (ys:=[T[i].cs]) rfl (by decide) (by decide) (by decide) (k2.app (by rw[Am,List.length_take];simp only[List.length_cons,List.length_nil];omega) fun lv' σ8 hL4 hs4=>?_);obtain⟨g6,g7⟩:=OnI.app hd0 k1 k2 k3 hL4 hs4;have m6:=hs4 _ _ g4 nl;simp only[go_sem,Aa,g7,f2,hL4.one,hL4.cells,V3];have g6':(σ8.set d (.cells [lv'])) l=some (.loop fr n [7] assign body .busy none):=by rw[Ag hld];exact m6.1
   have ht:T.take i++[T[i]]=T.take (i+1):=by rw[List.take_add_one,List.getElem?_eq_getElem hil];rfl
   rw[ht]at g6;exact⟨⟨_,g6'⟩,g6.loop (σ':=(σ8.set d (.cells [lv'])).set l (.loop fr n [7] assign body .ready none)) g6' htl (fun y hy=>Ag hy)⟩
  ·rintro _ σ5 ⟨g1,g2⟩
   rw[List.take_of_length_le (by omega)]at g1;have hdel:∀y,y≠l→(σ5.del l) y=σ5 y:=fun y hy=>by simp only[St.del];rw[if_neg hy]
   have g3:=g1.loop g2 htl hdel;unfold Mc;rw[g2];refine⟨(by intro h;cases h),?_⟩;unfold Qz
   dsimp only
   obtain⟨_,lv,k1,k2,k3⟩:=g3;simp only[go_sem,Aa,f2,k1];exact Ad (r:=lv) rfl ⟨k2,k3⟩
 exact hm.post (by kernel_rfl) fun r σ' ⟨h1,h2⟩=>⟨_,_,Fs h1 h2,rfl,rfl⟩
theorem Zj(h:TB σ t T lim)(hT:TOk T lim)(h1:σ b1=some (.cells [ptr t]))(h2:σ b2=some (.cells [fnv 117])):AT Tryz.prog 75 [Q2 b1 b2] σ fun r σ'=>r= .sl 4 (faC T)∧σ'=σ:=by
 refine AT.ob Tryz.func75 rfl ?_;simp only[go_sem];refine(Adw h hT h1 h2).mono ?_;rintro _ σ ⟨rfl,rfl⟩;simp only[go_sem];exact Ad (r:=.sl 4 _) rfl ⟨rfl,rfl⟩
end
structure ES where
 me:ByteArray
 names:List ByteArray
 rules:List Rl
 T:List Fa
 lim:Int
 B:List De
 given:List Fa
 queue:List Fa
 outs:List (Fa×Bool)
 full:Bool
structure EA where
 t:Nat
 b:Nat
 gv:AV
 qv:AV
 ov:AV
def ouC(l:List (Fa×Bool)):List (List AV):=l.map fun x=>x.1.cs++[boo x.2]
@[go_sem] theorem Hj(l:List (Fa×Bool)):(ouC l).length=l.length:=by simp[ouC]
theorem Acz{l:List (Fa×Bool)}{i:Nat}(h:i<l.length):(ouC l).getD i []=l[i].1.cs++[boo l[i].2]:=by simp[ouC,List.getD_eq_getElem?_getD,h]
def evC(r:Bool)(s:ES)(a:EA)(hv:Bool):List AV:=str s.me::.sl 1 (stC s.names)::.sl 11 (rlC s.rules)::ptr a.t::ptr a.b::a.gv::a.qv::a.ov::boo s.full::(if r=true then[boo hv]else[])
def bkT(r:Bool)(B:List De):B7:=.cells (.sl 6 (deC B)::(if r=true then[]else[boo true]))
def Bn(x:Nat)(a:EA)(y:Nat):Prop:=y=x∨y=a.t∨y=a.b∨Own a.gv y∨Io a.qv y∨Own a.ov y
structure EV(r:Bool)(σ:St)(x:Nat)(a:EA)(s:ES)(hv:Bool):Prop where
 cx:σ x=some (.cells (evC r s a hv))
 ct:σ a.t=some (tbC s.T s.lim)
 cb:σ a.b=some (bkT r s.B)
 cg:if r=true then a.gv= .sl 4 (faC s.given)else LAt 4 σ a.gv (faC s.given)
 cq:LQ 4 σ a.qv (faC s.queue)
 co:LAt 5 σ a.ov (ouC s.outs)
 xt:x≠a.t
 xb:x≠a.b
 tb:a.t≠a.b
 gq:∀y,Own a.gv y→¬Io a.qv y
def Frm(x:Nat)(a a':EA)(σ σ':St):Prop:=∀y o,σ y=some o→¬Bn x a y→σ' y=some o∧¬Bn x a' y
theorem Frm.refl{x:Nat}{a:EA}{σ:St}:Frm x a a σ σ:=fun _ _ h n=>⟨h,n⟩
theorem Frm.trans{x:Nat}{a1 a2 a3:EA}{σ1 σ2 σ3:St}(h:Frm x a1 a2 σ1 σ2)(k:Frm x a2 a3 σ2 σ3):Frm x a1 a3 σ1 σ3:=fun y o hy hn=>k y o (h y o hy hn).1 (h y o hy hn).2
section
variable{r hv hv':Bool}{σ σ' σ1:St}{x:Nat}{a:EA}{s:ES}
theorem Acc(h1:a.gv.one=true)(h2:a.qv.one=true)(h3:a.ov.one=true):(evC r s a hv).all AV.one=true:=by
 cases r with
 |true=>
  show(true&&(true&&(true&&(true&&(true&&(a.gv.one&&(a.qv.one&&(a.ov.one&&(true&&(true&&true))))))))))=true;rw[h1,h2,h3];rfl
 |false=>
  show(true&&(true&&(true&&(true&&(true&&(a.gv.one&&(a.qv.one&&(a.ov.one&&(true&&true)))))))))=true;rw[h1,h2,h3];rfl
theorem EV.gone(h:EV r σ x a s hv):a.gv.one=true:=by
 have:=h.cg;split at this
 ·rw[this];rfl
 ·exact this.one
theorem EV.all1(h:EV r σ x a s hv):(evC r s a hv).all AV.one=true:=Acc h.gone h.cq.one h.co.one
theorem EV.grow(h:EV r σ x a s hv){y:Nat}(ho:Own a.gv y):∃cap,σ y=some (.rows 4 (faC s.given) false cap):=by
 have:=h.cg;split at this
 ·rw[this]at ho;exact absurd ho Gj
 ·exact this.own_rows ho
theorem EV.rowG(h:EV r σ x a s hv){y:Nat}{cs:List AV}(hy:σ y=some (.cells cs)):¬Own a.gv y:=fun ho=>by
 obtain⟨c,hc⟩:=h.grow ho;rw[hy]at hc;cases hc
theorem EV.goq(h:EV r σ x a s hv){y:Nat}(ho:Own a.ov y):¬Own a.gv y∧¬Io a.qv y:=by
 obtain⟨c,hc⟩:=h.co.own_rows ho;constructor
 ·intro h1
  obtain⟨c',h1⟩:=h.grow h1;rw[hc]at h1;cases h1
 ·intro h1
  obtain⟨rs,c',h1⟩:=h.cq.rows h1;rw[hc]at h1;cases h1
theorem EV.keep(h:EV r σ x a s hv)(hs:∀y o,σ y=some o→Bn x a y→σ' y=some o):EV r σ' x a s hv where
 cx:=hs _ _ h.cx (.inl rfl)
 ct:=hs _ _ h.ct (.inr (.inl rfl))
 cb:=hs _ _ h.cb (.inr (.inr (.inl rfl)))
 cg:=by
  have:=h.cg;split at this
  ·rename_i e;rw[if_pos e];exact this
  ·rename_i e;rw[if_neg e];exact this.keep fun y o hy ho=>hs y o hy (.inr (.inr (.inr (.inl ho))))
 cq:=h.cq.keep fun y o hy ho=>hs y o hy (.inr (.inr (.inr (.inr (.inl ho)))))
 co:=h.co.keep fun y o hy ho=>hs y o hy (.inr (.inr (.inr (.inr (.inr ho)))))
 xt:=h.xt
 xb:=h.xb
 tb:=h.tb
 gq:=h.gq
theorem EV.more(h:EV r σ x a s hv)(hs:∀y o,σ y=some o→σ' y=some o):EV r σ' x a s hv:=h.keep fun y o hy _=>hs y o hy
theorem EV.noX(h:EV r σ x a s hv):¬Own a.gv x∧¬Io a.qv x∧¬Own a.ov x:=⟨h.rowG h.cx,h.cq.not_cells h.cx,h.co.not_own h.cx⟩
theorem EV.noT(h:EV r σ x a s hv):¬Own a.gv a.t∧¬Io a.qv a.t∧¬Own a.ov a.t:=⟨h.rowG h.ct,h.cq.not_cells h.ct,h.co.not_own h.ct⟩
theorem EV.noB(h:EV r σ x a s hv):¬Own a.gv a.b∧¬Io a.qv a.b∧¬Own a.ov a.b:=⟨h.rowG h.cb,h.cq.not_cells h.cb,h.co.not_own h.cb⟩
theorem EV.setX(h:EV r σ x a s hv){f:Bool}:EV r (σ.set x (.cells (evC r {s with full:=f} a hv'))) x a {s with full:=f} hv' where
 cx:=Ab
 ct:=by rw[Ag h.xt.symm];exact h.ct
 cb:=by rw[Ag h.xb.symm];exact h.cb
 cg:=by
  have:=h.cg;split at this
  ·rename_i e;rw[if_pos e];exact this
  ·rename_i e;rw[if_neg e];exact this.keep fun y o hy ho=>by rw[Ag (fun e=>by rw[e]at ho;exact h.noX.1 ho)];exact hy
 cq:=h.cq.keep fun y o hy ho=>by rw[Ag (fun e=>by rw[e]at ho;exact h.noX.2.1 ho)];exact hy
 co:=h.co.keep fun y o hy ho=>by rw[Ag (fun e=>by rw[e]at ho;exact h.noX.2.2 ho)];exact hy
 xt:=h.xt
 xb:=h.xb
 tb:=h.tb
 gq:=h.gq
theorem EV.setT(h:EV r σ x a s hv){T:List Fa}:EV r (σ.set a.t (tbC T s.lim)) x a {s with T:=T} hv where
 cx:=by rw[Ag h.xt];exact h.cx
 ct:=Ab
 cb:=by rw[Ag h.tb.symm];exact h.cb
 cg:=by
  have:=h.cg;split at this
  ·rename_i e;rw[if_pos e];exact this
  ·rename_i e;rw[if_neg e];exact this.keep fun y o hy ho=>by rw[Ag (fun e=>by rw[e]at ho;exact h.noT.1 ho)];exact hy
 cq:=h.cq.keep fun y o hy ho=>by rw[Ag (fun e=>by rw[e]at ho;exact h.noT.2.1 ho)];exact hy
 co:=h.co.keep fun y o hy ho=>by rw[Ag (fun e=>by rw[e]at ho;exact h.noT.2.2 ho)];exact hy
 xt:=h.xt
 xb:=h.xb
 tb:=h.tb
 gq:=h.gq
theorem EV.setB(h:EV r σ x a s hv){B:List De}:EV r (σ.set a.b (bkT r B)) x a {s with B:=B} hv where
 cx:=by rw[Ag h.xb];exact h.cx
 ct:=by rw[Ag h.tb];exact h.ct
 cb:=Ab
 cg:=by
  have:=h.cg;split at this
  ·rename_i e;rw[if_pos e];exact this
  ·rename_i e;rw[if_neg e];exact this.keep fun y o hy ho=>by rw[Ag (fun e=>by rw[e]at ho;exact h.noB.1 ho)];exact hy
 cq:=h.cq.keep fun y o hy ho=>by rw[Ag (fun e=>by rw[e]at ho;exact h.noB.2.1 ho)];exact hy
 co:=h.co.keep fun y o hy ho=>by rw[Ag (fun e=>by rw[e]at ho;exact h.noB.2.2 ho)];exact hy
 xt:=h.xt
 xb:=h.xb
 tb:=h.tb
 gq:=h.gq
theorem Frm.setX{o:B7}:Frm x a a σ (σ.set x o):=fun y p hy hn=>⟨by rw[Ag (fun e=>hn (.inl e))];exact hy,hn⟩
theorem Frm.setT{o:B7}:Frm x a a σ (σ.set a.t o):=fun y p hy hn=>⟨by rw[Ag (fun e=>hn (.inr (.inl e)))];exact hy,hn⟩
theorem Frm.setB{o:B7}:Frm x a a σ (σ.set a.b o):=fun y p hy hn=>⟨by rw[Ag (fun e=>hn (.inr (.inr (.inl e))))];exact hy,hn⟩
theorem Frm.of(h:∀y o,σ y=some o→σ' y=some o):Frm x a a σ σ':=fun y o hy hn=>⟨h y o hy,hn⟩
theorem EV.setQ(h:EV r σ x a s hv){v:AV}{l:List Fa}(h1:LQ 4 σ1 v (faC l))(hs:∀y o,σ y=some o→¬Io a.qv y→σ1 y=some o∧¬Io v y):
  σ1 x=some (.cells (evC r s a hv))∧EV r (σ1.set x (.cells (evC r {s with queue:=l} {a with qv:=v} hv))) x {a with qv:=v} {s with queue:=l} hv∧Frm x a {a with qv:=v} σ (σ1.set x (.cells (evC r {s with queue:=l} {a with qv:=v} hv))):=by
 have kx:=hs _ _ h.cx h.noX.2.1;have kt:=hs _ _ h.ct h.noT.2.1;have kb:=hs _ _ h.cb h.noB.2.1;refine⟨kx.1,⟨Ab,by rw[Ag h.xt.symm];exact kt.1,by rw[Ag h.xb.symm];exact kb.1,?_,?_,?_,h.xt,h.xb,h.tb,fun y ho=>?_⟩,fun y o hy hn=>?_⟩
 ·have:=h.cg
  split at this
  ·rename_i e;rw[if_pos e];exact this
  ·rename_i e;rw[if_neg e]
   exact this.keep fun y o hy ho=>by rw[Ag (fun e=>by rw[e]at ho;exact h.noX.1 ho)];exact(hs y o hy (h.gq y ho)).1
 ·exact h1.keep fun y o hy ho=>by rw[Ag (fun e=>by rw[e]at ho;exact kx.2 ho)];exact hy
 ·exact h.co.keep fun y o hy ho=>by rw[Ag (fun e=>by rw[e]at ho;exact h.noX.2.2 ho)];exact(hs y o hy (h.goq ho).2).1
 ·obtain⟨c,hc⟩:=h.grow ho
  exact(hs _ _ hc (h.gq y ho)).2
 ·have hq:¬Io a.qv y:=fun e=>hn (.inr (.inr (.inr (.inr (.inl e)))))
  have hx:y≠x:=fun e=>hn (.inl e);have k:=hs y o hy hq;refine⟨by rw[Ag hx];exact k.1,fun hf=>?_⟩;rcases hf with e|e|e|e|e|e
  ·exact hx e
  ·exact hn (.inr (.inl e))
  ·exact hn (.inr (.inr (.inl e)))
  ·exact hn (.inr (.inr (.inr (.inl e))))
  ·exact k.2 e
  ·exact hn (.inr (.inr (.inr (.inr (.inr e)))))
theorem EV.setO(h:EV r σ x a s hv){v:AV}{l:List (Fa×Bool)}(h1:LAt 5 σ1 v (ouC l))(hs:∀y o,σ y=some o→¬Own a.ov y→σ1 y=some o∧¬Own v y):
  σ1 x=some (.cells (evC r s a hv))∧EV r (σ1.set x (.cells (evC r {s with outs:=l} {a with ov:=v} hv))) x {a with ov:=v} {s with outs:=l} hv∧Frm x a {a with ov:=v} σ (σ1.set x (.cells (evC r {s with outs:=l} {a with ov:=v} hv))):=by
 have kx:=hs _ _ h.cx h.noX.2.2;have kt:=hs _ _ h.ct h.noT.2.2;have kb:=hs _ _ h.cb h.noB.2.2;refine⟨kx.1,⟨Ab,by rw[Ag h.xt.symm];exact kt.1,by rw[Ag h.xb.symm];exact kb.1,?_,?_,?_,h.xt,h.xb,h.tb,h.gq⟩,fun y o hy hn=>?_⟩
 ·have:=h.cg
  split at this
  ·rename_i e;rw[if_pos e];exact this
  ·rename_i e;rw[if_neg e]
   exact this.keep fun y o hy ho=>by rw[Ag (fun e=>by rw[e]at ho;exact h.noX.1 ho)];exact(hs y o hy (fun e=>(h.goq e).1 ho)).1
 ·exact h.cq.keep fun y o hy ho=>by rw[Ag (fun e=>by rw[e]at ho;exact h.noX.2.1 ho)];exact(hs y o hy (fun e=>(h.goq e).2 ho)).1
 ·exact h1.keep fun y o hy ho=>by rw[Ag (fun e=>by rw[e]at ho;exact kx.2 ho)];exact hy
 ·have hq:¬Own a.ov y:=fun e=>hn (.inr (.inr (.inr (.inr (.inr e)))))
  have hx:y≠x:=fun e=>hn (.inl e);have k:=hs y o hy hq;refine⟨by rw[Ag hx];exact k.1,fun hf=>?_⟩;rcases hf with e|e|e|e|e|e
  ·exact hx e
  ·exact hn (.inr (.inl e))
  ·exact hn (.inr (.inr (.inl e)))
  ·exact hn (.inr (.inr (.inr (.inl e))))
  ·exact hn (.inr (.inr (.inr (.inr (.inl e)))))
  ·exact k.2 e
end
theorem T3{v:ByteArray}{c:Cn}{k:List Bi}:∀{e:List Bi},Ff e v=some c→Ff (e++k) v=some c
 | [],h=>by cases h
 |x::e,h=>by
  rw[List.cons_append];unfold Ff at h⊢;split
  ·rename_i h1;rw[if_pos h1]at h;exact h
  ·rename_i h1;rw[if_neg h1]at h;exact T3 h
theorem Aqd{t:Tm}{c:Cn}{e k:List Bi}(h:Dq t e=some c):Dq t (e++k)=some c:=by
 unfold Dq at h⊢;split
 ·rename_i h1;rw[if_pos h1]at h;cases h
 ·rename_i h1
  rw[if_neg h1]at h;split
  ·rename_i h2;rw[if_pos h2]at h;exact h
  ·rename_i h2;rw[if_neg h2]at h;exact T3 h
theorem Y7:∀{l:List Tm} {env:List Bi} {a:List Cn},Ec l env=some a→a.length=l.length
 | [],env,a,h=>by injection h with h;subst h;rfl
 |t::l,env,a,h=>by
  unfold Ec at h;split at h
  ·obtain⟨b,h1,rfl⟩:=Option.map_eq_some_iff.1 h
   rw[List.length_cons,List.length_cons,Y7 h1]
  ·cases h
def Rl.S4(r:Rl):Prop:=r.S3∧r.ar.length≤300
theorem W6{ho:Tm}{ls:List Li}{xs:List Fa}{e:List Bi}{i:Nat}(h1:i<ls.length)(h2:i<xs.length):Jp ho (ls.drop i) (xs.drop i) e=(Bo ho ls[i] xs[i] e).bind (Jp ho (ls.drop (i+1)) (xs.drop (i+1))):=by
 rw[List.drop_eq_getElem_cons h1,List.drop_eq_getElem_cons h2];rfl
theorem W5{ho:Tm}{ls:List Li}{xs:List Fa}{e:List Bi}{i:Nat}(h1:i=ls.length)(h2:i=xs.length):Jp ho (ls.drop i) (xs.drop i) e=some e:=by
 rw[List.drop_eq_nil_of_le (by omega),List.drop_eq_nil_of_le (by omega)];rfl
theorem X9{r:Rl}{env:List Bi}{f:Fa}(hr:r.S4)(h:Fb r env=some f):f.Sm:=by
 unfold Fb at h;obtain⟨b,_,h⟩:=Option.bind_eq_some_iff.1 h;obtain⟨a,_,h⟩:=Option.bind_eq_some_iff.1 h;obtain⟨l,hl,rfl⟩:=Option.map_eq_some_iff.1 h;have:=hr.2;show l.length≤1000000000000;rw[Y7 hl];omega
def hdE(me:ByteArray)(r:Rl)(body:List Fa):Option Fa:=(Bm r.ho (nmC me) []).bind fun e0=>(Jp r.ho r.bo body e0).bind (Fb r)
structure SOk(n:Nat)(s:ES):Prop where
 tok:TOk s.T s.lim
 tl:(s.T.length:Int)≤s.lim
 lm:s.lim≤4096
 br:C4 Bf s.B
 bo:s.B.length+s.outs.length≤n
 bs:∀d∈s.B,d.Sm
 ql:s.queue.length≤n
 qs:∀f∈s.queue,f.Sm
 os:∀o∈s.outs,o.1.Sm
 gr:C4 Ar s.given
 gl:s.given.length≤1000000
 gs:∀f∈s.given,f.Sm
 rs:∀r∈s.rules,r.S4
 rl:s.rules.length≤1000000
 nl:s.names.length≤1000000
theorem SOk.bl{n:Nat}{s:ES}(h:SOk n s):s.B.length≤n:=by have:=h.bo;omega
theorem SOk.ol{n:Nat}{s:ES}(h:SOk n s):s.outs.length≤n:=by have:=h.bo;omega
theorem SOk.bok{n:Nat}{s:ES}(h:SOk n s)(hn:n≤900000000000):BOk s.B:=⟨h.br,Nat.le_trans h.bl hn,h.bs⟩
def Fx(s:ES)(i:Nat)(body:List Fa):ES:=match hdE s.me (s.rules.getD i ⟨.zero,emp,[],.zero,[]⟩) body with
 |none=>s
 |some f=>if f.at'∈s.names∧okF f=true then
   if(⟨i,f,body⟩:De)∈s.B then s
   else if f.at'=s.me then(if f∈s.T then{s with B:=Bd Bf ⟨i,f,body⟩ s.B}else{s with B:=Bd Bf ⟨i,f,body⟩ s.B,queue:=s.queue++[f]})
   else(if 0<(ofF s.B f).length then{s with B:=Bd Bf ⟨i,f,body⟩ s.B}else{s with B:=Bd Bf ⟨i,f,body⟩ s.B,outs:=s.outs++[(f,false)]})
  else s
section
variable{σ:St}{x:Nat}{a:EA}{s:ES}{n:Nat}
theorem Dy(h:EV false σ x a s false):AT Tryz.prog 55 [ptr x] σ fun v σ'=>v=boo false∧σ'=σ:=by
 refine AT.ob Tryz.func55 rfl ?_;have hx:=h.cx;have g3:(evC false s a false).getD 3 (.v undef)=ptr a.t:=rfl;have ln:(evC false s a false).length=9:=rfl;simp only[go_sem,hx,g3,ln];exact Ad (r:=boo false) rfl ⟨rfl,rfl⟩
theorem Agn(h:EV false σ x a s false)(hs:SOk n s)(i:Nat)(hi:i<s.rules.length)(body:List Fa)(hb:body.length=s.rules[i].bo.length):AT Tryz.prog 106 [ptr x,int i,.sl 4 (faC body)] σ fun v σ'=>v=L3 (hdE s.me s.rules[i] body)∧σ'=σ:=by
 refine AT.ob Tryz.func106 rfl ?_;have hx:=h.cx;have g2:(evC false s a false).getD 2 (.v undef)= .sl 11 (rlC s.rules):=rfl;have g0:(evC false s a false).getD 0 (.v undef)=str s.me:=rfl;have ln:(evC false s a false).length=9:=rfl;obtain⟨r,hr⟩:∃r,r=s.rules[i]:=⟨_,rfl⟩;have hr4:=hs.rs _ (List.getElem_mem hi);rw[←hr]at hr4 hb⊢;have rg:(rlC s.rules).getD i []=r.cs:=by rw[hr];exact C7 hi
 have hr1:=hr4.1.1;have hr2:=hr4.1.2;have har:=hr4.2;have bl:=Am body;simp only[go_sem];refine Ctx.nil.alloc fun p σ1 c1=>?_;have hx1:=c1.sub _ _ hx;simp only[go_sem,hx1,g2,ln,rg];refine⟨by omega,c1.alloc fun q σ2 c2=>?_⟩;obtain⟨σ3,e3,c3⟩:=c2.abs 0 rfl (.cells r.cs);have hq:=c3.g1.1.1;have hp:=c3.g1.1.2;have hx3:=c3.sub _ _ hx;have hsb:=c3.sub;have fp:=c3.f1;simp only[go_sem,c2.g1,e3];clear e3 c2 c1;refine Ae [.rd 0 false,.rd 1 true,.rd 2 false,.rd 3 false,.rd 4 false,.rd 5 true,.rd 6 false,.ef 7 [],.rd 8 false,.rd 9 false,.rd 10 false,.rd 11 false,.rd 12 false] ?_;simp only[go_sem,hq,hx3,g0,ln];refine(AT.weak (K6 r.ho (nmC s.me) [] (by simp)) (vws_same (vws_same (vws_cons (.nil 4) By)))).mono ?_;rintro _ σ3 ⟨rfl,rfl⟩;have fail:∀{fr:Fr} {σ3:St},fr 6=ptr p→fr 7=boo false→(∀y o,σ y=some o→σ3 y=some o)→σ3 p=some (.cells [str emp,str emp,str emp,A0])→hdE s.me r body=none→D3 Tryz.prog (fun v σ'=>v=L3 (hdE s.me r body)∧σ'=σ) (Tryz.f106).results.toList fr σ3:=fun h4 h5 hs hq hn=>
  Dr σ (L3 none) h4 hq tk30 rfl rfl (by rw[h5];exact Px hs _) ⟨by rw[hn],rfl⟩
 have hsp:∀{o:B7},∀y p',σ y=some p'→(σ3.set p o) y=some p':=fun y p' hy=>by
  rw[Ag (fun e=>by rw[e,fp]at hy;cases hy)];exact hsb y p' hy
 obtain⟨ok0,E0,hE0,hok0⟩:∃(ok0:Bool) (E0:List Bi),Ie (Bm r.ho (nmC s.me) [])= .tup [.sl 4 (biC E0),boo ok0]∧(ok0=true→Bm r.ho (nmC s.me) []=some E0∧E0.length≤1)∧(ok0=false→Bm r.ho (nmC s.me) []=none):=by
  cases hu:Bm r.ho (nmC s.me) []with
  |none=>exact⟨false,[],rfl,fun h=>(by cases h),fun _=>rfl⟩
  |some e=>
   have:=Gr hu;exact⟨true,e,rfl,fun _=>⟨rfl,by simpa using this⟩,fun h=>(by cases h)⟩
 rw[hE0];simp only[go_sem,Aa];refine⟨fun m fr σ'=>∃(j:Nat) (ok:Bool) (e:List Bi),m=body.length-j∧j≤body.length∧(ok=true→e.length≤10+302*j∧(Bm r.ho (nmC s.me) []).bind (Jp r.ho r.bo body)=Jp r.ho (r.bo.drop j) (body.drop j) e)∧(ok=false→(Bm r.ho (nmC s.me) []).bind (Jp r.ho r.bo body)=none)∧σ'=σ3∧fr 2= .sl 4 (faC body)∧fr 6=ptr p∧fr 8=ptr q∧fr 9= .sl 4 (biC e)∧fr 10=boo ok∧fr 11=int j,⟨_,0,ok0,E0,rfl,by omega,fun h=>?_,fun h=>by rw[hok0.2 h];rfl,rfl,rfl,rfl,rfl,rfl,rfl,rfl⟩,?_⟩
 ·obtain⟨h1,h2⟩:=hok0.1 h
  exact⟨by omega,by rw[h1];rfl⟩
 clear hE0 hok0;have hdn:∀{o:Option (List Bi)},(Bm r.ho (nmC s.me) []).bind (Jp r.ho r.bo body)=o→hdE s.me r body=o.bind (Fb r):=fun{o} h=>by
  unfold hdE;rw[←h];cases Bm r.ho (nmC s.me) []<;>rfl
 rintro m fr σ3 ⟨j,ok,e,rfl,hj,hok1,hok2,rfl,f2,f6,f8,f9,f10,f11⟩;cases ok with
 |false=>
  have hn:=hdn (hok2 rfl);simp only[go_sem,Aa,f10,Bool.not_false,f6,hp];exact fail f6 rfl hsp Ab hn
 |true=>
  obtain⟨hel,hck⟩:=hok1 rfl;by_cases hjl:j<body.length
  ·have d1:=decide_eq_true (show(j:Int)<body.length by omega)
   have hjr:j<r.bo.length:=by omega
   have hla:=hr2 _ (List.getElem_mem hjr);rw[W6 hjr hjl]at hck;simp only[go_sem,Aa,f2,f10,f11,bl,d1];refine Ae [.rd 0 false,.rd 1 true,.rd 2 false,.rd 3 true,.rd 4 false,.rd 5 false,.rd 6 true,.rd 7 false,.rd 8 false,.rd 9 false,.rd 10 true,.rd 11 false,.ef 12 [],.rd 13 false,.rd 14 false,.rd 15 false,.rd 16 false,.rd 17 false] ?_;simp only[go_sem,Aa,f2,f8,f9,f11,hq,Et hjr,Au hjl,bl];refine⟨by omega,by omega,(Ahd r.ho r.bo[j] body[j] e (by omega) (by omega)).mono ?_⟩;rintro _ σ3 ⟨rfl,rfl⟩;have nx:=Ai (show j<9223372036854775807 by omega);cases hl:Bo r.ho r.bo[j] body[j] e with
   |none=>
    rw[hl]at hck;have hck:(Bm r.ho (nmC s.me) []).bind (Jp r.ho r.bo body)=none:=hck;simp only[go_sem,Aa,Option.isSome_none,f2,f6,f8,f11,nx];refine⟨body.length-(j+1),by omega,j+1,false,[],rfl,by omega,(fun h=>by cases h),fun _=>hck,?_⟩
    (and_intros<;>first|assumption|rfl|omega)
   |some e2=>
    rw[hl]at hck;have hck:(Bm r.ho (nmC s.me) []).bind (Jp r.ho r.bo body)=Jp r.ho (r.bo.drop (j+1)) (body.drop (j+1)) e2:=hck;have:=Qs hl;simp only[go_sem,Aa,Option.isSome_some,f2,f6,f8,f11,nx];refine⟨body.length-(j+1),by omega,j+1,true,e2,rfl,by omega,fun _=>⟨by omega,hck⟩,(fun h=>by cases h),?_⟩
    (and_intros<;>first|assumption|rfl|omega)
  ·have d1:=decide_eq_false (show¬(j:Int)<body.length by omega)
   rw[W5 (by omega) (by omega)]at hck;have hn:=hdn hck;simp only[go_sem,Aa,f2,f10,f11,bl,d1,Bool.not_true,f8,f9,hq];refine(Ak8 r e (by omega) (by omega)).mono ?_;rintro _ σ3 ⟨rfl,rfl⟩;simp only[go_sem,f6,hp];exact Dr σ (L3 (Fb r e)) f6 Ab tk30 rfl rfl (Aq hsp) ⟨by rw[hn];rfl,rfl⟩
end
section
variable{σ:St}{x:Nat}{a:EA}{s:ES}{n:Nat}
@[go_sem] theorem Aqs(s:ES)(a:EA):(evC false s a false).length=9:=rfl
@[go_sem] theorem Aus(s:ES)(a:EA):(evC false s a false).getD 0 (.v undef)=str s.me:=rfl
@[go_sem] theorem Aut(s:ES)(a:EA):(evC false s a false).getD 1 (.v undef)= .sl 1 (stC s.names):=rfl
@[go_sem] theorem Auu(s:ES)(a:EA):(evC false s a false).getD 2 (.v undef)= .sl 11 (rlC s.rules):=rfl
@[go_sem] theorem Auv(s:ES)(a:EA):(evC false s a false).getD 3 (.v undef)=ptr a.t:=rfl
@[go_sem] theorem Auw(s:ES)(a:EA):(evC false s a false).getD 4 (.v undef)=ptr a.b:=rfl
@[go_sem] theorem Aux(s:ES)(a:EA):(evC false s a false).getD 5 (.v undef)=a.gv:=rfl
@[go_sem] theorem Auy(s:ES)(a:EA):(evC false s a false).getD 6 (.v undef)=a.qv:=rfl
@[go_sem] theorem Auz(s:ES)(a:EA):(evC false s a false).getD 7 (.v undef)=a.ov:=rfl
@[go_sem] theorem Au0(s:ES)(a:EA):(evC false s a false).getD 8 (.v undef)=boo s.full:=rfl
theorem Fm{l:List Rl}{i:Nat}(h:i<l.length)(d:Rl):l.getD i d=l[i]:=by simp[List.getD_eq_getElem?_getD,h]
theorem X4(h:EV false σ x a s false)(hs:SOk n s)(hn:n≤800000000000)(i:Nat)(hi:i<s.rules.length)(body:List Fa)(hb:body.length=s.rules[i].bo.length)(hbs:∀y∈body,y.Sm):
  AT Tryz.prog 54 [ptr x,int i,.sl 4 (faC body)] σ fun _ σ'=>∃a',EV false σ' x a' (Fx s i body) false∧Frm x a a' σ σ':=by
 refine AT.ob Tryz.func54 rfl ?_;have hf0:Fx s i body=match hdE s.me s.rules[i] body with
   |none=>s
   |some f=>if f.at'∈s.names∧okF f=true then
     if(⟨i,f,body⟩:De)∈s.B then s
     else if f.at'=s.me then(if f∈s.T then{s with B:=Bd Bf ⟨i,f,body⟩ s.B}else{s with B:=Bd Bf ⟨i,f,body⟩ s.B,queue:=s.queue++[f]})
     else(if 0<(ofF s.B f).length then{s with B:=Bd Bf ⟨i,f,body⟩ s.B}else{s with B:=Bd Bf ⟨i,f,body⟩ s.B,outs:=s.outs++[(f,false)]})
    else s:=by unfold Fx;rw[Fm hi];first|done|rfl
 have hr4:=hs.rs _ (List.getElem_mem hi);have hbl2:=hr4.1.1;have hnl:=hs.nl;simp only[go_sem];refine(Agn h hs i hi body hb).mono ?_;rintro _ σ ⟨rfl,rfl⟩;simp only[go_sem];refine Ctx.nil.alloc fun p σ1 c1=>?_;obtain⟨σ2,e2,c2⟩:=c1.abs 0 rfl (.cells ((hdE s.me s.rules[i] body).getD .nil).cs);have hp:=c2.g0;have hsb:=c2.sub;have fp:=c1.f0;simp only at hp;simp only[go_sem,c1.g0,e2];clear e2 c2 c1;have stay:Fx s i body=s→∀{fr:Fr} {σ':St},(∀y o,σ y=some o→σ' y=some o)→Bb Tryz.prog fr σ' (Tryz.f54).results.toList=some (.tup [])→D3 Tryz.prog (fun _ σ'=>∃a',EV false σ' x a' (Fx s i body) false∧Frm x a a' σ σ') (Tryz.f54).results.toList fr σ':=fun e _ _ h2 hr=>
  Ad hr ⟨a,by rw[e];exact h.more h2,.of h2⟩
 refine Ae [.rd 0 false,.rd 1 false,.rd 2 false,.rd 3 false,.rd 4 false,.rd 5 false,.rd 6 true,.rd 7 false,.rd 8 true,.ef 9 [],.rd 10 false,.rd 11 false,.rd 12 false,.rd 13 true,.ef 14 [],.rd 15 false,.rd 16 false] ?_;cases hh:hdE s.me s.rules[i] body with
 |none=>
  rw[hh]at hf0;simp only[go_sem,Option.isSome_none,Bool.not_false];exact stay hf0 hsb rfl
 |some f=>
 rw[hh]at hf0 hp;simp only[Option.getD_some]at hf0 hp;have hfs:f.Sm:=by
  unfold hdE at hh;obtain⟨_,_,hh⟩:=Option.bind_eq_some_iff.1 hh;obtain⟨_,_,hh⟩:=Option.bind_eq_some_iff.1 hh;exact X9 hr4 hh
 have h2:=h.more hsb;have hx2:=h2.cx;simp only[go_sem,Option.isSome_some,Bool.not_true,hx2,hp];refine(Z1 (l:=s.names) (s:=f.at') (by omega) .sl).mono ?_;rintro _ σ2 ⟨rfl,rfl⟩;by_cases hnm:f.at'∈s.names
 case neg=>
  rw[if_neg fun h=>hnm h.1]at hf0;simp only[go_sem,decide_eq_false hnm,Bool.not_false];exact stay hf0 hsb rfl
 simp only[go_sem,decide_eq_true hnm,Bool.not_true,hp];refine(Q9 f).mono ?_;rintro _ σ2 ⟨rfl,rfl⟩;cases hok:okF f with
 |false=>
  have e1:okE f=40:=by unfold okE;rw[hok];rfl
  have d2:(!decide (okE f=0))=true:=by rw[e1];rfl
  rw[if_neg fun h=>by rw[hok]at h;cases h.2]at hf0;simp only[go_sem,d2];exact stay hf0 hsb rfl
 |true=>
 have e1:okE f=0:=by unfold okE;rw[hok];rfl
 have d2:(!decide (okE f=0))=false:=by rw[e1];rfl
 rw[if_pos ⟨hnm,hok⟩]at hf0;simp only[go_sem,d2];refine Ae [.rd 0 false,.rd 1 false,.rd 2 false,.rd 3 true,.rd 4 true,.ef 5 [],.rd 6 false,.rd 7 false,.rd 8 false] ?_;simp only[go_sem,hx2,hp];have hbk:=hs.bok (by omega);refine(Acw (show BK σ2 a.b s.B from h2.cb) hbk f hfs).mono ?_;rintro _ σ2 ⟨rfl,rfl⟩;obtain⟨d,hd⟩:∃d:De,d=⟨i,f,body⟩:=⟨_,rfl⟩;have hds:d.Sm:=by rw[hd];exact⟨hfs,by show body.length≤1000000000000;omega,hbs⟩
 rw[←hd]at hf0;simp only[go_sem,At];refine Ae [.rd 0 false,.rd 1 false,.rd 2 false,.rd 3 true,.rd 4 false,.rd 5 true,.rd 6 false,.rd 7 false,.ef 8 [],.rd 9 false] ?_;simp only[go_sem,hx2,hp];refine⟨Nat.le_refl 5,?_⟩;show AT Tryz.prog 107 [ptr a.b,.agg (De.mk i f body).cs] _ _;rw[←hd];refine(Ai5 (show BK σ2 a.b s.B from h2.cb) hbk d hds).mono ?_;rintro _ σ3 ⟨rfl,rfl⟩;by_cases hm:d∈s.B
 ·rw[if_pos hm]at hf0
  have e:σ2.set a.b (bkC (Bd Bf d s.B))=σ2:=by
   rw[Gk A7 (Gd A7 hbk.rises) hbk.rises fun y=>by rw[Es A7];exact⟨fun h=>h.elim (fun e=>e▸hm) _root_.id,.inr⟩];exact Bp h2.cb
  rw[e];simp only[go_sem,decide_eq_true hm,Bool.not_true,Bool.not_false];exact stay hf0 hsb rfl
 rw[if_neg hm]at hf0;have hpb:p≠a.b:=fun e=>by rw[e,h.cb]at fp;cases fp
 have h3:=h2.setB (B:=Bd Bf d s.B);have hp3:(σ2.set a.b (bkT false (Bd Bf d s.B))) p=some (.cells f.cs):=by rw[Ag hpb];exact hp
 have F3:Frm x a a σ (σ2.set a.b (bkT false (Bd Bf d s.B))):=(Frm.of hsb).trans .setB;rw[show bkC (Bd Bf d s.B)=bkT false (Bd Bf d s.B)from rfl];obtain⟨s1,hs1⟩:∃s1:ES,s1={s with B:=Bd Bf d s.B}:=⟨_,rfl⟩;rw[←hs1]at h3;have m1:s1.me=s.me:=by rw[hs1]
 have q1:s1.queue=s.queue:=by rw[hs1]
 have o1:s1.outs=s.outs:=by rw[hs1]
 generalize σ2.set a.b (bkT false (Bd Bf d s.B))=σ3 at h3 hp3 F3;have hx3:=h3.cx;have done:Fx s i body=s1→∀{fr:Fr},Bb Tryz.prog fr σ3 (Tryz.f54).results.toList=some (.tup [])→D3 Tryz.prog (fun _ σ'=>∃a',EV false σ' x a' (Fx s i body) false∧Frm x a a' σ σ') (Tryz.f54).results.toList fr σ3:=fun e _ hr=>
  Ad hr ⟨a,by rw[e];exact h3,F3⟩
 simp only[go_sem,Aa,decide_eq_false hm,Bool.not_false,Bool.not_true];refine Ae [.rd 0 false,.rd 1 true,.rd 2 false,.rd 3 false,.rd 4 false,.rd 5 true,.rd 6 false,.rd 7 false,.rd 8 false,.rd 9 false,.rd 10 false,.rd 11 false] ?_;by_cases hat:f.at'=s.me
 ·rw[if_pos hat]at hf0
  have d4:(!decide (f.at'=s.me))=false:=by rw[decide_eq_true hat];rfl
  simp only[go_sem,Aa,hx3,hp3,m1,d4];refine Ae [.rd 0 false,.rd 1 true,.rd 2 false,.rd 3 false,.rd 4 false,.rd 5 true,.rd 6 false,.rd 7 false,.rd 8 false,.rd 9 false,.rd 10 false,.rd 11 true,.rd 12 true,.ef 13 [],.rd 14 false,.rd 15 false,.rd 16 false] ?_;simp only[go_sem,Aa,hx3,hp3,m1,decide_eq_true hat];have ht3:TB σ3 a.t s1.T s1.lim:=h3.ct;have htok:TOk s1.T s1.lim:=by rw[hs1];exact hs.tok
  refine(Oj ht3 htok f hfs).mono ?_;rintro _ σ3 ⟨rfl,rfl⟩;have T1:s1.T=s.T:=by rw[hs1]
  rw[T1];by_cases hin:f∈s.T
  ·rw[if_pos hin]at hf0
   simp only[go_sem,Aa,decide_eq_true hin,Bool.not_true];exact done (by rw[hf0,hs1]) rfl
  ·rw[if_neg hin]at hf0
   simp only[go_sem,Aa,decide_eq_false hin,Bool.not_false];refine Ae [.rd 0 false,.rd 1 false,.rd 2 false,.rd 3 false,.rd 4 true,.rd 5 true,.rd 6 false,.ef 7 [],.rd 8 false,.rd 9 false,.ef 10 []] ?_;simp only[go_sem,Aa,hx3,hp3];have hql:=hs.ql;refine As (ys:=[f.cs]) rfl (by decide) (by decide) (by decide) (h3.cq.app (by decide) (by simp) (by rw[Am,q1];simp only[List.length_cons,List.length_nil];omega) fun v' σ4 k1 k2=>?_);rw[show faC s1.queue++[f.cs]=faC (s1.queue++[f]) by simp[faC]]at k1;obtain⟨kx,kE,kF⟩:=h3.setQ k1 k2;have esp:Ay (evC false s1 a false) 6 [v']=evC false {s1 with queue:=s1.queue++[f]} {a with qv:=v'} false:=rfl;simp only[go_sem,Aa,kx,k1.one,k1.cells,esp,kE.all1];refine Ad (r:=.tup []) rfl ⟨_,?_,F3.trans kF⟩;rw[hf0];rw[hs1]at kE⊢;exact kE
 ·rw[if_neg hat]at hf0
  have d4:(!decide (f.at'=s.me))=true:=by rw[decide_eq_false hat];rfl
  by_cases hwas:0<(ofF s.B f).length
  ·rw[if_pos hwas]at hf0
   have d5:=decide_eq_true (show(0:Int)<(ofF s.B f).length by omega);simp only[go_sem,Aa,hx3,hp3,m1,d4,d5,Bool.not_true];refine Ae [.rd 0 false,.rd 1 true,.rd 2 false,.rd 3 false,.rd 4 false,.rd 5 true,.rd 6 false,.rd 7 false,.rd 8 false,.rd 9 false,.rd 10 false,.rd 11 true,.rd 12 true,.ef 13 [],.rd 14 false,.rd 15 false,.rd 16 false] ?_;simp only[go_sem,Aa,hx3,hp3,m1,decide_eq_false hat];exact done (by rw[hf0,hs1]) rfl
  ·rw[if_neg hwas]at hf0
   have d5:=decide_eq_false (show¬(0:Int)<(ofF s.B f).length by omega);simp only[go_sem,Aa,hx3,hp3,m1,d4,d5,Bool.not_false];refine Ae [.rd 0 false,.rd 1 false,.rd 2 false,.rd 3 false,.rd 4 true,.rd 5 true,.rd 6 false,.rd 7 false,.ef 8 [],.rd 9 false,.rd 10 false,.ef 11 []] ?_;simp only[go_sem,Aa,hx3,hp3];have hol:=hs.ol;refine⟨rfl,rfl,?_⟩;refine As (ys:=[f.cs++[boo false]]) rfl (by decide) (by decide) (by decide) (h3.co.app (by rw[Hj,o1];simp only[List.length_cons,List.length_nil];omega) fun v' σ4 k1 k2=>?_);rw[show ouC s1.outs++[f.cs++[boo false]]=ouC (s1.outs++[(f,false)]) by simp[ouC]]at k1;obtain⟨kx,kE,kF⟩:=h3.setO k1 k2;have esp:Ay (evC false s1 a false) 7 [v']=evC false {s1 with outs:=s1.outs++[(f,false)]} {a with ov:=v'} false:=rfl;simp only[go_sem,Aa,kx,k1.one,k1.cells,esp,kE.all1];refine Ad (r:=.tup []) rfl ⟨_,?_,F3.trans kF⟩;rw[hf0];rw[hs1]at kE⊢;exact kE
end
section
variable{σ σ1:St}{x:Nat}{a:EA}{s:ES}{n:Nat}
theorem EV.lg(h:EV false σ x a s false):LAt 4 σ a.gv (faC s.given):=h.cg
theorem EV.setG(h:EV false σ x a s false){v:AV}{l:List Fa}(h1:LAt 4 σ1 v (faC l))(hs:∀y o,σ y=some o→¬Own a.gv y→σ1 y=some o∧¬Own v y):
  σ1 x=some (.cells (evC false s a false))∧EV false (σ1.set x (.cells (evC false {s with given:=l} {a with gv:=v} false))) x {a with gv:=v} {s with given:=l} false∧Frm x a {a with gv:=v} σ (σ1.set x (.cells (evC false {s with given:=l} {a with gv:=v} false))):=by
 have kx:=hs _ _ h.cx h.noX.1;have kt:=hs _ _ h.ct h.noT.1;have kb:=hs _ _ h.cb h.noB.1;have nq:∀y,Io a.qv y→¬Own a.gv y:=fun y ho hg=>h.gq y hg ho;refine⟨kx.1,⟨Ab,by rw[Ag h.xt.symm];exact kt.1,by rw[Ag h.xb.symm];exact kb.1,?_,?_,?_,h.xt,h.xb,h.tb,fun y ho hq=>?_⟩,fun y o hy hn=>?_⟩
 ·show LAt 4 _ v (faC l)
  exact h1.keep fun y o hy ho=>by rw[Ag (fun e=>by rw[e]at ho;exact kx.2 ho)];exact hy
 ·exact h.cq.keep fun y o hy ho=>by rw[Ag (fun e=>by rw[e]at ho;exact h.noX.2.1 ho)];exact(hs y o hy (nq y ho)).1
 ·exact h.co.keep fun y o hy ho=>by rw[Ag (fun e=>by rw[e]at ho;exact h.noX.2.2 ho)];exact(hs y o hy (h.goq ho).1).1
 ·obtain⟨rs,c,hc⟩:=h.cq.rows hq
  exact(hs _ _ hc (nq y hq)).2 ho
 ·have hq:¬Own a.gv y:=fun e=>hn (.inr (.inr (.inr (.inl e))))
  have hx:y≠x:=fun e=>hn (.inl e);have k:=hs y o hy hq;refine⟨by rw[Ag hx];exact k.1,fun hf=>?_⟩;rcases hf with e|e|e|e|e|e
  ·exact hx e
  ·exact hn (.inr (.inl e))
  ·exact hn (.inr (.inr (.inl e)))
  ·exact k.2 e
  ·exact hn (.inr (.inr (.inr (.inr (.inl e)))))
  ·exact hn (.inr (.inr (.inr (.inr (.inr e)))))
def G6(s:ES)(f:Fa):Int×ES:=if okF f=true then(if f.at'=s.me then(if f∈s.given then(151,s)else(0,{s with given:=Ba Ar [] (s.given++[f]),queue:=s.queue++[f]}))else(250,s))else(40,s)
theorem Rs(h:EV false σ x a s false)(hs:SOk n s)(hn:n≤800000000000)(f:Fa):
  AT Tryz.prog 16 [ptr x,.agg f.cs] σ fun r σ'=>r=int (G6 s f).1∧∃a',EV false σ' x a' (G6 s f).2 false∧Frm x a a' σ σ':=by
 refine AT.ob Tryz.func16 rfl ?_;simp only[go_sem];refine Ctx.nil.alloc fun p σ2 c2=>?_;have hp:=c2.g0;have hsb:=c2.sub;have fp:=c2.f0;clear c2;have h2:=h.more hsb;simp only[go_sem];refine(Dy h2).mono ?_;rintro _ σ2 ⟨rfl,rfl⟩;have stay:∀{k:Int},G6 s f=(k,s)→∀{fr:Fr},Bb Tryz.prog fr σ2 (Tryz.f16).results.toList=some (int k)→D3 Tryz.prog (fun r σ'=>r=int (G6 s f).1∧∃a',EV false σ' x a' (G6 s f).2 false∧Frm x a a' σ σ') (Tryz.f16).results.toList fr σ2:=fun e _ hr=>
  Ad hr ⟨by rw[e],a,by rw[e];exact h2,.of hsb⟩
 simp only[go_sem,hp];refine(Q9 f).mono ?_;rintro _ σ2 ⟨rfl,rfl⟩;have hx2:=h2.cx;cases hok:okF f with
 |false=>
  have e1:okE f=40:=by unfold okE;rw[hok];rfl
  have d2:(!decide (okE f=0))=true:=by rw[e1];rfl
  simp only[go_sem,d2];exact stay (by unfold G6;rw[hok];rfl) (by rw[e1];rfl)
 |true=>
 have e1:okE f=0:=by unfold okE;rw[hok];rfl
 have d2:(!decide (okE f=0))=false:=by rw[e1];rfl
 have hfs:=Vr hok;simp only[go_sem,d2];refine Ae [.rd 0 false,.rd 1 true,.rd 2 false,.rd 3 false,.rd 4 false,.rd 5 true,.rd 6 false] ?_;simp only[go_sem,hp,hx2];by_cases hat:f.at'=s.me
 case neg=>
  simp only[go_sem,decide_eq_false hat];exact stay (by unfold G6;rw[hok,if_pos rfl,if_neg hat]) rfl
 simp only[go_sem,decide_eq_true hat];refine Ae [.rd 0 false,.rd 1 false,.rd 2 false,.rd 3 true,.rd 4 true,.ef 5 []] ?_;simp only[go_sem,hp,hx2];have hgl:=hs.gl;refine(Rw s.given f (.of h2.lg) (by omega) hs.gs hfs).mono ?_;rintro _ σ2 ⟨rfl,rfl⟩;by_cases hin:f∈s.given
 ·simp only[go_sem,decide_eq_true hin]
  exact stay (by unfold G6;rw[hok,if_pos rfl,if_pos hat,if_pos hin]) rfl
 have hfr:G6 s f=(0,{s with given:=Ba Ar [] (s.given++[f]),queue:=s.queue++[f]}):=by unfold G6;rw[hok,if_pos rfl,if_pos hat,if_neg hin]
 have hfl:f.ar.length≤1000000000000:=hfs;simp only[go_sem,decide_eq_false hin,hp];refine(Ht f.ar hfl).mono ?_;rintro _ σ2 ⟨rfl,rfl⟩;have esp:Ay f.cs 3 [.sl 3 (cnC f.ar)]=f.cs:=rfl;have eid:σ2.set p (.cells f.cs)=σ2:=Bp hp;simp only[go_sem,hp,esp,eid];refine Ae [.rd 0 false,.rd 1 false,.rd 2 false,.rd 3 false,.rd 4 true,.rd 5 true,.rd 6 false,.ef 7 [],.ef 8 [],.rd 9 false,.rd 10 false,.ef 11 []] ?_;simp only[go_sem,hp,hx2];refine As (ys:=[f.cs]) rfl (by decide) (by decide) (by decide) (h2.lg.app (by rw[Am];simp only[List.length_cons,List.length_nil];omega) fun v' σ3 k1 k2=>?_);rw[show faC s.given++[f.cs]=faC (s.given++[f]) by simp[faC]]at k1;simp only[go_sem];refine(H8 (s.given++[f]) (.of k1) (by rw[List.length_append];simp only[List.length_cons,List.length_nil];omega) (fun y hy=>?_)).mono ?_
 ·rcases List.mem_append.1 hy with hy|hy
  ·exact hs.gs y hy
  ·rw[List.mem_singleton.1 hy];exact hfs
 rintro v2 σ4 hM;obtain⟨kx,kE,kF⟩:=h2.setG hM.1.lat fun y o hy ho=>hM.grow _ _ (k2 y o hy ho).1;have hp4:=(hM.2.1 _ _ (k2 _ _ hp (h2.lg.not_own hp)).1);have hpx:p≠x:=fun e=>by rw[e,h.cx]at fp;cases fp
 have esp:Ay (evC false s a false) 5 [v2]=evC false {s with given:=Ba Ar [] (s.given++[f])} {a with gv:=v2} false:=rfl;simp only[go_sem,kx,hM.1.lat.one,hM.1.lat.cells,esp,kE.all1];have F3:=(Frm.of hsb).trans kF;obtain⟨s1,hs1⟩:∃s1:ES,s1={s with given:=Ba Ar [] (s.given++[f])}:=⟨_,rfl⟩;rw[←hs1]at kE F3⊢;have q1:s1.queue=s.queue:=by rw[hs1]
 have hp5:(σ4.set x (.cells (evC false s1 {a with gv:=v2} false))) p=some (.cells f.cs):=by rw[Ag hpx];exact hp4
 clear kx kF;generalize σ4.set x (.cells (evC false s1 {a with gv:=v2} false))=σ5 at kE F3 hp5⊢;have hx5:=kE.cx;have hql:=hs.ql;refine Ae [.rd 0 false,.rd 1 false,.rd 2 false,.rd 3 false,.rd 4 true,.rd 5 true,.rd 6 false,.ef 7 [],.rd 8 false,.rd 9 false,.ef 10 []] ?_;simp only[go_sem,hx5,hp5];refine As (ys:=[f.cs]) rfl (by decide) (by decide) (by decide) (kE.cq.app (by decide) (by simp) (by rw[Am,q1];simp only[List.length_cons,List.length_nil];omega) fun v' σ4 k1 k2=>?_);rw[show faC s1.queue++[f.cs]=faC (s1.queue++[f]) by simp[faC]]at k1;obtain⟨kx,kE,kF⟩:=kE.setQ k1 k2;have esp:Ay (evC false s1 {a with gv:=v2} false) 6 [v']=evC false {s1 with queue:=s1.queue++[f]} {a with gv:=v2,qv:=v'} false:=rfl;simp only[go_sem,kx,k1.one,k1.cells,esp,kE.all1];refine Ad (r:=int 0) rfl ⟨by rw[hfr],_,?_,F3.trans kF⟩;rw[hfr];rw[hs1]at kE⊢;exact kE
end
theorem Alq{B:List De}{base:List Fa}{s:List Fa×Bool}{d:De}(hd:d∈B)(h:LyF B base s.1):LyF B base (Eg s d).1:=by
 unfold Eg
 repeat' split
 ·exact h
 ·exact h.step hd
 ·exact h
theorem Ada{B:List De}{base:List Fa}:∀(l:List De) (s:List Fa×Bool),(∀d∈l,d∈B)→LyF B base s.1→LyF B base (l.foldl Eg s).1
 | [],s,_,h=>h
 |d::l,s,hl,h=>Ada l _ (fun e he=>hl e (List.mem_cons_of_mem _ he)) (Alq (hl d (by simp)) h)
theorem Agw{B:List De}{base:List Fa}:∀(n:Nat) (out:List Fa),LyF B base out→LyF B base (Ph B n out)
 |0,out,h=>h
 |n+1,out,h=>by
  have h1:LyF B base (rnd B out).1:=Ada B (out,false) (fun d hd=>hd) h;unfold Ph;split
  ·exact Agw n _ h1
  ·exact h1
theorem Mm(B:List De)(base:List Fa):LyF B base (C8 B base):=Agw _ _ ⟨B9 An .nil,fun x hx=>by
 rw[Bl An]at hx;simp at hx;exact .inl hx⟩
def Qg(s:ES):List Fa:=(C8 s.B (s.given.filter fun g=>decide (g∈s.T))).filter fun y=>decide (y∈s.T)
section
variable{σ:St}{x p:Nat}{a:EA}{s:ES}{n:Nat}
theorem Agl(h:EV false σ x a s false)(hs:SOk n s)(hp:σ p=some (.cells [ptr x]))(f:Fa)(hf:f.Sm):AT Tryz.prog 131 [.agg f.cs,ptr p] σ fun r σ'=>r=boo (!decide (f∈s.T))∧σ'=σ:=by
 refine AT.ob Tryz.func131 rfl ?_;simp only[go_sem];refine Ctx.nil.alloc fun q σ1 c1=>?_;have h1:=h.more c1.sub;have hx1:=h1.cx;have hq:=c1.g0;have hp1:=c1.sub _ _ hp;have ht1:TB σ1 a.t s.T s.lim:=h1.ct;refine Ae [.rd 0 true,.rd 1 false,.rd 2 false,.rd 3 true,.rd 4 true,.ef 5 [],.rd 6 false,.rd 7 false] ?_;simp only[go_sem,hp1,hq,hx1];refine(Oj ht1 hs.tok f hf).mono ?_;rintro _ σ1 ⟨rfl,rfl⟩;simp only[go_sem];exact Af (r:=boo (!decide (f∈s.T))) rfl _ σ (Aq c1.sub) ⟨rfl,rfl⟩
theorem Xz(h:EV false σ x a s false)(hs:SOk n s)(hn:n≤800000000000)(w:AV):AT Tryz.prog 76 [ptr x,w] σ fun r σ'=>r= .sl 4 (faC (Qg s))∧σ'=σ:=by
 have hm:AT Tryz.prog 76 [ptr x,w] σ fun r σ'=>LAt 4 σ' r (faC (Qg s))∧Cd σ σ' r:=by
  refine AT.ob Tryz.func76 rfl ?_;simp only[go_sem];refine Ctx.nil.alloc fun p σ1 c1=>?_;have hp:=c1.g0;have h1:=h.more c1.sub;have hx1:=h1.cx;have hgl:=hs.gl;have hbk:=hs.bok (by omega);have hR:Rd 4 σ1 a.gv (faC s.given):=.of h1.lg;have s1:=c1.sub;simp only[go_sem,hp,hx1,hR.len,Am];refine⟨fun m fr σ'=>∃(i:Nat) (lv:AV),m=s.given.length-i∧i≤s.given.length∧LAt 4 σ' lv (faC ((s.given.take i).filter fun g=>decide (g∈s.T)))∧Cd σ1 σ' lv∧fr 2=ptr p∧fr 5=lv∧fr 12=a.gv∧fr 13=int s.given.length∧fr 14=int i,⟨_,0,A0,rfl,by omega,.none,.nil,rfl,rfl,rfl,rfl,rfl⟩,?_⟩;rintro m fr σ2 ⟨i,lv,rfl,hi,hL,hG,f2,f5,f12,f13,f14⟩;have hR2:=hR.keep hG.sub;have h2:=h1.more hG.sub;have hp2:=hG.sub _ _ hp;have hx2:=h2.cx;simp only[go_sem,f13,f14];refine aIf_by (fun hlt=>?_) (fun hlt=>?_)
  ·have hil:i<s.given.length:=by omega
   have hsm:=hs.gs _ (List.getElem_mem hil);simp only[go_sem,Aa,f12,f14];refine hR2.elem (by omega) (by rw[Am];omega) fun e0 he0=>?_;simp only[go_sem,Aa];refine he0.load (by decide) (by rw[Int.toNat_natCast,Au hil];exact Nat.le_refl 4) ?_;simp only[go_sem,Aa,Au hil];refine Ctx.nil.alloc fun q σ3 c3=>?_;obtain⟨σ4,e4,c4⟩:=c3.abs 0 rfl (.cells s.given[i].cs);have hq:σ4 q=some (.cells s.given[i].cs):=c4.g0;have h4:=h2.more c4.sub;have hx4:=h4.cx;have hp4:=c4.sub _ _ hp2;have L4:LAt 4 σ4 lv _:=hL.keep fun y o hy _=>c4.sub y o hy;have G4:Cd σ1 σ4 lv:=fun y o hy=>⟨c4.sub _ _ (hG y o hy).1,(hG y o hy).2⟩;have ht4:TB σ4 a.t s.T s.lim:=h4.ct;simp only[go_sem,Aa,c3.g0,e4];clear e4 c4 c3 he0;refine Ae [.rd 0 true,.rd 1 false,.rd 2 false,.rd 3 true,.rd 4 true,.ef 5 []] ?_;simp only[go_sem,Aa,f2,hp4,hx4,hq];refine(Oj ht4 hs.tok s.given[i] hsm).mono ?_;rintro _ σ4 ⟨rfl,rfl⟩;have et:=Ia (p:=fun g=>decide (g∈s.T)) hil;have nx:=Ai (show i<9223372036854775807 by omega);by_cases hm:s.given[i]∈s.T
   ·rw[if_pos (decide_eq_true hm)]at et
    simp only[go_sem,Aa,decide_eq_true hm,f5,hq];have tl:((s.given.take i).filter fun g=>decide (g∈s.T)).length≤s.given.length:=Mk;refine As (ys:=[s.given[i].cs]) rfl (by decide) (by decide) (by decide) (L4.app (by rw[Am];simp only[List.length_cons,List.length_nil];omega) fun lv' σ5 hL5 hs5=>?_);have e5:faC ((s.given.take i).filter fun g=>decide (g∈s.T))++[s.given[i].cs]=faC ((s.given.take (i+1)).filter fun g=>decide (g∈s.T)):=by rw[et];simp[faC]
    rw[e5]at hL5;have G5:=G4.step hs5;simp only[go_sem,Aa,f14,nx];exact⟨s.given.length-(i+1),by omega,i+1,lv',rfl,by omega,hL5,G5,f2,rfl,f12,f13,rfl⟩
   ·rw[if_neg (by simpa using hm),List.append_nil]at et
    simp only[go_sem,Aa,decide_eq_false hm,f14,nx];exact⟨s.given.length-(i+1),by omega,i+1,lv,rfl,by omega,by rw[et];exact L4,G4,f2,f5,f12,f13,rfl⟩
  ·rw[List.take_of_length_le (by omega)]at hL
   obtain⟨bs,hbs⟩:∃bs,bs=s.given.filter fun g=>decide (g∈s.T):=⟨_,rfl⟩;have hbl:bs.length≤s.given.length:=by rw[hbs];exact List.length_filter_le _ _
   have hbm:∀y∈bs,y.Sm:=fun y hy=>hs.gs y (by rw[hbs]at hy;exact(List.mem_filter.1 hy).1);have eN:Qg s=(C8 s.B bs).filter fun y=>decide (y∈s.T):=by rw[hbs];rfl
   rw[←hbs]at hL;have ly:=Mm s.B bs;have hb2:BK σ2 a.b s.B:=h2.cb;simp only[go_sem,Aa,f2,hp2,hx2,f5];refine(Zx hb2 hbk bs (.of hL) (by omega) hbm).mono ?_;rintro v σ3 ⟨k1,k2,k3⟩;have hbl':=hs.bl;have hlen:(C8 s.B bs).length≤1000000000000:=by have:=ly.len;omega
   simp only[go_sem,Aa];simp only[Eh,Cv];simp only[go_sem,Aa,f2];refine(U8 (β:=σ1) (C8 s.B bs) (fun y=>!decide (y∈s.T)) k1 hlen (fun y o hy=>k2 _ _ (hG.sub _ _ hy)) (fun y hy=>Ct hG.sub (k3 y hy)) fun σ' hs' y hy=>Agl (h1.more hs') hs (hs' _ _ hp) y ?_).mono ?_
   ·rcases ly.own y hy with hy|⟨d,hd,e⟩
    ·exact hbm y hy
    ·rw[←e];exact(hs.bs d hd).1
   rintro r σ4 ⟨q1,q2⟩;simp only[go_sem,Aa];simp only[Bool.not_not]at q1;exact Ad (r:=r) rfl ⟨by rw[eN];exact q1,fun y o hy=>q2 y o (s1 y o hy)⟩
 exact hm.post (by kernel_rfl) fun r σ' ⟨h1,h2⟩=>⟨_,_,Fs h1 h2,rfl,rfl⟩
end
def Di(p:ES×List Fa)(d:De):ES×List Fa:=({p.1 with B:=p.1.B.filter fun y=>!decide (y=d)},if d.hd.at'≠p.1.me∧(ofF (p.1.B.filter fun y=>!decide (y=d)) d.hd).length=0 then p.2++[d.hd]else p.2)
def takS(p:ES×List Fa)(g:Fa):ES×List Fa:=({p.1 with T:=(H9 p.1.T g).1},p.2)
def D8(p:ES×List Fa)(g:Fa):ES×List Fa:=(useF p.1.B g).foldl Di (takS p g)
def Fo(s:ES):List Fa:=(Ba Ar [] s.T).filter fun y=>!decide (y∈Qg s)
def Dt(s:ES)(f:Fa):ES:={s with given:=(Ba Ar [] s.given).filter fun y=>!decide (y∈[f])}
def J5(s:ES)(f:Fa):Int×ES:=if f∈s.given then
  (0,{((Fo (Dt s f)).foldl D8 (Dt s f,[])).1 with outs:=((Fo (Dt s f)).foldl D8 (Dt s f,[])).1.outs++(Ba Ar [] ((Fo (Dt s f)).foldl D8 (Dt s f,[])).2).map fun y=>(y,true)})
 else(152,s)
structure GOk(n:Nat)(p:ES×List Fa):Prop where
 ok:SOk n p.1
 le:p.1.B.length+p.1.outs.length+p.2.length≤n
 sm:∀y∈p.2,y.Sm
theorem Zw{α:Type}[DecidableEq α]{d:α}:∀{l:List α},d∈l→(l.filter fun y=>!decide (y=d)).length+1≤l.length
 |a::l,h=>by
  by_cases e:a=d
  ·have:=List.length_filter_le (fun y=>!decide (y=d)) l
   simp only[List.filter_cons,decide_eq_true e,Bool.not_true,List.length_cons];simp only[Bool.false_eq_true,if_false];omega
  ·have h':d∈l:=(List.mem_cons.1 h).resolve_left fun e'=>e e'.symm
   have:=Zw h';simp only[List.filter_cons,decide_eq_false e,Bool.not_false,if_true,List.length_cons];omega
theorem Zk{n:Nat}{p:ES×List Fa}{d:De}(h:GOk n p)(hd:d∈p.1.B):GOk n (Di p d):=by
 have h1:=Zw hd;have h2:=h.le;have hds:=h.ok.bs d hd;refine⟨{h.ok with br:=h.ok.br.filter _,bo:=?_,bs:=fun e he=>h.ok.bs e (List.mem_filter.1 he).1},?_,fun y hy=>?_⟩
 ·show(p.1.B.filter fun y=>!decide (y=d)).length+p.1.outs.length≤n
  omega
 ·show(p.1.B.filter fun y=>!decide (y=d)).length+p.1.outs.length+(Di p d).2.length≤n
  unfold Di;simp only;split
  ·rw[List.length_append];simp only[List.length_cons,List.length_nil];omega
  ·omega
 ·unfold Di at hy
  simp only at hy;split at hy
  ·rcases List.mem_append.1 hy with hy|hy
   ·exact h.sm y hy
   ·rw[List.mem_singleton.1 hy];exact hds.1
  ·exact h.sm y hy
theorem Aoi{T:List Fa}{lim:Int}{g:Fa}(h:TOk T lim):TOk (H9 T g).1 lim∧(H9 T g).1.length≤T.length:=by
 unfold H9;split
 ·have:=List.length_filter_le (fun y=>!decide (y=g)) T
  have hl:=h.len;exact⟨⟨h.rises.filter _,by show(T.filter fun y=>!decide (y=g)).length≤1000000;omega,fun y hy=>h.sm y (List.mem_filter.1 hy).1,h.lim⟩,this⟩
 ·exact⟨h,Nat.le_refl _⟩
theorem Aba{n:Nat}{p:ES×List Fa}{g:Fa}(h:GOk n p):GOk n (takS p g):=by
 have:=Aoi (g:=g) h.ok.tok;have h2:=h.ok.tl;exact⟨{h.ok with tok:=this.1,tl:=(by show((H9 p.1.T g).1.length:Int)≤p.1.lim;omega)},h.le,h.sm⟩
theorem Vn{n:Nat}{s:ES}{f:Fa}(h:SOk n s):SOk n (Dt s f):=by
 have h1:=List.length_filter_le (fun y=>!decide (y∈[f])) (Ba Ar [] s.given);have h2:=Br (c:=Ar) (s:=[]) (l:=s.given);have h3:=h.gl;simp only[List.length_nil]at h2
 exact{h with gr:=(B9 An .nil).filter _,gl:=(by show((Ba Ar [] s.given).filter fun y=>!decide (y∈[f])).length≤1000000;omega),gs:=fun y hy=>h.gs y (by
  have:=(List.mem_filter.1 hy).1;rw[Bl An]at this;simpa using this)}
theorem Le{α β:Type}{f:β→α→β}{l:List α}{k:Nat}(z:β)(h:k<l.length):(l.take (k+1)).foldl f z=f ((l.take k).foldl f z) l[k]:=by
 rw[List.take_add_one,List.getElem?_eq_getElem h];simp only[Option.toList,List.foldl_append,List.foldl_cons,List.foldl_nil]
theorem Va{p:ES×List Fa}{d e:De}(he:e∈p.1.B)(hn:e≠d):e∈(Di p d).1.B:=List.mem_filter.2 ⟨he,by simpa using hn⟩
theorem Rk{e:De}:∀(l:List De) (p:ES×List Fa),e∈p.1.B→e∉l→e∈(l.foldl Di p).1.B
 | [],p,h,_=>h
 |d::l,p,h,hn=>Rk l (Di p d) (Va h fun e=>hn (by simp[e])) fun h=>hn (List.mem_cons_of_mem _ h)
theorem Acq{α:Type}{l:List α}(h:l.Nodup){k:Nat}(hk:k<l.length):l[k]∉l.take k:=fun hm=>by
 rw[List.mem_take_iff_getElem]at hm;obtain⟨i,hi,e⟩:=hm;exact List.pairwise_iff_getElem.1 h i k (by omega) hk (by omega) e
section
variable{σ:St}{t:Nat}{B:List De}
theorem Yn(h:RK σ t B)(hB:BOk B)(base:List Fa)(hl:base.length≤50000000000)(hls:∀f∈base,f.Sm):AT Tryz.prog 89 [ptr t,.sl 4 (faC base)] σ fun v σ'=>v= .sl 4 (faC (C8 B base))∧σ'=σ:=by
 refine AT.ob Tryz.func89 rfl ?_;have hbs:=hB.sm;have hbl:=hB.len;have h0:σ t=some (.cells [.sl 6 (deC B)]):=h;have sm:∀{out:List Fa},LyF B base out→∀y∈out,y.Sm:=fun h y hy=>by
  rcases h.own y hy with h|⟨d,hd,rfl⟩
  ·exact hls y h
  ·exact(hbs d hd).1
 simp only[go_sem];refine(Aax base (by omega) hls).mono ?_;rintro _ σ ⟨rfl,rfl⟩
 have hY0:LyF B base (Ba Ar [] base):=⟨B9 An .nil,fun x hx=>by
  rcases(Bl An).1 hx with h|h
  ·exact .inl h
  ·cases h⟩
 have hk0:P6 B (Ba Ar [] base)<B.length+1:=Nat.lt_succ_of_le (List.length_filter_le _ _);obtain⟨fin,hfin⟩:∃fin,fin=C8 B base:=⟨_,rfl⟩;have hf0:Ph B (B.length+1) (Ba Ar [] base)=fin:=by rw[hfin];rfl
 rw[←hfin];obtain⟨out0,ho0⟩:∃o,o=Ba Ar [] base:=⟨_,rfl⟩;rw[←ho0]at hY0 hk0 hf0⊢;simp only[go_sem,Aa];refine⟨fun m fr σ'=>∃(out:List Fa) (mr:Bool),σ'=σ∧LyF B base out∧(mr=true→P6 B out<m∧Ph B m out=fin)∧(mr=false→out=fin)∧fr 0=ptr t∧fr 5= .sl 4 (faC out)∧fr 6=boo mr,⟨B.length+1,out0,true,rfl,hY0,fun _=>⟨hk0,hf0⟩,fun e=>(by cases e),rfl,rfl,rfl⟩,?_⟩;clear hY0 hk0 hf0 hfin ho0;rintro m fr σ ⟨out,mr,rfl,hY,hm1,hm2,f0,f5,f6⟩;simp only[go_sem,f6];refine aIf_bool (fun hmr=>?_) (fun hmr=>?_)
 ·obtain⟨hlk,hfu⟩:=hm1 hmr
  obtain⟨n,rfl⟩:∃n,m=n+1:=⟨m-1,by omega⟩;simp only[go_sem,Aa];refine⟨fun mm fr σ'=>∃(i:Nat) (o:List Fa) (more:Bool),mm=B.length-i∧i≤B.length∧(B.take i).foldl Eg (out,false)=(o,more)∧σ'=σ∧LyF B base o∧fr 0=ptr t∧fr 5= .sl 4 (faC o)∧fr 6=boo more∧fr 7=int i,⟨_,0,out,false,rfl,by omega,rfl,rfl,hY,f0,f5,rfl,rfl⟩,?_⟩;clear hY hm1 hm2 f0 f5 f6 fr;rintro mm fr σ ⟨i,o,more,rfl,hi,hfo,rfl,hY,f0,f5,f6,f7⟩;simp only[go_sem,f0,f7,h0,At];refine aIf_by (fun hlt=>?_) (fun hlt=>?_)
  ·have hil:i<B.length:=by omega
   obtain⟨d,hd⟩:∃d,d=B[i]:=⟨_,rfl⟩;have hdm:d∈B:=by rw[hd];exact List.getElem_mem hil
   have hds:=hbs d hdm;have hol:=hY.len;have nx:=Ai (show i<9223372036854775807 by omega);have hfo':(B.take (i+1)).foldl Eg (out,false)=Eg (o,more) d:=by
    rw[List.take_add_one,List.getElem?_eq_getElem hil,List.foldl_append,hfo,hd];rfl
   have dg:(deC B).getD i []=d.cs:=by rw[hd];exact Bv hil
   have hsmo:=sm hY;simp only[go_sem,Aa,f0,f5,f7,h0,dg,At];refine⟨by omega,(Ds o d.hd (by omega) hsmo hds.1).mono ?_⟩;rintro _ σ ⟨rfl,rfl⟩;by_cases hin:d.hd∈o
   ·have er:Eg (o,more) d=(o,more):=by unfold Eg;rw[if_pos hin]
    rw[er]at hfo';simp only[go_sem,Aa,decide_eq_true hin,Bool.not_true,f7,nx];exact⟨B.length-(i+1),by omega,i+1,o,more,rfl,by omega,hfo',hY,f0,f5,f6,rfl⟩
   ·simp only[go_sem,Aa,decide_eq_false hin,Bool.not_false,f0,f5,f7,h0,dg,At]
    refine⟨by omega,(Alm d.bo o hds.2.1 hds.2.2 (by omega) hsmo).mono ?_⟩;rintro _ σ ⟨rfl,rfl⟩;by_cases hall:∀x∈d.bo,x∈o
    ·have er:Eg (o,more) d=(Bd Ar d.hd o,true):=by unfold Eg;rw[if_neg hin,if_pos hall]
     rw[er]at hfo';simp only[go_sem,Aa,decide_eq_true hall,f0,f5,f7,h0,dg,At];refine⟨by omega,(Lu o d.hd (by omega) hsmo hds.1).mono ?_⟩;rintro _ σ ⟨rfl,rfl⟩;simp only[go_sem,Aa,f7,nx];exact⟨B.length-(i+1),by omega,i+1,_,true,rfl,by omega,hfo',hY.step hdm,f0,rfl,rfl,rfl⟩
    ·have er:Eg (o,more) d=(o,more):=by unfold Eg;rw[if_neg hin,if_neg hall]
     rw[er]at hfo';simp only[go_sem,Aa,decide_eq_false hall,f7,nx];exact⟨B.length-(i+1),by omega,i+1,o,more,rfl,by omega,hfo',hY,f0,f5,f6,rfl⟩
  ·rw[List.take_of_length_le (by omega)]at hfo
   have er:rnd B out=(o,more):=hfo;simp only[go_sem,Aa];refine⟨n,by omega,o,more,hY,fun e=>?_,fun e=>?_,f0,f5,f6⟩
   ·have hlt:=Ack (B:=B) (out:=out) (by rw[er];exact e)
    rw[er]at hlt;simp only at hlt;rw[Ph,er]at hfu;simp only at hfu;rw[if_pos e]at hfu;exact⟨by omega,hfu⟩
   ·rw[Ph,er]at hfu
    simp only at hfu;rw[if_neg (by rw[e];decide)]at hfu;exact hfu
 ·simp only[go_sem,Aa,f5]
  exact Ad (r:=.sl 4 _) rfl ⟨by rw[hm2 hmr],rfl⟩
theorem Aib(h:RK σ t B)(hB:BOk B)(d:De)(hd:d.Sm):AT Tryz.prog 92 [ptr t,.agg d.cs] σ fun r σ'=>r=boo (decide (d∈B))∧σ'=σ.set t (rkC (B.filter fun x=>!decide (x=d))):=by
 refine AT.ob Tryz.func92 rfl ?_;have hbl:=hB.len;simp only[go_sem];refine Ctx.nil.alloc fun p σ1 c1=>?_;have hp:=c1.g0;have h1:σ1 t=some (.cells [.sl 6 (deC B)]):=c1.sub _ _ h;have hs:=c1.sub;simp only[go_sem,Aa];refine⟨fun m fr σ'=>∃(i:Nat) (lv:AV),m=B.length-i∧i≤B.length∧LAt 6 σ' lv (deC ((B.take i).filter fun x=>!decide (x=d)))∧Cd σ1 σ' lv∧fr 0=ptr t∧fr 3=ptr p∧fr 5=lv∧fr 6=int i,⟨_,0,A0,rfl,by omega,.none,.nil,rfl,rfl,rfl,rfl⟩,?_⟩;rintro m fr σ2 ⟨i,lv,rfl,hi,hL,hG,f0,f3,f5,f6⟩;have h2:=hG _ _ h1;have hp2:=(hG _ _ hp).1;simp only[go_sem,f0,f6,h2.1,At];refine aIf_by (fun hlt=>?_) (fun hlt=>?_)
 ·have hil:i<B.length:=by omega
  have hsm:=hB.sm _ (List.getElem_mem hil);have et:=Ia (p:=fun x:De=>!decide (x=d)) hil;have nx:=Ai (show i<9223372036854775807 by omega);simp only[go_sem,Aa];refine Ae [.rd 0 false,.rd 1 false,.rd 2 false,.rd 3 true,.rd 4 false,.rd 5 false,.rd 6 true,.rd 7 true,.ef 8 [],.rd 9 false] ?_;simp only[go_sem,Aa,f0,f3,f6,h2.1,hp2,Bv hil,At];refine⟨by omega,(H6 B[i] d hsm hd).mono ?_⟩;rintro _ σ2 ⟨rfl,rfl⟩;by_cases h0:Bf B[i] d=0
  ·have e:=(A7.zero _ _).1 h0
   rw[if_neg (by simpa using e),List.append_nil]at et;simp only[go_sem,Aa,decide_eq_true h0,Bool.not_true,f6,nx];exact⟨B.length-(i+1),by omega,i+1,lv,rfl,by omega,by rw[et];exact hL,hG,f0,f3,f5,rfl⟩
  ·have e:¬B[i]=d:=fun e=>h0 ((A7.zero _ _).2 e)
   rw[if_pos (by simpa using e)]at et;have tl:((B.take i).filter fun x=>!decide (x=d)).length≤B.length:=Mk;simp only[go_sem,Aa,decide_eq_false h0,Bool.not_false,f0,f5,f6,h2.1,Bv hil,At];refine⟨by omega,?_⟩;refine As (ys:=[B[i].cs]) rfl (by decide) (by decide) (by decide) (hL.app (by rw[At];simp only[List.length_cons,List.length_nil];omega) fun lv' σ5 hL5 hs5=>?_);have e5:deC ((B.take i).filter fun x=>!decide (x=d))++[B[i].cs]=deC ((B.take (i+1)).filter fun x=>!decide (x=d)):=by rw[et];simp[deC]
   rw[e5]at hL5;simp only[go_sem,Aa,f6,nx];exact⟨B.length-(i+1),by omega,i+1,lv',rfl,by omega,hL5,hG.step hs5,f0,f3,rfl,rfl⟩
 ·rw[List.take_of_length_le (by omega)]at hL
  have hlen:decide (((B.filter fun x=>!decide (x=d)).length:Int)<B.length)=decide (d∈B):=by
   by_cases hm:d∈B
   ·have:=Zw hm
    rw[decide_eq_true hm,decide_eq_true (by omega)]
   ·have e:B.filter (fun x=>!decide (x=d))=B:=List.filter_eq_self.2 fun x hx=>by
     have:x≠d:=fun e=>hm (e▸hx);simpa using this
    rw[decide_eq_false hm,e,decide_eq_false (by omega)]
  have esp:Ay [.sl 6 (deC B)] 0 [lv]=[lv]:=rfl;have ht3:(σ2.set t (.cells [lv])) t=some (.cells [lv]):=Ab;simp only[go_sem,Aa,f0,f5,h2.1,hL.len,hL.one,hL.cells,esp,At,hlen];refine Af (r:=boo (decide (d∈B))) rfl _ (σ.set t (rkC (B.filter fun x=>!decide (x=d)))) (Jd (cs:=[]) ht3 h (hL.keep fun y o hy ho=>by rw[Ag (fun e=>by rw[e]at ho;exact h2.2 ho)];exact hy) fun y o hne hy=>?_) ⟨rfl,rfl⟩;have k:=hG _ _ (hs _ _ hy);exact⟨by rw[Ag hne];exact k.1,k.2⟩
end
section
variable{σ:St}{t:Nat}{B:List De}
theorem Ajd{l:List De}{f:De}(k:Nat):([]++(deC l).take k)++[f.cs]++(deC l).drop k=deC (l.take k++f::l.drop k):=by
 simp[deC,List.map_take,List.map_drop]
theorem Alk(h:RK σ t B)(hB:BOk B)(d:De)(hd:d.Sm):AT Tryz.prog 176 [ptr t,.agg d.cs] σ fun r σ'=>r=boo (!decide (d∈B))∧σ'=σ.set t (rkC (Bd Bf d B)):=by
 refine AT.ob Tryz.func176 rfl ?_;have hl:=hB.len;have hls:=hB.sm;simp only[go_sem];refine Ctx.nil.alloc fun p σ1 c1=>?_;have hp:=c1.g0;have h1:σ1 t=some (.cells [.sl 6 (deC B)]):=c1.sub _ _ h;have hs:=c1.sub;clear c1;simp only[go_sem,Aa];refine⟨fun m fr σ'=>∃k:Nat,m=B.length-k∧k≤B.length∧σ'=σ1∧(∀i (hi:i<k) (hl:i<B.length),Bf B[i] d<0)∧fr 0=ptr t∧fr 3=ptr p∧fr 5=int k,⟨_,0,rfl,by omega,rfl,fun i hi=>by omega,rfl,rfl,rfl⟩,?_⟩;rintro m fr σ1 ⟨k,rfl,hk,rfl,hI,f0,f3,f5⟩;simp only[go_sem,Aa];refine Ae [.rd 0 false,.rd 1 false,.rd 2 false,.rd 3 false,.rd 4 true,.rd 5 false,.rd 6 false,.rd 7 false,.rd 8 false,.rd 9 false,.rd 10 false,.rd 11 true,.rd 12 false,.rd 13 false,.rd 14 true,.rd 15 true,.ef 16 [],.rd 17 false,.rd 18 false] ?_;by_cases g:∃hk:k<B.length,Bf B[k] d<0
 ·obtain⟨g1,g2⟩:=g
  have d1:=decide_eq_true (show(k:Int)<B.length by omega);have d2:=decide_eq_true g2;simp only[go_sem,Aa,f0,f3,f5,h1,d1,hp,Bv g1,At];refine⟨by omega,(H6 B[k] d (hls _ (List.getElem_mem g1)) hd).mono ?_⟩;rintro _ σ1 ⟨rfl,rfl⟩;simp only[go_sem,Aa,d2,f5,Ai (show k<9223372036854775807 by omega)];have hI':∀i (hi:i<k+1) (hl:i<B.length),Bf B[i] d<0:=fun i hi hl=>by
   by_cases e:i=k
   ·subst e;exact g2
   ·exact hI i (by omega) hl
  exact⟨B.length-(k+1),by omega,k+1,rfl,by omega,hI',f0,f3,rfl⟩
 ·have hn:∀hk:k<B.length,¬Bf B[k] d<0:=fun h1 h2=>g ⟨h1,h2⟩
  have hins:=Hx (c:=Bf) hk hI hn;by_cases h0:∃hk:k<B.length,Bf B[k] d=0
  ·obtain⟨g1,g2⟩:=h0
   rw[if_pos ⟨g1,g2⟩]at hins;have hm:d∈B:=((A7.zero _ _).1 g2)▸List.getElem_mem g1;have d1:=decide_eq_true (show(k:Int)<B.length by omega);have d2:=decide_eq_false (hn g1);have d3:=decide_eq_true g2;simp only[go_sem,Aa,f0,f3,f5,h1,d1,hp,Bv g1,At];refine⟨by omega,(H6 B[k] d (hls _ (List.getElem_mem g1)) hd).mono ?_⟩;rintro _ σ1 ⟨rfl,rfl⟩;simp only[go_sem,Aa,d2];refine Ae [.rd 0 false,.rd 1 false,.rd 2 false,.rd 3 false,.rd 4 true,.rd 5 false,.rd 6 false,.rd 7 false,.rd 8 false,.rd 9 false,.rd 10 false,.rd 11 true,.rd 12 false,.rd 13 false,.rd 14 true,.rd 15 true,.ef 16 [],.rd 17 false,.rd 18 false] ?_;simp only[go_sem,Aa,f0,f3,f5,h1,d1,hp,Bv g1,At];refine⟨by omega,(H6 B[k] d (hls _ (List.getElem_mem g1)) hd).mono ?_⟩;rintro _ σ1 ⟨rfl,rfl⟩;simp only[go_sem,Aa,d3];exact Af (r:=boo false) rfl _ σ (Aq hs) ⟨by rw[decide_eq_true hm];rfl,by rw[hins];exact(Bp h).symm⟩
  ·rw[if_neg h0]at hins
   have hm:d∉B:=fun hm=>by
    obtain⟨i,hi,e⟩:=List.mem_iff_getElem.1 hm;have h3:Bf B[i] d=0:=(A7.zero _ _).2 e;by_cases hik:i<k
    ·have:=hI i hik hi;omega
    ·by_cases e2:i=k
     ·subst e2;exact h0 ⟨hi,h3⟩
     ·have hlt:Bf B[k] B[i]<0:=List.pairwise_iff_getElem.1 hB.rises k i (by omega) hi (by omega)
      rw[e]at hlt;exact hn (by omega) hlt
   by_cases hkl:k<B.length
   case' pos=>
    have d1:=decide_eq_true (show(k:Int)<B.length by omega);have d2:=decide_eq_false (hn hkl);have d3:=decide_eq_false (show¬Bf B[k] d=0 from fun e=>h0 ⟨hkl,e⟩);simp only[go_sem,Aa,f0,f3,f5,h1,d1,hp,Bv hkl,At];refine⟨by omega,(H6 B[k] d (hls _ (List.getElem_mem hkl)) hd).mono ?_⟩;rintro _ σ1 ⟨rfl,rfl⟩;simp only[go_sem,Aa,d2];refine Ae [.rd 0 false,.rd 1 false,.rd 2 false,.rd 3 false,.rd 4 true,.rd 5 false,.rd 6 false,.rd 7 false,.rd 8 false,.rd 9 false,.rd 10 false,.rd 11 true,.rd 12 false,.rd 13 false,.rd 14 true,.rd 15 true,.ef 16 [],.rd 17 false,.rd 18 false] ?_;simp only[go_sem,Aa,f0,f3,f5,h1,d1,hp,Bv hkl,At];refine⟨by omega,(H6 B[k] d (hls _ (List.getElem_mem hkl)) hd).mono ?_⟩;rintro _ σ1 ⟨rfl,rfl⟩;simp only[go_sem,Aa,d3,f0,f5,h1]
   case' neg=>
    have d1:=decide_eq_false (show¬(k:Int)<B.length by omega);simp only[go_sem,Aa,f0,f3,f5,h1,d1,At];refine Ae [.rd 0 false,.rd 1 false,.rd 2 false,.rd 3 false,.rd 4 true,.rd 5 false,.rd 6 false,.rd 7 false,.rd 8 false,.rd 9 false,.rd 10 false,.rd 11 true,.rd 12 false,.rd 13 false,.rd 14 true,.rd 15 true,.ef 16 [],.rd 17 false,.rd 18 false] ?_;simp only[go_sem,Aa,f0,f3,f5,h1,d1,At]
   all_goals
    refine Yt (by omega) (by rw[At];omega) ?_;simp only[go_sem,Aa];refine As (ys:=(deC B).take k) (by simp[src]) (by decide) (by decide) (by decide) (LAt.full.app (by rw[List.length_take,At];simp only[List.length_nil];omega) fun l1 σ2 h2 e1=>?_);have G1:Cd σ1 σ2 l1:=fun y p hy=>e1 y p hy A1;simp only[go_sem,Aa,f3,G1.sub _ _ hp];refine As (ys:=[d.cs]) (by rfl) (by decide) (by decide) (by decide) (h2.app (by rw[List.nil_append,List.length_take,At];simp only[List.length_nil,List.length_cons];omega) fun l2 σ3 h3 e2=>?_);have G2:=G1.step e2;have k3:=(G2 _ _ h1).1;simp only[go_sem,Aa,f0,f5,k3];refine Ys (by omega) (by rw[At];omega) ?_;simp only[go_sem,Aa];refine As (ys:=(deC B).drop k) (by simp[src]) (by decide) (by decide) (by decide) (h3.app (by simp only[List.nil_append,List.length_append,List.length_take,List.length_drop,At,List.length_nil,List.length_cons];omega) fun l3 σ4 h4 e3=>?_);have G3:=G2.step e3;rw[Ajd,←hins]at h4;have k4:=G3 _ _ h1;have esp:Ay [.sl 6 (deC B)] 0 [l3]=[l3]:=rfl;have ht4:(σ4.set t (.cells [l3])) t=some (.cells [l3]):=Ab;simp only[go_sem,Aa,k4.1,h4.one,h4.cells,esp];refine Af (r:=boo true) rfl _ (σ.set t (rkC (Bd Bf d B))) (Jd (cs:=[]) ht4 h (h4.keep fun y o hy ho=>by rw[Ag (fun e=>by rw[e]at ho;exact k4.2 ho)];exact hy) fun y o hne hy=>?_) ⟨by rw[decide_eq_false hm];rfl,rfl⟩;have kk:=G3 _ _ (hs _ _ hy);exact⟨by rw[Ag hne];exact kk.1,kk.2⟩
end
structure SK(s s':ES):Prop where
 me:s'.me=s.me
 names:s'.names=s.names
 rules:s'.rules=s.rules
 T:s'.T=s.T
 lim:s'.lim=s.lim
 given:s'.given=s.given
 full:s'.full=s.full
theorem SK.refl(s:ES):SK s s:=⟨rfl,rfl,rfl,rfl,rfl,rfl,rfl⟩
theorem SK.trans{s s' s'':ES}(h:SK s s')(k:SK s' s''):SK s s'':=⟨k.me.trans h.me,k.names.trans h.names,k.rules.trans h.rules,k.T.trans h.T,k.lim.trans h.lim,k.given.trans h.given,k.full.trans h.full⟩
theorem Tv(s:ES)(i:Nat)(b:List Fa):Fx s i b=s∨∃f q o,hdE s.me (s.rules.getD i ⟨.zero,emp,[],.zero,[]⟩) b=some f∧(⟨i,f,b⟩:De)∉s.B∧okF f=true∧Fx s i b={s with B:=Bd Bf ⟨i,f,b⟩ s.B,queue:=s.queue++q,outs:=s.outs++o}∧(q=[]∨q=[f])∧(o=[]∨o=[(f,false)]):=by
 unfold Fx;cases hh:hdE s.me (s.rules.getD i ⟨.zero,emp,[],.zero,[]⟩) b with
 |none=>exact .inl rfl
 |some f=>
  simp only;by_cases h1:f.at'∈s.names∧okF f=true
  ·rw[if_pos h1]
   by_cases h2:(⟨i,f,b⟩:De)∈s.B
   ·rw[if_pos h2];exact .inl rfl
   ·rw[if_neg h2]
    refine .inr ?_;by_cases h3:f.at'=s.me
    ·rw[if_pos h3]
     by_cases h4:f∈s.T
     ·rw[if_pos h4];exact⟨f,[],[],rfl,h2,h1.2,by simp,.inl rfl,.inl rfl⟩
     ·rw[if_neg h4];exact⟨f,[f],[],rfl,h2,h1.2,by simp,.inr rfl,.inl rfl⟩
    ·rw[if_neg h3]
     by_cases h4:0<(ofF s.B f).length
     ·rw[if_pos h4];exact⟨f,[],[],rfl,h2,h1.2,by simp,.inl rfl,.inl rfl⟩
     ·rw[if_neg h4];exact⟨f,[],[(f,false)],rfl,h2,h1.2,by simp,.inl rfl,.inr rfl⟩
  ·rw[if_neg h1];exact .inl rfl
theorem Agv(s:ES)(i:Nat)(b:List Fa):SK s (Fx s i b):=by
 rcases Tv s i b with h|⟨f,q,o,_,_,_,h,_,_⟩
 ·rw[h];exact .refl s
 ·rw[h];exact⟨rfl,rfl,rfl,rfl,rfl,rfl,rfl⟩
theorem SOk.le{n m:Nat}{s:ES}(h:SOk n s)(hm:n≤m):SOk m s:={h with bo:=Nat.le_trans h.bo hm,ql:=Nat.le_trans h.ql hm}
theorem Rz{n:Nat}{s:ES}(h:SOk n s)(i:Nat){b:List Fa}(hb:b.length≤1000000000000)(hbs:∀y∈b,y.Sm):SOk (n+2) (Fx s i b):=by
 rcases Tv s i b with e|⟨f,q,o,_,hn,hok,e,hq,ho⟩
 ·rw[e];exact h.le (by omega)
 ·have hf:=Vr hok
  rw[e];have hql:q.length≤1∧∀y∈q,y.Sm:=by rcases hq with rfl|rfl<;>simp[hf]
  have hol:o.length≤1∧∀y∈o,y.1.Sm:=by rcases ho with rfl|rfl<;>simp[hf]
  have h1:=h.ql;have h2:=h.bo;refine{h with br:=Gd A7 h.br,bo:=?_,bs:=fun d hd=>?_,ql:=?_,qs:=fun y hy=>?_,os:=fun y hy=>?_}
  ·have:=Nq (c:=Bf) (b:=(⟨i,f,b⟩:De)) (l:=s.B)
   show(Bd Bf ⟨i,f,b⟩ s.B).length+(s.outs++o).length≤n+2;rw[List.length_append];omega
  ·rcases(Es A7).1 hd with rfl|hd
   ·exact⟨hf,hb,hbs⟩
   ·exact h.bs d hd
  ·show(s.queue++q).length≤n+2
   rw[List.length_append];omega
  ·rcases List.mem_append.1 hy with hy|hy
   ·exact h.qs y hy
   ·exact hql.2 y hy
  ·rcases List.mem_append.1 hy with hy|hy
   ·exact h.os y hy
   ·exact hol.2 y hy
def bdS(i:Nat)(l:List (List Fa))(s:ES):ES:=l.foldl (fun s b=>Fx s i b) s
def ltS(me:ByteArray)(f:Fa)(T:List Fa)(i:Nat)(r:Rl)(k:Nat)(s:ES):ES:=(List.range k).foldl (fun s (j:Nat)=>bdS i (Gv r me (j:Int) f T) s) s
def rlZ:Rl:=⟨.zero,emp,[],.zero,[]⟩
def rlS(me:ByteArray)(f:Fa)(T:List Fa)(rules:List Rl)(k:Nat)(s:ES):ES:=(List.range k).foldl (fun s i=>ltS me f T i (rules.getD i rlZ) (rules.getD i rlZ).bo.length s) s
theorem M7{i:Nat}{l:List (List Fa)}{k:Nat}(s:ES)(h:k<l.length):bdS i (l.take (k+1)) s=Fx (bdS i (l.take k) s) i l[k]:=by
 unfold bdS;rw[List.take_add_one,List.getElem?_eq_getElem h];simp only[Option.toList,List.foldl_append,List.foldl_cons,List.foldl_nil]
theorem N1{me:ByteArray}{f:Fa}{T:List Fa}{i:Nat}{r:Rl}{k:Nat}{s:ES}:ltS me f T i r (k+1) s=bdS i (Gv r me k f T) (ltS me f T i r k s):=by
 unfold ltS;rw[List.range_succ,List.foldl_append];rfl
theorem Oe{me:ByteArray}{f:Fa}{T:List Fa}{rules:List Rl}{k:Nat}{s:ES}:rlS me f T rules (k+1) s=ltS me f T k (rules.getD k rlZ) (rules.getD k rlZ).bo.length (rlS me f T rules k s):=by
 unfold rlS;rw[List.range_succ,List.foldl_append];rfl
theorem Fj(i:Nat):∀(l:List (List Fa)) (s:ES),SK s (bdS i l s)
 | [],s=>.refl s
 |b::l,s=>(Agv s i b).trans (Fj i l (Fx s i b))
theorem N0(me:ByteArray)(f:Fa)(T:List Fa)(i:Nat)(r:Rl)(s:ES):∀k,SK s (ltS me f T i r k s)
 |0=>.refl s
 |k+1=>by rw[N1];exact(N0 me f T i r s k).trans (Fj i _ _)
theorem Ky(me:ByteArray)(f:Fa)(T:List Fa)(rules:List Rl)(s:ES):∀k,SK s (rlS me f T rules k s)
 |0=>.refl s
 |k+1=>by rw[Oe];exact(Ky me f T rules s k).trans (N0 me f T k _ _ _)
theorem U4{r:Rl}{me:ByteArray}{j:Int}{f:Fa}{T:List Fa}(hf:f.Sm)(hT:∀y∈T,y.Sm){b:List Fa}(hb:b∈Gv r me j f T):b.length=r.bo.length∧∀y∈b,y.Sm:=by
 unfold Gv at hb;rw[Bl Dh]at hb;have hb:b∈I8 r me j f T:=by simpa using hb
 unfold I8 at hb;split at hb
 ·have:=Vf r.ho r.bo (Cr j f T) (fun k x hx=>by
   unfold Cr at hx;split at hx
   ·rw[List.mem_singleton.1 hx];exact hf
   ·exact hT x hx) (Hh r j) _ (List.replicate r.bo.length .zero) (fun x hx=>by rw[List.eq_of_mem_replicate hx];show([]:List Cn).length≤_;simp) b hb
  rw[List.length_replicate]at this;exact this
 ·cases hb
theorem O4{n:Nat}(i:Nat){m:Nat}(hm:m≤1000000000000):∀(l:List (List Fa)) (s:ES),SOk n s→(∀b∈l,b.length=m∧∀y∈b,y.Sm)→SOk (n+2*l.length) (bdS i l s)
 | [],s,h,_=>h
 |b::l,s,h,hl=>by
  have hb:=hl b (by simp);have:=O4 i hm l (Fx s i b) (Rz h i (by omega) hb.2) fun c hc=>hl c (by simp[hc]);exact this.le (by simp only[List.length_cons];omega)
def Cl(l:List Rl):Nat→Nat
 |0=>0
 |k+1=>Cl l k+(l.getD k rlZ).bo.length
theorem Vp(l:List Rl){i:Nat}:∀{k:Nat},i≤k→Cl l i≤Cl l k
 |0,h=>by rw[Nat.le_zero.1 h];exact Nat.le_refl _
 |k+1,h=>by
  by_cases e:i=k+1
  ·rw[e];exact Nat.le_refl _
  ·have:=Vp l (show i≤k by omega)
   show Cl l i≤Cl l k+_;omega
theorem Ahq{n:Nat}{me:ByteArray}{f:Fa}{T:List Fa}(i:Nat){r:Rl}{s:ES}(h:SOk n s)(hr:r.S4)(hf:f.Sm)(hT:∀y∈T,y.Sm):∀(k:Nat),k≤r.bo.length→(∀j:Nat,j<k→(I8 r me j f T).length≤30001)→SOk (n+k*60002) (ltS me f T i r k s)
 |0,_,_=>h.le (Nat.le_add_right _ _)
 |k+1,hk,hw=>by
  have h1:=Ahq i h hr hf hT k (by omega) fun j hj=>hw j (by omega);have h2:=hw k (by omega);have h3:(Gv r me k f T).length≤30001:=Nat.le_trans Br (by simp only[List.length_nil];omega);have hbo:=hr.1.1;rw[N1];exact(O4 i (m:=r.bo.length) (by omega) _ _ h1 fun b hb=>U4 hf hT hb).le (by omega)
theorem Aii{n:Nat}{me:ByteArray}{f:Fa}{T:List Fa}{rules:List Rl}{s:ES}(h:SOk n s)(hr:∀r∈rules,r.S4)(hf:f.Sm)(hT:∀y∈T,y.Sm):∀(k:Nat),k≤rules.length→(∀i (hi:i<rules.length) (j:Nat),j<rules[i].bo.length→(I8 rules[i] me j f T).length≤30001)→SOk (n+Cl rules k*60002) (rlS me f T rules k s)
 |0,_,_=>by show SOk (n+0*60002) s;exact h.le (Nat.le_add_right _ _)
 |k+1,hk,hw=>by
  have h1:=Aii h hr hf hT k (by omega) hw;have e:rules.getD k rlZ=rules[k]:=Fm (by omega) _;have h2:=Ahq (me:=me) (T:=T) k h1 (hr _ (List.getElem_mem (show k<rules.length by omega))) hf hT rules[k].bo.length (Nat.le_refl _) fun j hj=>hw k (by omega) j hj;rw[Oe];show SOk (n+(Cl rules k+(rules.getD k rlZ).bo.length)*60002) _;rw[e];exact h2.le (by omega)
def Cg(s:ES):Bool×ES:=if s.full=true then(false,s)else match s.queue with
 | []=>(false,s)
 |f::q=>if f∈s.T∨(f∉s.given∧(ofF s.B f).length=0)then(true,{s with queue:=q})
  else if(Cp s.T s.lim f).2=0 then(true,rlS s.me f (Cp s.T s.lim f).1 s.rules s.rules.length {s with queue:=q,T:=(Cp s.T s.lim f).1})
  else(true,{s with queue:=q,T:=(Cp s.T s.lim f).1,full:=true})
theorem Vx{T:List Fa}{lim:Int}{f:Fa}(h:TOk T lim)(hl:(T.length:Int)≤lim)(hm:lim≤4096)(hf:f.Sm):TOk (Cp T lim f).1 lim∧((Cp T lim f).1.length:Int)≤lim:=by
 unfold Cp;have hi:=Nq (c:=Ar) (b:=f) (l:=T)
 repeat' split
 all_goals first|exact⟨h,hl⟩|skip
 refine⟨⟨Gd An h.rises,?_,fun y hy=>?_,h.lim⟩,?_⟩
 ·show(Bd Ar f T).length≤1000000
  omega
 ·rcases(Es An).1 hy with rfl|hy
  ·exact hf
  ·exact h.sm _ hy
 ·show((Bd Ar f T).length:Int)≤lim
  omega
def L6(s:ES):Prop:=s.full=false→∀f q,s.queue=f::q→¬(f∈s.T∨(f∉s.given∧(ofF s.B f).length=0))→(Cp s.T s.lim f).2=0→∀i (hi:i<s.rules.length) (j:Nat),j<s.rules[i].bo.length→(I8 s.rules[i] s.me j f (Cp s.T s.lim f).1).length≤30001
theorem Ss{n:Nat}{s:ES}(h:SOk n s)(hw:L6 s):SOk (n+Cl s.rules s.rules.length*60002) (Cg s).2:=by
 unfold Cg;split
 ·exact h.le (Nat.le_add_right _ _)
 rename_i hfl;split
 ·exact h.le (Nat.le_add_right _ _)
 rename_i f q hq;have hf:=h.qs f (by rw[hq];simp);have hql:=h.ql;rw[hq]at hql;simp only[List.length_cons]at hql;obtain⟨p1,p2⟩:=Vx h.tok h.tl h.lm hf;have h1:SOk n {s with queue:=q}:={h with ql:=(by show q.length≤n;omega),qs:=fun y hy=>h.qs y (by rw[hq];exact List.mem_cons_of_mem _ hy)};have h2:SOk n {s with queue:=q,T:=(Cp s.T s.lim f).1}:={h1 with tok:=p1,tl:=p2};split
 ·exact h1.le (Nat.le_add_right _ _)
 rename_i hns;split
 ·rename_i hp
  exact Aii h2 h.rs hf p1.sm _ (Nat.le_refl _) (hw (by simpa using hfl) f q hq hns hp)
 ·exact{h2.le (Nat.le_add_right _ _)with}
theorem Gb{σ:St}{x:Nat}{a:EA}{s:ES}(h:EV false σ x a s false){y:Nat}(hf:Bn x a y):∃o,σ y=some o:=by
 rcases hf with rfl|rfl|rfl|e|e|e
 ·exact⟨_,h.cx⟩
 ·exact⟨_,h.ct⟩
 ·exact⟨_,h.cb⟩
 ·obtain⟨c,hc⟩:=h.grow e;exact⟨_,hc⟩
 ·obtain⟨r,c,hc⟩:=h.cq.rows e;exact⟨_,hc⟩
 ·obtain⟨c,hc⟩:=h.co.own_rows e;exact⟨_,hc⟩
theorem Rv{σ:St}(r:Rl)(me:ByteArray)(first:Int)(f:Fa)(l:List Fa)(hr:r.S3)(hf:f.Sm)(hl:l.length≤1000000)(hls:∀y∈l,y.Sm)(hn:(I8 r me first f l).length≤1000000):
  AT Tryz.prog 53 [.agg r.cs,str me,int first,.agg f.cs,.sl 4 (faC l)] σ fun v σ'=>v= .sl 1 (boC (Gv r me first f l))∧σ'=σ:=
 (Adx r me first f l hr hf hl hls hn).post (by kernel_rfl) fun v σ' h=>⟨_,_,h.view,rfl,rfl⟩
structure SI(σ0:St)(x:Nat)(a:EA)(p d:Nat)(f:Fa)(T:List Fa)(lv:AV)(σ:St)(a':EA)(s':ES):Prop where
 ev:EV false σ x a' s' false
 fr:Frm x a a' σ0 σ
 kp:σ p=some (.cells f.cs)
 np:¬Bn x a' p
 kd:σ d=some (.cells [lv])
 nd:¬Bn x a' d
 rd:Rd 4 σ lv (faC T)
 own:∀y,Own lv y→¬Bn x a' y∧∀o,σ0 y=some o→Bn x a y
 od:∀o,σ0 d=some o→Bn x a d
 pd:p≠d
theorem SI.let{σ0 σ:St}{x p d:Nat}{a a':EA}{f:Fa}{T:List Fa}{lv:AV}{s':ES}(h:SI σ0 x a p d f T lv σ a' s'):
  ∃σ',SV σ σ'∧VW σ σ' lv (.sl 4 (faC T))∧SI σ0 x a p d f T (.sl 4 (faC T)) σ' a' s'∧∀y cs,y≠d→σ y=some (.cells cs)→σ' y=some (.cells cs):=by
 rcases h.rd with e|hL
 ·subst e
  exact⟨σ,F9 fun _ _ h=>.inl h,.refl _,h,fun _ _ _ hy=>hy⟩
 have hod:¬Own lv d:=hL.not_own h.kd;have hv:VW σ ((St.free σ lv).set d (.cells [.sl 4 (faC T)])) lv (.sl 4 (faC T)):=hL.vw_same fun y hy=>by
  rw[Ag fun e=>by subst e;exact hod hy];exact Nm hy
 have keep:∀{y o},y≠d→¬Own lv y→σ y=some o→((St.free σ lv).set d (.cells [.sl 4 (faC T)])) y=some o:=fun{y o} h1 h2 h3=>by
  rw[Ag h1,D7 h2];exact h3
 refine⟨_,K3 h.kd (show OW _ _ (.cells _) (.cells _)from vws_cons hv By) fun y o hne hy=>?_,hv,⟨h.ev.keep fun y o hy hf=>keep (fun e=>h.nd (e▸hf)) (fun e=>(h.own y e).1 hf) hy,fun y o hy hn=>?_,keep h.pd (hL.not_own h.kp) h.kp,h.np,Ab,h.nd,.inl rfl,fun y hy=>absurd hy Gj,h.od,h.pd⟩,fun y cs hne hy=>keep hne (hL.not_own hy) hy⟩
 ·by_cases ho:Own lv y
  ·rw[Nm ho]at hy;cases hy
  ·rwa[D7 ho]at hy
 ·have k:=h.fr y o hy hn
  exact⟨keep (fun e=>hn (by rw[e];exact h.od o (e▸hy))) (fun e=>hn ((h.own y e).2 o hy)) k.1,k.2⟩
theorem SI.more{σ0 σ σ':St}{x p d:Nat}{a a':EA}{f:Fa}{T:List Fa}{lv:AV}{s':ES}(h:SI σ0 x a p d f T lv σ a' s')(hs:∀y o,σ y=some o→σ' y=some o):SI σ0 x a p d f T lv σ' a' s':=
 have hr:Rd 4 σ' lv (faC T):=by
  rcases h.rd with e|e
  ·exact .inl e
  ·exact .inr (e.keep fun y o hy _=>hs y o hy)
 {h with ev:=h.ev.more hs,fr:=fun y o hy hn=>⟨hs _ _ (h.fr y o hy hn).1,(h.fr y o hy hn).2⟩,kp:=hs _ _ h.kp,kd:=hs _ _ h.kd,rd:=hr}
theorem SI.go{σ0 σ σ':St}{x p d:Nat}{a a' a2:EA}{f:Fa}{T:List Fa}{s' s2:ES}(h:SI σ0 x a p d f T (.sl 4 (faC T)) σ a' s')(he:EV false σ' x a2 s2 false)(hf:Frm x a' a2 σ σ'):SI σ0 x a p d f T (.sl 4 (faC T)) σ' a2 s2:=
 ⟨he,h.fr.trans hf,(hf _ _ h.kp h.np).1,(hf _ _ h.kp h.np).2,(hf _ _ h.kd h.nd).1,(hf _ _ h.kd h.nd).2,.inl rfl,fun y hy=>absurd hy Gj,h.od,h.pd⟩
structure DI(σ0:St)(x:Nat)(a:EA)(lv:AV)(o:List Fa)(σ:St)(a':EA)(s':ES):Prop where
 ev:EV false σ x a' s' false
 fr:Frm x a a' σ0 σ
 la:LAt 4 σ lv (faC o)
 own:∀y,Own lv y→¬Bn x a' y∧∀o,σ0 y=some o→Bn x a y
section
variable{σ0 σ σ':St}{x p q n:Nat}{a a':EA}{lv lv':AV}{o:List Fa}{s s':ES}
theorem DI.more(h:DI σ0 x a lv o σ a' s')(hs:∀y o,σ y=some o→σ' y=some o):DI σ0 x a lv o σ' a' s':=
 ⟨h.ev.more hs,fun y o hy hn=>⟨hs _ _ (h.fr y o hy hn).1,(h.fr y o hy hn).2⟩,h.la.keep fun y o hy _=>hs y o hy,h.own⟩
theorem DI.setT(h:DI σ0 x a lv o σ a' s'){T:List Fa}:DI σ0 x a lv o (σ.set a'.t (tbC T s'.lim)) a' {s' with T:=T}:=
 ⟨h.ev.setT,h.fr.trans .setT,h.la.keep fun y o hy ho=>by rw[Ag fun e=>(h.own y ho).1 (.inr (.inl e))];exact hy,h.own⟩
theorem DI.setB(h:DI σ0 x a lv o σ a' s'){B:List De}:DI σ0 x a lv o (σ.set a'.b (bkT false B)) a' {s' with B:=B}:=
 ⟨h.ev.setB,h.fr.trans .setB,h.la.keep fun y o hy ho=>by rw[Ag fun e=>(h.own y ho).1 (.inr (.inr (.inl e)))];exact hy,h.own⟩
theorem DI.app(h:DI σ0 x a lv o σ a' s'){f:Fa}(h1:LAt 4 σ' lv' (faC (o++[f])))(hs:∀y o,σ y=some o→¬Own lv y→σ' y=some o∧¬Own lv' y):DI σ0 x a lv' (o++[f]) σ' a' s':=by
 have old:∀y o,σ0 y=some o→¬Bn x a y→σ' y=some o∧¬Own lv' y:=fun y o hy hn=>hs y o (h.fr y o hy hn).1 fun ho=>hn ((h.own y ho).2 o hy);refine⟨h.ev.keep fun y o hy hf=>(hs y o hy fun ho=>(h.own y ho).1 hf).1,fun y o hy hn=>⟨(old y o hy hn).1,(h.fr y o hy hn).2⟩,h1,fun y ho=>⟨fun hf=>?_,fun o hy=>Classical.byContradiction fun hn=>(old y o hy hn).2 ho⟩⟩;obtain⟨o',hy⟩:=Gb h.ev hf;exact(hs y o' hy fun ho=>(h.own y ho).1 hf).2 ho
theorem P9{v0:AV}(l:List Fa)(h0:Rd 4 σ v0 (faC l))(hl:l.length≤1000000000000)(hls:∀f∈l,f.Sm):AT Tryz.prog 59 [v0] σ fun v σ'=>v= .sl 4 (faC (Ba Ar [] l))∧σ'=σ:=
 (H8 l h0 hl hls).post (by kernel_rfl) fun v σ' h=>⟨_,_,h.view,rfl,rfl⟩
theorem Aeo(a b:List Fa)(ha:a.length≤1000000000000)(sa:∀y∈a,y.Sm)(hb:b.length≤1000000000000)(sb:∀y∈b,y.Sm):AT Tryz.prog 74 [.sl 4 (faC a),.sl 4 (faC b)] σ fun r σ'=>r= .sl 4 (faC ((Ba Ar [] a).filter fun x=>!decide (x∈b)))∧σ'=σ:=
 (T4 a b .sl ha sa hb sb).post (by kernel_rfl) fun v σ' ⟨h1,h2⟩=>⟨_,_,Fs h1 h2,rfl,rfl⟩
theorem Aob{n:Nat}{s:ES}(h:SOk n s)(hn:n≤800000000000):(Qg s).length≤1000000000000∧∀y∈Qg s,y.Sm:=by
 have ly:=Mm s.B (s.given.filter fun g=>decide (g∈s.T));have h1:=ly.len;have h2:=List.length_filter_le (fun g=>decide (g∈s.T)) s.given;have h3:=List.length_filter_le (fun g=>decide (g∈s.T)) (C8 s.B (s.given.filter fun g=>decide (g∈s.T)));have h4:=h.gl;have h5:=h.bl;refine⟨by unfold Qg;omega,fun y hy=>?_⟩;rcases ly.own y (List.mem_filter.1 hy).1 with hy|⟨d,hd,e⟩
 ·exact h.gs y (List.mem_filter.1 hy).1
 ·rw[←e];exact(h.bs d hd).1
theorem Rr(h:EV false σ x a s false)(hs:SOk n s)(hn:n≤800000000000)(f:Fa)(hfs:f.Sm):
  AT Tryz.prog 36 [ptr x,.agg f.cs] σ fun r σ'=>r=int (J5 s f).1∧∃a',EV false σ' x a' (J5 s f).2 false∧Frm x a a' σ σ':=by
 refine AT.ob Tryz.func36 rfl ?_;simp only[go_sem];refine Ctx.nil.alloc fun p σ2 c2=>?_;have hp:=c2.g0;have hsb:=c2.sub;have fp:=c2.f0;clear c2;have h2:=h.more hsb;simp only[go_sem];refine(Dy h2).mono ?_;rintro _ σ2 ⟨rfl,rfl⟩;have hx2:=h2.cx;have hgl:=hs.gl;simp only[go_sem];refine Ae [.rd 0 false,.rd 1 false,.rd 2 false,.rd 3 true,.rd 4 true,.ef 5 [],.rd 6 false] ?_;simp only[go_sem,hp,hx2];refine(Rw s.given f (.of h2.lg) (by omega) hs.gs hfs).mono ?_;rintro _ σ2 ⟨rfl,rfl⟩;by_cases hin:f∈s.given
 case neg=>
  have e:J5 s f=(152,s):=by unfold J5;rw[if_neg hin]
  simp only[go_sem,decide_eq_false hin];exact Ad (r:=int 152) rfl ⟨by rw[e],a,by rw[e];exact h2,.of hsb⟩
 simp only[go_sem,decide_eq_true hin];refine Ae [.rd 0 false,.rd 1 false,.rd 2 false,.rd 3 false,.rd 4 true,.rd 5 true,.rd 6 false,.ef 7 [],.rd 8 false,.rd 9 false,.ef 10 []] ?_;simp only[go_sem,hp,hx2];refine(AT.weak (T4 s.given [f] (.of h2.lg) (by omega) hs.gs (by simp) (fun y hy=>by rw[List.mem_singleton.1 hy];exact hfs)) (vws_same Np)).mono ?_;rintro v σ3 ⟨k1,k2⟩;obtain⟨kx,kE,kF⟩:=h2.setG k1 fun y o hy _=>k2 y o hy;have esp:Ay (evC false s a false) 5 [v]=evC false (Dt s f) {a with gv:=v} false:=rfl;simp only[go_sem,kx,k1.one,k1.cells,esp,kE.all1];have F3:=(Frm.of hsb).trans kF;obtain⟨a1,ha1⟩:∃a1:EA,a1={a with gv:=v}:=⟨_,rfl⟩;obtain⟨s1,hs1⟩:∃s1:ES,s1=Dt s f:=⟨_,rfl⟩;rw[show({s with given:=(Ba Ar [] s.given).filter fun y=>!decide (y∈[f])}:ES)=s1 from hs1.symm,←ha1]at kE F3;rw[←hs1,←ha1];have O1:SOk n s1:=by rw[hs1];exact Vn hs
 have hd:J5 s f=(0,{((Fo s1).foldl D8 (s1,[])).1 with outs:=((Fo s1).foldl D8 (s1,[])).1.outs++(Ba Ar [] ((Fo s1).foldl D8 (s1,[])).2).map fun y=>(y,true)}):=by unfold J5;rw[if_pos hin,hs1]
 clear kx kF k1 k2 hx2 hp fp;generalize σ3.set x (.cells (evC false s1 a1 false))=σ4 at kE F3⊢;have ht:a.t=a1.t:=by rw[ha1]
 rw[ht];refine Wj.mono ?_;rintro _ σ5 ⟨b1,b2,rfl,c⟩;have E5:=kE.more c.sub;have F5:=F3.trans (.of c.sub);simp only[go_sem];refine(Zj (t:=a1.t) (lim:=s1.lim) E5.ct O1.tok c.g1.1.2 c.g1.1.1).mono ?_;rintro _ σ5 ⟨rfl,rfl⟩;clear c kE F3;simp only[go_sem];refine(Xz E5 O1 hn _).mono ?_;rintro _ σ5 ⟨rfl,rfl⟩;have hnw:=Aob O1 hn;have tl:=O1.tok.len;simp only[go_sem];refine(Aeo s1.T (Qg s1) (by omega) O1.tok.sm hnw.1 hnw.2).mono ?_;rintro _ σ5 ⟨rfl,rfl⟩;obtain⟨G,hG⟩:∃G,G=Fo s1:=⟨_,rfl⟩;rw[show((Ba Ar [] s1.T).filter fun y=>!decide (y∈Qg s1))=G from hG.symm];rw[←hG]at hd
 have hGs:∀y∈G,y.Sm:=fun y hy=>O1.tok.sm y (by
  rw[hG]at hy;have:=(List.mem_filter.1 hy).1;rw[Bl An]at this;simpa using this)
 have gl:G.length≤1000000:=by
  rw[hG];have h1:=List.length_filter_le (fun y=>!decide (y∈Qg s1)) (Ba Ar [] s1.T);have h2:=Br (c:=Ar) (s:=[]) (l:=s1.T);simp only[List.length_nil]at h2;unfold Fo;omega
 have g0:GOk n (s1,[]):=⟨O1,by have:=O1.bo;show s1.B.length+s1.outs.length+0≤n;omega,fun y hy=>by cases hy⟩;have I0:DI σ x a A0 [] σ5 a1 s1:=⟨E5,F5,.none,fun y hy=>absurd hy Bh⟩;have fcl:=Am G;clear E5 F5 O1 hnw tl hgl hs hsb h2;simp only[go_sem,fcl];refine⟨fun m fr σ'=>∃(i:Nat) (lv:AV) (P:ES×List Fa),m=G.length-i∧i≤G.length∧P=(G.take i).foldl D8 (s1,[])∧GOk n P∧DI σ x a lv P.2 σ' a1 P.1∧fr 0=ptr x∧fr 7=lv∧fr 44= .sl 4 (faC G)∧fr 45=int G.length∧fr 46=int i,⟨_,0,A0,(s1,[]),rfl,by omega,rfl,g0,I0,rfl,rfl,rfl,rfl,rfl⟩,?_⟩;clear g0 I0;rintro m fr σ2 ⟨i,lv,P,rfl,hi,hP,hO,hI,f0,f7,f44,f45,f46⟩;simp only[go_sem,f45,f46];refine aIf_by (fun hlt=>?_) (fun hlt=>?_)
 case' refine_1=>
  have hil:i<G.length:=by omega
  have hgs:=hGs _ (List.getElem_mem hil);obtain⟨g,hg⟩:∃g,g=G[i]:=⟨_,rfl⟩;rw[←hg]at hgs;have gg:(faC G).getD i []=g.cs:=by rw[hg];exact Au hil
  simp only[go_sem,Aa,f44,f46,gg,fcl];refine⟨by omega,Ctx.nil.alloc fun q σ3 c3=>?_⟩;obtain⟨σ4,e4,c4⟩:=c3.abs 0 rfl (.cells g.cs);have hq:σ4 q=some (.cells g.cs):=c4.g0;have nq:¬Bn x a1 q:=fun hf=>by
   obtain⟨o,ho⟩:=Gb hI.ev hf;have:=c3.f0;rw[ho]at this;cases this
  have hI:=hI.more c4.sub;simp only[go_sem,Aa,c3.g0,e4];clear e4 c4 c3;have hx4:=hI.ev.cx;refine Ae [.rd 0 false,.rd 1 false,.rd 2 false,.rd 3 true,.rd 4 true,.ef 5 []] ?_;simp only[go_sem,Aa,f0,hx4,hq];refine(Ais (t:=a1.t) hI.ev.ct hO.ok.tok g hgs).mono ?_;rintro _ σ5 ⟨rfl,rfl⟩;have hI1:DI σ x a lv (takS P g).2 (σ4.set a1.t (tbC (H9 P.1.T g).1 P.1.lim)) a1 (takS P g).1:=hI.setT;have hO1:=Aba (g:=g) hO;have hq1:(σ4.set a1.t (tbC (H9 P.1.T g).1 P.1.lim)) q=some (.cells g.cs):=by rw[Ag fun e=>nq (.inr (.inl e))];exact hq
  have hB1:(takS P g).1.B=P.1.B:=rfl;obtain⟨P1,hP1⟩:∃P1,P1=takS P g:=⟨_,rfl⟩;rw[←hP1]at hI1 hO1 hB1;generalize σ4.set a1.t (tbC (H9 P.1.T g).1 P.1.lim)=σ5 at hI1 hq1⊢;clear hI hx4 hq;have hx5:=hI1.ev.cx;have hb5:BK σ5 a1.b P1.1.B:=hI1.ev.cb;simp only[go_sem,Aa];refine Ae [.rd 0 false,.rd 1 false,.rd 2 false,.rd 3 true,.rd 4 true,.rd 7 false,.ef 5 [],.rd 6 false] ?_;simp only[go_sem,Aa,f0,hx5,hq1];refine(Al9 hb5 (hO1.ok.bok (by omega)) g hgs).mono ?_;rintro _ σ5 ⟨rfl,rfl⟩;obtain⟨U,hU⟩:∃U,U=useF P1.1.B g:=⟨_,rfl⟩;have hUm:∀d∈U,d∈P1.1.B:=fun d hd=>by rw[hU]at hd;exact(List.mem_filter.1 hd).1
  have hUn:U.Nodup:=by rw[hU];exact(Ij A7 hO1.ok.br).filter _
  have hUl:U.length≤800000000000:=by
   have h1:=List.length_filter_le (fun d:De=>decide (g∈d.bo)) P1.1.B;have h2:=hO1.ok.bl;rw[hU];unfold useF;omega
  have hUs:∀d∈U,d.Sm:=fun d hd=>hO1.ok.bs d (hUm d hd);have es1:U.foldl Di P1=D8 P g:=by unfold D8;rw[hU,hP1];rfl
  rw[←hU];have dcl:=At U;simp only[go_sem,Aa,dcl];refine⟨fun m fr σ'=>∃(k:Nat) (lv:AV) (P2:ES×List Fa),m=U.length-k∧k≤U.length∧P2=(U.take k).foldl Di P1∧GOk n P2∧DI σ x a lv P2.2 σ' a1 P2.1∧fr 0=ptr x∧fr 7=lv∧fr 44= .sl 4 (faC G)∧fr 45=int G.length∧fr 46=int i∧fr 61= .sl 6 (deC U)∧fr 62=int U.length∧fr 63=int k,⟨_,0,lv,P1,rfl,by omega,rfl,hO1,hI1,f0,f7,f44,f45,f46,rfl,rfl,rfl⟩,?_⟩;clear hI1 hx5 hb5 hq1 f0 f7 f44 f45 f46;rintro m fr σ2 ⟨k,lv,P2,rfl,hk,hP2,hO2,hI2,f0,f7,f44,f45,f46,f61,f62,f63⟩;simp only[go_sem,f62,f63];refine aIf_by (fun hlt=>?_) (fun hlt=>?_)
  case' refine_2=>
   have ek:k=U.length:=by omega
   have eP:P2=(G.take (i+1)).foldl D8 (s1,[]):=by rw[hP2,ek,List.take_length,es1,Le _ hil,←hP,hg]
   simp only[go_sem,Aa,f46,Ai (show i<9223372036854775807 by omega)];exact⟨G.length-(i+1),by omega,i+1,lv,P2,rfl,by omega,eP,hO2,hI2,f0,f7,f44,f45,rfl⟩
  have hkl:k<U.length:=by omega
  obtain⟨d,hdd⟩:∃d,d=U[k]:=⟨_,rfl⟩;have hdm:d∈U:=by rw[hdd];exact List.getElem_mem hkl
  have hds:=hUs d hdm;have hdB:d∈P2.1.B:=by
   rw[hP2];exact Rk _ _ (hUm d hdm) (by rw[hdd];exact Acq hUn hkl)
  have dg:(deC U).getD k []=d.cs:=by rw[hdd];exact Bv hkl
  have e2:Di P2 d=(U.take (k+1)).foldl Di P1:=by rw[Le _ hkl,←hP2,hdd]
  have hO3:=Zk hO2 hdB;simp only[go_sem,Aa,f61,f63,dg,dcl];refine⟨by omega,Ctx.nil.alloc fun w σ3 c3=>?_⟩;obtain⟨σ4,e4,c4⟩:=c3.abs 0 rfl (.cells d.cs);have hw:σ4 w=some (.cells d.cs):=c4.g0;have nw:¬Bn x a1 w:=fun hf=>by
   obtain⟨o,ho⟩:=Gb hI2.ev hf;have:=c3.f0;rw[ho]at this;cases this
  have hI2:=hI2.more c4.sub;simp only[go_sem,Aa,c3.g0,e4];clear e4 c4 c3;have hx4:=hI2.ev.cx;refine Ae [.rd 0 false,.rd 1 false,.rd 2 false,.rd 3 true,.rd 4 true,.ef 5 []] ?_;simp only[go_sem,Aa,f0,hx4,hw];refine(Afs (t:=a1.b) hI2.ev.cb (hO2.ok.bok (by omega)) d hds).mono ?_;rintro _ σ5 ⟨rfl,rfl⟩;obtain⟨B3,hB3⟩:∃B3,B3=P2.1.B.filter fun y=>!decide (y=d):=⟨_,rfl⟩;rw[←hB3,show bkC B3=bkT false B3 from rfl];have hI3:DI σ x a lv P2.2 (σ4.set a1.b (bkT false B3)) a1 (Di P2 d).1:=by
   have:=hI2.setB (B:=B3);rw[hB3]at this⊢;exact this
  have hw3:(σ4.set a1.b (bkT false B3)) w=some (.cells d.cs):=by rw[Ag fun e=>nw (.inr (.inr (.inl e)))];exact hw
  have hB4:(Di P2 d).1.B=B3:=hB3.symm;have m3:(Di P2 d).1.me=P2.1.me:=rfl;have o3:(Di P2 d).2=if d.hd.at'≠P2.1.me∧(ofF B3 d.hd).length=0 then P2.2++[d.hd]else P2.2:=by rw[hB3];rfl
  obtain⟨P3,hP3⟩:∃P3,P3=Di P2 d:=⟨_,rfl⟩;rw[←hP3]at hI3 hB4 m3 o3 e2 hO3;generalize σ4.set a1.b (bkT false B3)=σ5 at hI3 hw3⊢;clear hI2 hx4 hw;have hx5:=hI3.ev.cx;have hb5:BK σ5 a1.b B3:=by rw[←hB4];exact hI3.ev.cb
  have hbk:BOk B3:=by rw[←hB4];exact hO3.ok.bok (by omega)
  have nx:=Ai (show k<9223372036854775807 by omega);simp only[go_sem,Aa];refine Ae [.rd 0 false,.rd 1 false,.rd 2 true,.rd 3 false,.rd 4 false,.rd 5 false,.rd 6 true,.rd 7 false,.rd 8 false,.rd 9 false,.rd 10 false,.rd 11 false,.rd 12 true,.rd 13 false,.rd 14 true,.ef 15 [],.rd 16 false,.rd 17 false,.rd 18 false] ?_;simp only[go_sem,Aa,f0,hx5,hw3,m3];by_cases hat:d.hd.at'=P2.1.me
  ·rw[if_neg fun h=>h.1 hat]at o3
   have d4:(!decide (d.hd.at'=P2.1.me))=false:=by rw[decide_eq_true hat];rfl
   simp only[go_sem,Aa,decide_eq_true hat,f63,nx];exact⟨U.length-(k+1),by omega,k+1,lv,P3,rfl,by omega,e2,hO3,by rw[o3];exact hI3,f0,f7,f44,f45,f46,f61,f62,rfl⟩
  have d4:(!decide (d.hd.at'=P2.1.me))=true:=by rw[decide_eq_false hat];rfl
  simp only[go_sem,Aa,decide_eq_false hat,f0,hx5,hw3];refine(Acw hb5 hbk d.hd hds.1).mono ?_;rintro _ σ5 ⟨rfl,rfl⟩;by_cases hof:(ofF B3 d.hd).length=0
  ·rw[if_pos ⟨hat,hof⟩]at o3
   have d5:=decide_eq_true (show((ofF B3 d.hd).length:Int)=0 by omega);have hle:=hO2.le;simp only[go_sem,Aa,At,d5,f7,hw3];refine As (ys:=[d.hd.cs]) rfl (by decide) (by decide) (by decide) (hI3.la.app (by rw[Am];simp only[List.length_cons,List.length_nil];omega) fun lv' σ6 h6 s6=>?_);rw[show faC P2.2++[d.hd.cs]=faC (P2.2++[d.hd]) by simp[faC]]at h6;have hI6:=hI3.app h6 s6;simp only[go_sem,Aa,f63,nx];exact⟨U.length-(k+1),by omega,k+1,lv',P3,rfl,by omega,e2,hO3,by rw[o3];exact hI6,f0,rfl,f44,f45,f46,f61,f62,rfl⟩
  ·rw[if_neg fun h=>hof h.2]at o3
   have d5:=decide_eq_false (show¬((ofF B3 d.hd).length:Int)=0 by omega);simp only[go_sem,Aa,At,d5,f63,nx];exact⟨U.length-(k+1),by omega,k+1,lv,P3,rfl,by omega,e2,hO3,by rw[o3];exact hI3,f0,f7,f44,f45,f46,f61,f62,rfl⟩
 have ei:i=G.length:=by omega
 rw[ei,List.take_length]at hP;rw[←hP]at hd;have hle:=hO.le;simp only[go_sem,Aa,f7];refine(P9 P.2 (.of hI.la) (by omega) hO.sm).mono ?_;rintro _ σ3 ⟨rfl,rfl⟩;obtain⟨H,hH⟩:∃H,H=Ba Ar [] P.2:=⟨_,rfl⟩;rw[←hH]at hd⊢;have Hl:H.length≤P.2.length:=by
  have:=Br (c:=Ar) (s:=[]) (l:=P.2);rw[←hH]at this;simp only[List.length_nil]at this;omega
 have hcl:=Am H;have ev:=hI.ev;have fr:=hI.fr;simp only[go_sem,Aa,hcl];obtain⟨z,hz⟩:∃z,z=P.1.outs:=⟨_,rfl⟩;have hzl:z.length+P.2.length≤n:=by rw[hz];omega
 refine⟨fun m fr σ'=>∃(k:Nat) (a':EA) (s':ES),m=H.length-k∧k≤H.length∧s'={P.1 with outs:=z++(H.take k).map fun y=>(y,true)}∧EV false σ' x a' s' false∧Frm x a a' σ σ'∧fr 0=ptr x∧fr 100= .sl 4 (faC H)∧fr 101=int H.length∧fr 102=int k,⟨_,0,a1,P.1,rfl,by omega,by rw[hz];simp,ev,fr,f0,rfl,rfl,rfl⟩,?_⟩;clear ev fr hI f0 f7 f44 f45 f46;rintro m fr σ2 ⟨k,a',s',rfl,hk,hs',E2,F2,f0,f100,f101,f102⟩;simp only[go_sem,f101,f102];refine aIf_by (fun hlt=>?_) (fun hlt=>?_)
 case' refine_2=>
  have ek:k=H.length:=by omega
  rw[ek,List.take_length,hz]at hs';simp only[go_sem,Aa];exact Ad (r:=int 0) rfl ⟨by rw[hd],a',by rw[hd,←hs'];exact E2,F2⟩
 have hkl:k<H.length:=by omega
 obtain⟨g,hg⟩:∃g,g=H[k]:=⟨_,rfl⟩;have gg:(faC H).getD k []=g.cs:=by rw[hg];exact Au hkl
 simp only[go_sem,Aa,f100,f102,gg,hcl];refine⟨by omega,Ctx.nil.alloc fun q σ3 c3=>?_⟩;obtain⟨σ4,e4,c4⟩:=c3.abs 0 rfl (.cells g.cs);have hq:σ4 q=some (.cells g.cs):=c4.g0;have E4:=E2.more c4.sub;have F4:=F2.trans (.of c4.sub);have hx4:=E4.cx;have ol:s'.outs.length=z.length+k:=by rw[hs'];simp;omega
 simp only[go_sem,Aa,c3.g0,e4];clear e4 c4 c3;refine Ae [.rd 0 false,.rd 1 false,.rd 2 false,.rd 3 false,.rd 4 true,.rd 5 true,.rd 6 false,.rd 7 false,.ef 8 [],.rd 9 false,.rd 10 false,.ef 11 []] ?_;simp only[go_sem,Aa,f0,hx4,hq];refine⟨Nat.le_refl 5,rfl,rfl,?_⟩;refine As (ys:=[g.cs++[boo true]]) rfl (by decide) (by decide) (by decide) (E4.co.app (by rw[Hj,ol];simp only[List.length_cons,List.length_nil];omega) fun v' σ5 k1 k2=>?_);rw[show ouC s'.outs++[g.cs++[boo true]]=ouC (s'.outs++[(g,true)]) by simp[ouC]]at k1;obtain⟨kx,kE,kF⟩:=E4.setO k1 k2;have esp:Ay (evC false s' a' false) 7 [v']=evC false {s' with outs:=s'.outs++[(g,true)]} {a' with ov:=v'} false:=rfl;have e5:({s' with outs:=s'.outs++[(g,true)]}:ES)={P.1 with outs:=z++(H.take (k+1)).map fun y=>(y,true)}:=by
  rw[hs',List.take_add_one,List.getElem?_eq_getElem hkl,hg];simp only[List.map_append,Option.toList,List.map_cons,List.map_nil,List.append_assoc]
 simp only[go_sem,Aa,kx,k1.one,k1.cells,esp,kE.all1,f102,Ai (show k<9223372036854775807 by omega)];exact⟨H.length-(k+1),by omega,k+1,_,_,rfl,by omega,e5,kE,F4.trans kF,f0,f100,f101,rfl⟩
end
section
variable{σ:St}{x p:Nat}{a:EA}{s:ES}{n:Nat}
theorem Agm(h:EV false σ x a s false):AT Tryz.prog 21 [ptr x] σ fun r σ'=>r=boo s.full∧σ'=σ:=by
 refine AT.ob Tryz.func21 rfl ?_;simp only[go_sem];refine(Dy h).mono ?_;rintro _ σ ⟨rfl,rfl⟩;have hx:=h.cx;simp only[go_sem,hx];exact Ad (r:=boo s.full) rfl ⟨rfl,rfl⟩
theorem P5(h:EV false σ x a s false):AT Tryz.prog 24 [ptr x] σ fun r σ'=>r=int s.queue.length∧σ'=σ:=by
 refine AT.ob Tryz.func24 rfl ?_;simp only[go_sem];refine(Dy h).mono ?_;rintro _ σ ⟨rfl,rfl⟩;have hx:=h.cx;simp only[go_sem,hx,h.cq.len,Am];exact Ad (r:=int s.queue.length) rfl ⟨rfl,rfl⟩
theorem Akd(h:EV false σ x a s false)(hs:SOk n s)(f:Fa)(hf:f.Sm):AT Tryz.prog 35 [ptr x,.agg f.cs] σ fun r σ'=>r=boo (decide (f∈s.T))∧σ'=σ:=by
 refine AT.ob Tryz.func35 rfl ?_;simp only[go_sem];refine Ctx.nil.alloc fun q σ1 c1=>?_;have h1:=h.more c1.sub;have hx1:=h1.cx;have hq:=c1.g0;have ht1:TB σ1 a.t s.T s.lim:=h1.ct;simp only[go_sem];refine Ae [.rd 0 false,.ef 1 [],.rd 2 false,.rd 3 false,.rd 4 false,.rd 5 false,.rd 6 false,.rd 7 true,.rd 8 true,.ef 9 [],.rd 10 false,.rd 11 false] ?_;simp only[go_sem];refine(Dy h1).mono ?_;rintro _ σ1 ⟨rfl,rfl⟩;simp only[go_sem,Bool.not_false,hq,hx1];refine(Oj ht1 hs.tok f hf).mono ?_;rintro _ σ1 ⟨rfl,rfl⟩;simp only[go_sem];exact Af (r:=boo (decide (f∈s.T))) rfl _ σ (Aq c1.sub) ⟨rfl,rfl⟩
theorem Zt(h:EV false σ x a s false)(hs:SOk n s)(hn:n≤800000000000)(f:Fa)(hf:f.Sm):AT Tryz.prog 33 [ptr x,.agg f.cs] σ fun r σ'=>r= .sl 6 (deC (ofF s.B f))∧σ'=σ:=by
 refine AT.ob Tryz.func33 rfl ?_;simp only[go_sem];refine Ctx.nil.alloc fun q σ1 c1=>?_;have h1:=h.more c1.sub;have hx1:=h1.cx;have hq:=c1.g0;have hb1:BK σ1 a.b s.B:=h1.cb;simp only[go_sem];refine(Dy h1).mono ?_;rintro _ σ1 ⟨rfl,rfl⟩;simp only[go_sem];refine Ae [.rd 0 false,.rd 1 false,.rd 2 false,.rd 3 true,.rd 4 true,.ef 5 [],.rd 6 false] ?_;simp only[go_sem,hq,hx1];refine(Acw hb1 (hs.bok (by omega)) f hf).mono ?_;rintro _ σ1 ⟨rfl,rfl⟩;simp only[go_sem];exact Af (r:=.sl 6 (deC (ofF s.B f))) rfl _ σ (Aq c1.sub) ⟨rfl,rfl⟩
theorem Aed(h:EV false σ x a s false)(hs:SOk n s):AT Tryz.prog 26 [ptr x] σ fun r σ'=>r= .sl 4 (faC (Ba Ar [] s.given))∧σ'=σ:=by
 refine AT.ob Tryz.func26 rfl ?_;simp only[go_sem];refine(Dy h).mono ?_;rintro _ σ ⟨rfl,rfl⟩;have hx:=h.cx;have hgl:=hs.gl;simp only[go_sem,hx];refine(P9 s.given (.of h.lg) (by omega) hs.gs).mono ?_;rintro _ σ ⟨rfl,rfl⟩;simp only[go_sem];exact Ad (r:=.sl 4 _) rfl ⟨rfl,rfl⟩
theorem Pa(h:EV false σ x a s false):AT Tryz.prog 19 [ptr x] σ fun v σ'=>∃b1 b2,v=Q2 b1 b2∧Ctx σ [(b2,.cells [fnv 117]),(b1,.cells [ptr a.t])] σ':=by
 refine AT.ob Tryz.func19 rfl ?_;simp only[go_sem];refine(Dy h).mono ?_;rintro _ σ ⟨rfl,rfl⟩;have hx:=h.cx;simp only[go_sem,hx];refine Wj.mono ?_;rintro _ σ1 ⟨b1,b2,rfl,c⟩;simp only[go_sem];exact Ad (r:=Q2 b1 b2) rfl ⟨b1,b2,rfl,c⟩
theorem Agp(h:EV false σ x a s false):AT Tryz.prog 27 [ptr x] σ fun r σ'=>r= .sl 5 (ouC s.outs)∧∃a',EV false σ' x a' {s with outs:=[]} false∧Frm x a a' σ σ':=by
 have hm:AT Tryz.prog 27 [ptr x] σ fun r σ'=>r=a.ov∧σ'=σ.set x (.cells (evC false {s with outs:=[]} {a with ov:=A0} false)):=by
  refine AT.ob Tryz.func27 rfl ?_;simp only[go_sem];refine(Dy h).mono ?_;rintro _ σ ⟨rfl,rfl⟩;have hx:=h.cx;have esp:Ay (evC false s a false) 7 [A0]=evC false {s with outs:=[]} {a with ov:=A0} false:=rfl;have eal:(evC false {s with outs:=[]} {a with ov:=A0} false).all AV.one=true:=Acc (a:={a with ov:=A0}) h.gone h.cq.one rfl;simp only[go_sem,hx,esp,eal];exact Ad (r:=a.ov) rfl ⟨rfl,rfl⟩
 refine hm.post (by kernel_rfl) ?_;rintro _ _ ⟨rfl,rfl⟩;obtain⟨kx,kE,kF⟩:=h.setO (σ1:=σ) (v:=A0) (l:=[]) .none fun y o hy _=>⟨hy,Bh⟩;obtain⟨σ1,e1⟩:∃s1,s1=σ.set x (.cells (evC false {s with outs:=[]} {a with ov:=A0} false)):=⟨_,rfl⟩;rw[←e1]at kE kF⊢;have nx:=h.noX.2.2;have hL:LAt 5 σ1 a.ov (ouC s.outs):=h.co.keep fun y o hy ho=>by rw[e1,Ag fun e=>by rw[e]at ho;exact nx ho];exact hy
 have nf:∀{y},Own a.ov y→¬Bn x {a with ov:=A0} y:=fun{y} ho hf=>by
  rcases hf with e|e|e|e|e|e
  ·rw[e]at ho;exact nx ho
  ·rw[e]at ho;exact h.noT.2.2 ho
  ·rw[e]at ho;exact h.noB.2.2 ho
  ·exact(h.goq ho).1 e
  ·exact(h.goq ho).2 e
  ·exact Bh e
 refine⟨.sl 5 (ouC s.outs),St.free σ1 a.ov,view_of Qt hL.vw_free,rfl,_,kE.keep fun y o hy hf=>by rw[D7 fun ho=>nf ho hf];exact hy,fun y o hy hn=>⟨?_,(kF y o hy hn).2⟩⟩;rw[D7 fun ho=>hn (.inr (.inr (.inr (.inr (.inr ho)))))];exact(kF y o hy hn).1
theorem Akf(h:EV false σ x a s false)(hp:σ p=some (.cells [ptr x]))(f:Fa):AT Tryz.prog 65 [.agg f.cs,ptr p] σ fun r σ'=>r=boo (decide (f.at'=s.me))∧σ'=σ:=by
 refine AT.ob Tryz.func65 rfl ?_;simp only[go_sem];refine Ctx.nil.alloc fun q σ1 c1=>?_;have h1:=h.more c1.sub;have hx1:=h1.cx;have hq:=c1.g0;have hp1:=c1.sub _ _ hp;simp only[go_sem];refine Ae [.rd 0 false,.rd 1 true,.rd 2 true,.rd 3 false,.rd 4 false,.rd 5 true,.rd 6 false,.rd 7 false] ?_;simp only[go_sem,hp1,hq,hx1];exact Af (r:=boo (decide (f.at'=s.me))) rfl _ σ (Aq c1.sub) ⟨rfl,rfl⟩
def L1(s:ES):List Fa:=(hdsF s.B).filter fun y=>!decide (y.at'=s.me)
theorem Xy(h:EV false σ x a s false)(hs:SOk n s)(hn:n≤800000000000):AT Tryz.prog 23 [ptr x] σ fun r σ'=>r= .sl 4 (faC (L1 s))∧σ'=σ:=by
 have hm:AT Tryz.prog 23 [ptr x] σ fun r σ'=>LAt 4 σ' r (faC (L1 s))∧Cd σ σ' r:=by
  refine AT.ob Tryz.func23 rfl ?_;simp only[go_sem];refine Ctx.nil.alloc fun p σ1 c1=>?_;have hp:=c1.g0;have h1:=h.more c1.sub;have hx1:=h1.cx;have hb1:BK σ1 a.b s.B:=h1.cb;have hbl:=hs.bl;simp only[go_sem,hp];refine(Dy h1).mono ?_;rintro _ σ1 ⟨rfl,rfl⟩;simp only[go_sem,hp,hx1];refine(Ag1 hb1 (hs.bok (by omega))).mono ?_;rintro v σ2 ⟨k1,k2,k3⟩;have hl:=Br (c:=Ar) (s:=[]) (l:=s.B.map De.hd);simp only[List.length_nil,List.length_map]at hl;simp only[go_sem];simp only[Eh,Cv];simp only[go_sem];refine(U8 (β:=σ1) (hdsF s.B) (fun y=>decide (y.at'=s.me)) k1 (by unfold hdsF;omega) k2 k3 fun σ' hs' y hy=>Akf (h1.more hs') (hs' _ _ hp) y).mono ?_;rintro r σ4 ⟨q1,q2⟩;simp only[go_sem];exact Ad (r:=r) rfl ⟨q1,fun y o hy=>q2 y o (c1.sub y o hy)⟩
 exact hm.post (by kernel_rfl) fun r σ' ⟨h1,h2⟩=>⟨_,_,Fs h1 h2,rfl,rfl⟩
end
section
variable{σ σ1:St}{x:Nat}{a:EA}{s:ES}{n:Nat}{hv:Bool}
@[go_sem] theorem Aqt(s:ES)(a:EA)(hv:Bool):(evC true s a hv).length=10:=rfl
@[go_sem] theorem Au1(s:ES)(a:EA)(hv:Bool):(evC true s a hv).getD 0 (.v undef)=str s.me:=rfl
@[go_sem] theorem Au2(s:ES)(a:EA)(hv:Bool):(evC true s a hv).getD 1 (.v undef)= .sl 1 (stC s.names):=rfl
@[go_sem] theorem Au3(s:ES)(a:EA)(hv:Bool):(evC true s a hv).getD 2 (.v undef)= .sl 11 (rlC s.rules):=rfl
@[go_sem] theorem Au4(s:ES)(a:EA)(hv:Bool):(evC true s a hv).getD 3 (.v undef)=ptr a.t:=rfl
@[go_sem] theorem Au5(s:ES)(a:EA)(hv:Bool):(evC true s a hv).getD 4 (.v undef)=ptr a.b:=rfl
@[go_sem] theorem Au6(s:ES)(a:EA)(hv:Bool):(evC true s a hv).getD 5 (.v undef)=a.gv:=rfl
@[go_sem] theorem Au7(s:ES)(a:EA)(hv:Bool):(evC true s a hv).getD 6 (.v undef)=a.qv:=rfl
@[go_sem] theorem Au8(s:ES)(a:EA)(hv:Bool):(evC true s a hv).getD 7 (.v undef)=a.ov:=rfl
@[go_sem] theorem Au9(s:ES)(a:EA)(hv:Bool):(evC true s a hv).getD 8 (.v undef)=boo s.full:=rfl
@[go_sem] theorem Ava(s:ES)(a:EA)(hv:Bool):(evC true s a hv).getD 9 (.v undef)=boo hv:=rfl
theorem EV.gsl(h:EV true σ x a s hv):a.gv= .sl 4 (faC s.given):=h.cg
theorem EV.setH(h:EV true σ x a s hv){l:List Fa}:EV true (σ.set x (.cells (evC true {s with given:=l} {a with gv:=.sl 4 (faC l)} hv))) x {a with gv:=.sl 4 (faC l)} {s with given:=l} hv∧Frm x a {a with gv:=.sl 4 (faC l)} σ (σ.set x (.cells (evC true {s with given:=l} {a with gv:=.sl 4 (faC l)} hv))):=by
 refine⟨⟨Ab,by rw[Ag h.xt.symm];exact h.ct,by rw[Ag h.xb.symm];exact h.cb,rfl,?_,?_,h.xt,h.xb,h.tb,fun y ho=>absurd ho Gj⟩,fun y o hy hn=>?_⟩
 ·exact h.cq.keep fun y o hy ho=>by rw[Ag (fun e=>by rw[e]at ho;exact h.noX.2.1 ho)];exact hy
 ·exact h.co.keep fun y o hy ho=>by rw[Ag (fun e=>by rw[e]at ho;exact h.noX.2.2 ho)];exact hy
 ·have hx:y≠x:=fun e=>hn (.inl e)
  refine⟨by rw[Ag hx];exact hy,fun hf=>?_⟩;rcases hf with e|e|e|e|e|e
  ·exact hx e
  ·exact hn (.inr (.inl e))
  ·exact hn (.inr (.inr (.inl e)))
  ·exact Gj e
  ·exact hn (.inr (.inr (.inr (.inr (.inl e)))))
  ·exact hn (.inr (.inr (.inr (.inr (.inr e)))))
theorem Kx(h:EV true σ x a s hv)(hs:SOk n s)(hn:n≤800000000000):AT Tryz.prog 31 [ptr x] σ fun r σ'=>r= .sl 4 (faC (L1 s))∧σ'=σ:=by
 have hm:AT Tryz.prog 31 [ptr x] σ fun r σ'=>LAt 4 σ' r (faC (L1 s))∧Cd σ σ' r:=by
  refine AT.ob Tryz.func31 rfl ?_;have hx:=h.cx;have hb:RK σ a.b s.B:=h.cb;have hbl:=hs.bl;simp only[go_sem,hx];refine(Ae1 hb (hs.bok (by omega))).mono ?_;rintro _ σ ⟨rfl,rfl⟩;obtain⟨H,hH⟩:∃H,H=hdsF s.B:=⟨_,rfl⟩;have hl:=Br (c:=Ar) (s:=[]) (l:=s.B.map De.hd);simp only[List.length_nil,List.length_map]at hl;have hHl:H.length≤800000000000:=by rw[hH];unfold hdsF;omega
  have hE:L1 s=H.filter fun y=>!decide (y.at'=s.me):=by rw[hH];rfl
  rw[←hH];simp only[go_sem,Aa];refine⟨fun m fr σ'=>∃(i:Nat) (lv:AV),m=H.length-i∧i≤H.length∧LAt 4 σ' lv (faC ((H.take i).filter fun y=>!decide (y.at'=s.me)))∧Cd σ σ' lv∧fr 0=ptr x∧fr 3=lv∧fr 4= .sl 4 (faC H)∧fr 5=int i,⟨_,0,A0,rfl,by omega,.none,.nil,rfl,rfl,rfl,rfl⟩,?_⟩;rintro m fr σ2 ⟨i,lv,rfl,hi,hL,hG,f0,f3,f4,f5⟩;have hx2:=(hG _ _ hx).1;simp only[go_sem,f4,f5,Am];refine aIf_by (fun hlt=>?_) (fun hlt=>?_)
  ·have hil:i<H.length:=by omega
   have et:=Ia (p:=fun y:Fa=>!decide (y.at'=s.me)) hil;have nx:=Ai (show i<9223372036854775807 by omega);simp only[go_sem,Aa];refine Ae [.rd 0 false,.rd 1 false,.rd 2 false,.rd 3 false,.rd 4 true,.rd 5 false,.rd 6 false,.rd 7 false,.rd 8 true,.rd 9 false] ?_;simp only[go_sem,Aa,f0,f4,f5,hx2,Au hil,Am];refine⟨by omega,?_⟩;by_cases e:H[i].at'=s.me
   ·rw[if_neg (by simpa using e),List.append_nil]at et
    simp only[go_sem,Aa,decide_eq_true e,f5,nx];exact⟨H.length-(i+1),by omega,i+1,lv,rfl,by omega,by rw[et];exact hL,hG,f0,f3,f4,rfl⟩
   ·rw[if_pos (by simpa using e)]at et
    have tl:((H.take i).filter fun y=>!decide (y.at'=s.me)).length≤H.length:=Mk;simp only[go_sem,Aa,decide_eq_false e,f3,f4,f5,Au hil,Am];refine⟨by omega,?_⟩;refine As (ys:=[H[i].cs]) rfl (by decide) (by decide) (by decide) (hL.app (by rw[Am];simp only[List.length_cons,List.length_nil];omega) fun lv' σ5 hL5 hs5=>?_);have e5:faC ((H.take i).filter fun y=>!decide (y.at'=s.me))++[H[i].cs]=faC ((H.take (i+1)).filter fun y=>!decide (y.at'=s.me)):=by rw[et];simp[faC]
    rw[e5]at hL5;simp only[go_sem,Aa,f5,nx];exact⟨H.length-(i+1),by omega,i+1,lv',rfl,by omega,hL5,hG.step hs5,f0,rfl,f4,rfl⟩
  ·rw[List.take_of_length_le (by omega)]at hL
   simp only[go_sem,Aa,f3];exact Ad (r:=lv) rfl ⟨by rw[hE];exact hL,hG⟩
 exact hm.post (by kernel_rfl) fun r σ' ⟨h1,h2⟩=>⟨_,_,Fs h1 h2,rfl,rfl⟩
theorem Aau(h:EV true σ x a s hv)(hs:SOk n s)(hn:n≤800000000000)(f:Fa):
  AT Tryz.prog 43 [ptr x,.agg f.cs] σ fun r σ'=>r=int (G6 s f).1∧∃a',EV true σ' x a' (G6 s f).2 hv∧Frm x a a' σ σ':=by
 refine AT.ob Tryz.func43 rfl ?_;simp only[go_sem];refine Ctx.nil.alloc fun p σ2 c2=>?_;have hp:=c2.g0;have hsb:=c2.sub;have fp:=c2.f0;clear c2;have h2:=h.more hsb;have stay:∀{k:Int},G6 s f=(k,s)→∀{fr:Fr},Bb Tryz.prog fr σ2 (Tryz.f43).results.toList=some (int k)→D3 Tryz.prog (fun r σ'=>r=int (G6 s f).1∧∃a',EV true σ' x a' (G6 s f).2 hv∧Frm x a a' σ σ') (Tryz.f43).results.toList fr σ2:=fun e _ hr=>
  Ad hr ⟨by rw[e],a,by rw[e];exact h2,.of hsb⟩
 simp only[go_sem,hp];refine(Pt f).mono ?_;rintro _ σ2 ⟨rfl,rfl⟩;have hx2:=h2.cx;cases hok:okF f with
 |false=>
  have e1:okE f=40:=by unfold okE;rw[hok];rfl
  have d2:(!decide (okE f=0))=true:=by rw[e1];rfl
  simp only[go_sem,d2];exact stay (by unfold G6;rw[hok];rfl) rfl
 |true=>
 have e1:okE f=0:=by unfold okE;rw[hok];rfl
 have d2:(!decide (okE f=0))=false:=by rw[e1];rfl
 have hfs:=Vr hok;simp only[go_sem,d2];refine Ae [.rd 0 false,.rd 1 true,.rd 2 false,.rd 3 false,.rd 4 false,.rd 5 true,.rd 6 false] ?_;simp only[go_sem,hp,hx2];by_cases hat:f.at'=s.me
 case neg=>
  simp only[go_sem,decide_eq_false hat];exact stay (by unfold G6;rw[hok,if_pos rfl,if_neg hat]) rfl
 simp only[go_sem,decide_eq_true hat];refine Ae [.rd 0 false,.rd 1 false,.rd 2 false,.rd 3 true,.rd 4 true,.ef 5 []] ?_;have hgs:=h2.gsl;have hgl:=hs.gl;simp only[go_sem,hp,hx2,hgs];refine(Ds s.given f (by omega) hs.gs hfs).mono ?_;rintro _ σ2 ⟨rfl,rfl⟩;by_cases hin:f∈s.given
 ·simp only[go_sem,decide_eq_true hin]
  exact stay (by unfold G6;rw[hok,if_pos rfl,if_pos hat,if_pos hin]) rfl
 have hfr:G6 s f=(0,{s with given:=Bd Ar f s.given,queue:=s.queue++[f]}):=by
  unfold G6;rw[hok,if_pos rfl,if_pos hat,if_neg hin,Ko,Ex hs.gr];rfl
 simp only[go_sem,decide_eq_false hin];refine Ae [.rd 0 false,.rd 1 false,.rd 2 false,.rd 3 false,.rd 4 true,.rd 5 true,.ef 6 [],.rd 7 false,.rd 8 false,.ef 9 []] ?_;simp only[go_sem,hp,hx2,hgs];refine(Lu s.given f (by omega) hs.gs hfs).mono ?_;rintro _ σ2 ⟨rfl,rfl⟩;obtain⟨kE,kF⟩:=h2.setH (l:=Bd Ar f s.given);have hpx:p≠x:=fun e=>by rw[e,h.cx]at fp;cases fp
 have esp:Ay (evC true s a hv) 5 [.sl 4 (faC (Bd Ar f s.given))]=evC true {s with given:=Bd Ar f s.given} {a with gv:=.sl 4 (faC (Bd Ar f s.given))} hv:=rfl;simp only[go_sem,hx2,esp,kE.all1];have F3:=(Frm.of hsb).trans kF;obtain⟨s1,hs1⟩:∃s1:ES,s1={s with given:=Bd Ar f s.given}:=⟨_,rfl⟩;obtain⟨a1,ha1⟩:∃a1:EA,a1={a with gv:=.sl 4 (faC (Bd Ar f s.given))}:=⟨_,rfl⟩;rw[←hs1,←ha1]at kE F3⊢;have q1:s1.queue=s.queue:=by rw[hs1]
 have hp5:(σ2.set x (.cells (evC true s1 a1 hv))) p=some (.cells f.cs):=by rw[Ag hpx];exact hp
 clear kF esp;generalize σ2.set x (.cells (evC true s1 a1 hv))=σ5 at kE F3 hp5⊢;have hx5:=kE.cx;have hql:=hs.ql;refine Ae [.rd 0 false,.rd 1 false,.rd 2 false,.rd 3 false,.rd 4 true,.rd 5 true,.rd 6 false,.ef 7 [],.rd 8 false,.rd 9 false,.ef 10 []] ?_;simp only[go_sem,hx5,hp5];refine As (ys:=[f.cs]) rfl (by decide) (by decide) (by decide) (kE.cq.app (by decide) (by simp) (by rw[Am,q1];simp only[List.length_cons,List.length_nil];omega) fun v' σ4 k1 k2=>?_);rw[show faC s1.queue++[f.cs]=faC (s1.queue++[f]) by simp[faC]]at k1;obtain⟨kx,kE,kF⟩:=kE.setQ k1 k2;have esp:Ay (evC true s1 a1 hv) 6 [v']=evC true {s1 with queue:=s1.queue++[f]} {a1 with qv:=v'} hv:=rfl;simp only[go_sem,kx,k1.one,k1.cells,esp,kE.all1];refine Ad (r:=int 0) rfl ⟨by rw[hfr],_,?_,F3.trans kF⟩;rw[hfr];rw[hs1]at kE⊢;exact kE
end
section
variable{σ:St}{x:Nat}{a:EA}{s:ES}{n:Nat}{hv:Bool}
set_option maxHeartbeats 1600000 in
theorem Ue(h:EV true σ x a s hv)(hs:SOk n s)(hn:n≤800000000000)(i:Nat)(hi:i<s.rules.length)(body:List Fa)(hb:body.length=s.rules[i].bo.length)(hbs:∀y∈body,y.Sm):
  AT Tryz.prog 123 [ptr x,int i,.sl 4 (faC body)] σ fun _ σ'=>∃a',EV true σ' x a' (Fx s i body) hv∧Frm x a a' σ σ':=by
 refine AT.ob Tryz.func123 rfl ?_;have hf0:Fx s i body=match hdE s.me s.rules[i] body with
   |none=>s
   |some f=>if f.at'∈s.names∧okF f=true then
     if(⟨i,f,body⟩:De)∈s.B then s
     else if f.at'=s.me then(if f∈s.T then{s with B:=Bd Bf ⟨i,f,body⟩ s.B}else{s with B:=Bd Bf ⟨i,f,body⟩ s.B,queue:=s.queue++[f]})
     else(if 0<(ofF s.B f).length then{s with B:=Bd Bf ⟨i,f,body⟩ s.B}else{s with B:=Bd Bf ⟨i,f,body⟩ s.B,outs:=s.outs++[(f,false)]})
    else s:=by unfold Fx;rw[Fm hi];first|done|rfl
 have hr4:=hs.rs _ (List.getElem_mem hi);have hnl:=hs.nl;have hx:=h.cx;obtain⟨r,hr⟩:∃r,r=s.rules[i]:=⟨_,rfl⟩;rw[←hr]at hr4 hb hf0;have hr1:=hr4.1.1;have hr2:=hr4.1.2;have har:=hr4.2;have rg:(rlC s.rules).getD i []=r.cs:=by rw[hr];exact C7 hi
 have bl:=Am body;simp only[go_sem,Aa,hx,rg,Cm];refine⟨by omega,Ctx.nil.alloc fun q σ2 c2=>?_⟩;obtain⟨σ3,e3,c3⟩:=c2.abs 0 rfl (.cells r.cs);have hq:σ3 q=some (.cells r.cs):=c3.g0;have hs3:=c3.sub;have h3:=h.more hs3;have hx3:=h3.cx;simp only[go_sem,Aa,c2.g0,e3];clear e3 c3 c2;refine Ae [.rd 0 false,.rd 1 true,.rd 2 false,.rd 3 false,.rd 4 false,.rd 5 true,.ef 6 [1],.ef 7 [],.rd 8 false,.rd 9 false,.rd 10 false,.rd 11 false,.rd 12 false] ?_;simp only[go_sem,Aa,hq,hx3];refine(N3 s.me).mono ?_;rintro _ σ3 ⟨rfl,rfl⟩;simp only[go_sem,Aa];refine⟨fun k hk=>?_,(AT.weak (Je r.ho (nmC s.me) [] (by simp)) (vws_same (vws_same (vws_cons (.nil 4) By)))).mono ?_⟩
 ·simp only[go_sem,Aa,hq]
  exact hk
 rintro _ σ3 ⟨rfl,rfl⟩;obtain⟨ok0,E0,hE0,hok0⟩:∃(ok0:Bool) (E0:List Bi),Ie (Bm r.ho (nmC s.me) [])= .tup [.sl 4 (biC E0),boo ok0]∧(ok0=true→Bm r.ho (nmC s.me) []=some E0∧E0.length≤1)∧(ok0=false→Bm r.ho (nmC s.me) []=none∧E0=[]):=by
  cases hu:Bm r.ho (nmC s.me) []with
  |none=>exact⟨false,[],rfl,fun h=>(by cases h),fun _=>⟨rfl,rfl⟩⟩
  |some e=>
   have:=Gr hu;exact⟨true,e,rfl,fun _=>⟨rfl,by simpa using this⟩,fun h=>(by cases h)⟩
 rw[hE0];simp only[go_sem,Aa];refine⟨fun m fr σ'=>∃(j:Nat) (ok:Bool) (e:List Bi),m=body.length-j∧j≤body.length∧(ok=true→e.length≤10+302*j∧(Bm r.ho (nmC s.me) []).bind (Jp r.ho r.bo body)=Jp r.ho (r.bo.drop j) (body.drop j) e)∧(ok=false→e=[]∧(Bm r.ho (nmC s.me) []).bind (Jp r.ho r.bo body)=none)∧σ'=σ3∧fr 0=ptr x∧fr 1=int i∧fr 2= .sl 4 (faC body)∧fr 6=ptr q∧fr 7= .sl 4 (biC e)∧fr 8=boo ok∧fr 9=int j,⟨_,0,ok0,E0,rfl,by omega,fun h=>?_,fun h=>⟨(hok0.2 h).2,by rw[(hok0.2 h).1];rfl⟩,rfl,rfl,rfl,rfl,rfl,rfl,rfl,rfl⟩,?_⟩
 ·obtain⟨h1,h2⟩:=hok0.1 h
  exact⟨by omega,by rw[h1];rfl⟩
 clear hE0 hok0;have hdn:∀{o:Option (List Bi)},(Bm r.ho (nmC s.me) []).bind (Jp r.ho r.bo body)=o→hdE s.me r body=o.bind (Fb r):=fun{o} h=>by
  unfold hdE;rw[←h];cases Bm r.ho (nmC s.me) []<;>rfl
 rintro m fr σ3 ⟨j,ok,e,rfl,hj,hok1,hok2,rfl,f0,f1,f2,f6,f7,f8,f9⟩;by_cases g:j<body.length∧ok=true
 ·obtain⟨hjl,rfl⟩:=g
  obtain⟨hel,hck⟩:=hok1 rfl;have d1:=decide_eq_true (show(j:Int)<body.length by omega);have hjr:j<r.bo.length:=by omega
  have hla:=hr2 _ (List.getElem_mem hjr);rw[W6 hjr hjl]at hck;simp only[go_sem,Aa,f2,f8,f9,bl,d1];refine Ae [.rd 0 false,.rd 1 true,.rd 2 false,.rd 3 true,.rd 4 false,.rd 5 false,.rd 6 true,.rd 7 false,.rd 8 false,.rd 9 false,.rd 10 true,.rd 11 false,.ef 12 [],.rd 13 false,.rd 14 false,.rd 15 false,.rd 16 false,.rd 17 false] ?_;simp only[go_sem,Aa,f2,f6,f7,f9,hq,Et hjr,Au hjl,bl];refine⟨by omega,by omega,(Ac8 r.ho r.bo[j] body[j] e (by omega) (by omega)).mono ?_⟩;rintro _ σ3 ⟨rfl,rfl⟩;have nx:=Ai (show j<9223372036854775807 by omega);cases hl:Bo r.ho r.bo[j] body[j] e with
  |none=>
   rw[hl]at hck;have hck:(Bm r.ho (nmC s.me) []).bind (Jp r.ho r.bo body)=none:=hck;simp only[go_sem,Aa,f9,nx];exact⟨body.length-(j+1),by omega,j+1,false,[],rfl,by omega,(fun h=>by cases h),fun _=>⟨rfl,hck⟩,f0,f1,f2,f6,rfl,rfl,rfl⟩
  |some e2=>
   rw[hl]at hck;have hck:(Bm r.ho (nmC s.me) []).bind (Jp r.ho r.bo body)=Jp r.ho (r.bo.drop (j+1)) (body.drop (j+1)) e2:=hck;have:=Qs hl;simp only[go_sem,Aa,f9,nx];exact⟨body.length-(j+1),by omega,j+1,true,e2,rfl,by omega,(fun _=>⟨by omega,hck⟩),(fun h=>by cases h),f0,f1,f2,f6,rfl,rfl,rfl⟩
 have hee:e.length≤1000000:=by
  cases ok with
  |true=>have:=(hok1 rfl).1;omega
  |false=>rw[(hok2 rfl).1];simp
 have hE:hdE s.me r body=if ok=true then Fb r e else none:=by
  cases ok with
  |true=>
   have hje:j=body.length:=by
    by_cases e:j<body.length
    ·exact absurd ⟨e,rfl⟩ g
    ·omega
   have hck:=(hok1 rfl).2;rw[W5 (by omega) (by omega)]at hck;rw[hdn hck];rfl
  |false=>rw[hdn (hok2 rfl).2];rfl
 clear hok1 hok2 hdn;by_cases hjl:j<body.length
 case' pos=>
  have d1:=decide_eq_true (show(j:Int)<body.length by omega);have hokf:ok=false:=by cases ok with
   |true=>exact absurd ⟨hjl,rfl⟩ g
   |false=>rfl
  simp only[go_sem,Aa,f2,f6,f7,f8,f9,bl,d1,hq,hokf]
 case' neg=>
  have d1:=decide_eq_false (show¬(j:Int)<body.length by omega);simp only[go_sem,Aa,f2,f6,f7,f8,f9,bl,d1,hq]
 all_goals
  refine(Aie r e (by omega) hee).mono ?_;rintro _ σ3 ⟨rfl,rfl⟩;simp only[go_sem,Aa];refine Ctx.nil.alloc fun p σ4 c4=>?_;obtain⟨σ2,e2,c2⟩:=c4.abs 0 rfl (.cells ((Fb r e).getD .nil).cs);have hp:σ2 p=some (.cells ((Fb r e).getD .nil).cs):=c2.g0;have hsb:∀y o,σ y=some o→σ2 y=some o:=fun y o hy=>c2.sub _ _ (hs3 y o hy);have fp:σ p=none:=Ct hs3 c4.f0;simp only[go_sem,Aa,c4.g0,e2];clear e2 c2 c4 h3 hx3 hq;have h2:=h.more hsb;have hx2:=h2.cx;have stay:Fx s i body=s→∀{fr:Fr} {σ':St},(∀y o,σ y=some o→σ' y=some o)→Bb Tryz.prog fr σ' (Tryz.f123).results.toList=some (.tup [])→D3 Tryz.prog (fun _ σ'=>∃a',EV true σ' x a' (Fx s i body) hv∧Frm x a a' σ σ') (Tryz.f123).results.toList fr σ':=fun e _ _ h2 hr=>
   Ad hr ⟨a,by rw[e];exact h.more h2,.of h2⟩
  refine Ae [.rd 0 false,.rd 1 false,.rd 2 false,.rd 3 false,.rd 4 false,.rd 5 false,.rd 6 false,.rd 7 false,.rd 8 false,.rd 9 false,.rd 10 true,.rd 11 false,.rd 12 true,.ef 13 [],.rd 14 false,.rd 15 false,.rd 16 false,.rd 17 true,.ef 18 [],.rd 19 false,.rd 20 false] ?_;by_cases hok8:ok=true
  case neg=>
   have hokf:ok=false:=by cases ok with
    |true=>exact absurd rfl hok8
    |false=>rfl
   rw[if_neg hok8]at hE;rw[hE]at hf0;simp only[go_sem,Aa,f8,hokf,Bool.not_false];exact stay hf0 hsb rfl
  rw[if_pos hok8]at hE;rw[hE]at hf0;cases hh:Fb r e with
  |none=>
   rw[hh]at hf0;simp only[go_sem,Aa,f8,hok8,Bool.not_true,Option.isSome_none,Bool.not_false];exact stay hf0 hsb rfl
  |some f=>
  rw[hh]at hf0 hp;simp only[Option.getD_some]at hf0 hp;have hfs:f.Sm:=X9 hr4 hh;simp only[go_sem,Aa,f0,f8,hok8,Bool.not_true,Option.isSome_some,hx2,hp];refine(Aif s.names f.at' (by omega)).mono ?_;rintro _ σ2 ⟨rfl,rfl⟩;by_cases hnm:f.at'∈s.names
  case neg=>
   rw[if_neg fun h=>hnm h.1]at hf0;simp only[go_sem,Aa,decide_eq_false hnm,Bool.not_false];exact stay hf0 hsb rfl
  simp only[go_sem,Aa,decide_eq_true hnm,Bool.not_true,hp];refine(Pt f).mono ?_;rintro _ σ2 ⟨rfl,rfl⟩;cases hok:okF f with
  |false=>
   have e1:okE f=40:=by unfold okE;rw[hok];rfl
   have d2:(!decide (okE f=0))=true:=by rw[e1];rfl
   rw[if_neg fun h=>by rw[hok]at h;cases h.2]at hf0;simp only[go_sem,Aa,d2];exact stay hf0 hsb rfl
  |true=>
  have e1:okE f=0:=by unfold okE;rw[hok];rfl
  have d2:(!decide (okE f=0))=false:=by rw[e1];rfl
  rw[if_pos ⟨hnm,hok⟩]at hf0;have hbk:=hs.bok (by omega);have hb2:RK σ2 a.b s.B:=h2.cb;simp only[go_sem,Aa,d2];refine Ae [.rd 0 false,.rd 1 false,.rd 2 false,.rd 3 true,.rd 4 true,.ef 5 [],.rd 6 false,.rd 7 false,.rd 8 false] ?_;simp only[go_sem,Aa,f0,hx2,hp];refine(Aaw hb2 hbk f hfs).mono ?_;rintro _ σ2 ⟨rfl,rfl⟩;obtain⟨d,hd⟩:∃d:De,d=⟨i,f,body⟩:=⟨_,rfl⟩;have hds:d.Sm:=by rw[hd];exact⟨hfs,by show body.length≤1000000000000;omega,hbs⟩
  rw[←hd]at hf0;simp only[go_sem,Aa,At];refine Ae [.rd 0 false,.rd 1 false,.rd 2 false,.rd 3 true,.rd 4 false,.rd 5 true,.rd 6 false,.rd 7 false,.ef 8 [],.rd 9 false] ?_;simp only[go_sem,Aa,f0,f1,f2,hx2,hp];refine⟨Nat.le_refl 5,?_⟩;show AT Tryz.prog 176 [ptr a.b,.agg (De.mk i f body).cs] _ _;rw[←hd];refine(Alk hb2 hbk d hds).mono ?_;rintro _ σ3 ⟨rfl,rfl⟩;by_cases hm:d∈s.B
  ·rw[if_pos hm]at hf0
   have e:σ2.set a.b (rkC (Bd Bf d s.B))=σ2:=by
    rw[Gk A7 (Gd A7 hbk.rises) hbk.rises fun y=>by rw[Es A7];exact⟨fun h=>h.elim (fun e=>e▸hm) _root_.id,.inr⟩];exact Bp hb2
   rw[e];simp only[go_sem,Aa,decide_eq_true hm,Bool.not_true,Bool.not_false];exact stay hf0 hsb rfl
  rw[if_neg hm]at hf0;have hpb:p≠a.b:=fun e=>by rw[e,h.cb]at fp;cases fp
  have h3:=h2.setB (B:=Bd Bf d s.B);have hp3:(σ2.set a.b (bkT true (Bd Bf d s.B))) p=some (.cells f.cs):=by rw[Ag hpb];exact hp
  have F3:Frm x a a σ (σ2.set a.b (bkT true (Bd Bf d s.B))):=(Frm.of hsb).trans .setB;rw[show rkC (Bd Bf d s.B)=bkT true (Bd Bf d s.B)from rfl];obtain⟨s1,hs1⟩:∃s1:ES,s1={s with B:=Bd Bf d s.B}:=⟨_,rfl⟩;rw[←hs1]at h3;have m1:s1.me=s.me:=by rw[hs1]
  have q1:s1.queue=s.queue:=by rw[hs1]
  have o1:s1.outs=s.outs:=by rw[hs1]
  have T1:s1.T=s.T:=by rw[hs1]
  generalize σ2.set a.b (bkT true (Bd Bf d s.B))=σ3 at h3 hp3 F3⊢;have hx3:=h3.cx;have ht3:σ3 a.t=some (.cells [.sl 4 (faC s1.T),int s1.lim]):=h3.ct;have done:Fx s i body=s1→∀{fr:Fr},Bb Tryz.prog fr σ3 (Tryz.f123).results.toList=some (.tup [])→D3 Tryz.prog (fun _ σ'=>∃a',EV true σ' x a' (Fx s i body) hv∧Frm x a a' σ σ') (Tryz.f123).results.toList fr σ3:=fun e _ hr=>
   Ad hr ⟨a,by rw[e];exact h3,F3⟩
  simp only[go_sem,Aa,decide_eq_false hm,Bool.not_false,Bool.not_true];refine Ae [.rd 0 false,.rd 1 true,.rd 2 false,.rd 3 false,.rd 4 false,.rd 5 true,.rd 6 false] ?_;by_cases hat:f.at'=s.me
  ·rw[if_pos hat]at hf0
   simp only[go_sem,Aa,f0,hx3,hp3,m1,decide_eq_true hat];refine Ae [.rd 0 false,.rd 1 false,.rd 2 false,.rd 3 true,.rd 4 false,.rd 5 false,.rd 6 true,.rd 7 true,.ef 8 [],.rd 9 false] ?_;simp only[go_sem,Aa,f0,hx3,hp3,ht3];have htok:TOk s1.T s1.lim:=by rw[hs1];exact hs.tok
   have htl:=htok.len;refine(Ds s1.T f (by omega) htok.sm hfs).mono ?_;rintro _ σ3 ⟨rfl,rfl⟩;rw[T1];by_cases hin:f∈s.T
   ·rw[if_pos hin]at hf0
    simp only[go_sem,Aa,decide_eq_true hin,Bool.not_true];exact done (by rw[hf0,hs1]) rfl
   ·rw[if_neg hin]at hf0
    simp only[go_sem,Aa,decide_eq_false hin,Bool.not_false];refine Ae [.rd 0 false,.rd 1 false,.rd 2 false,.rd 3 false,.rd 4 true,.rd 5 true,.rd 6 false,.ef 7 [],.rd 8 false,.rd 9 false,.ef 10 []] ?_;simp only[go_sem,Aa,f0,hx3,hp3];have hql:=hs.ql;refine As (ys:=[f.cs]) rfl (by decide) (by decide) (by decide) (h3.cq.app (by decide) (by simp) (by rw[Am,q1];simp only[List.length_cons,List.length_nil];omega) fun v' σ4 k1 k2=>?_);rw[show faC s1.queue++[f.cs]=faC (s1.queue++[f]) by simp[faC]]at k1;obtain⟨kx,kE,kF⟩:=h3.setQ k1 k2;have esp:Ay (evC true s1 a hv) 6 [v']=evC true {s1 with queue:=s1.queue++[f]} {a with qv:=v'} hv:=rfl;simp only[go_sem,Aa,kx,k1.one,k1.cells,esp,kE.all1];refine Ad (r:=.tup []) rfl ⟨_,?_,F3.trans kF⟩;rw[hf0];rw[hs1]at kE⊢;exact kE
  ·rw[if_neg hat]at hf0
   by_cases hwas:0<(ofF s.B f).length
   ·rw[if_pos hwas]at hf0
    have d5:=decide_eq_true (show(0:Int)<(ofF s.B f).length by omega);simp only[go_sem,Aa,f0,hx3,hp3,m1,decide_eq_false hat,d5,Bool.not_true];exact done (by rw[hf0,hs1]) rfl
   ·rw[if_neg hwas]at hf0
    have d5:=decide_eq_false (show¬(0:Int)<(ofF s.B f).length by omega);simp only[go_sem,Aa,f0,hx3,hp3,m1,decide_eq_false hat,d5,Bool.not_false];refine Ae [.rd 0 false,.rd 1 false,.rd 2 false,.rd 3 false,.rd 4 true,.rd 5 true,.rd 6 false,.rd 7 false,.ef 8 [],.rd 9 false,.rd 10 false,.ef 11 []] ?_;simp only[go_sem,Aa,f0,hx3,hp3];have hol:=hs.ol;refine⟨rfl,rfl,?_⟩;refine As (ys:=[f.cs++[boo false]]) rfl (by decide) (by decide) (by decide) (h3.co.app (by rw[Hj,o1];simp only[List.length_cons,List.length_nil];omega) fun v' σ4 k1 k2=>?_);rw[show ouC s1.outs++[f.cs++[boo false]]=ouC (s1.outs++[(f,false)]) by simp[ouC]]at k1;obtain⟨kx,kE,kF⟩:=h3.setO k1 k2;have esp:Ay (evC true s1 a hv) 7 [v']=evC true {s1 with outs:=s1.outs++[(f,false)]} {a with ov:=v'} hv:=rfl;simp only[go_sem,Aa,kx,k1.one,k1.cells,esp,kE.all1];refine Ad (r:=.tup []) rfl ⟨_,?_,F3.trans kF⟩;rw[hf0];rw[hs1]at kE⊢;exact kE
end
theorem Agx(ho:Tm):∀(ls:List (Li×List Fa)) (env:List Bi) (got:List Fa) (s:List (List Fa)×Nat),(∀x∈got,x.Sm)→(∀p∈ls,∀x∈p.2,x.Sm)→∀a∈(frm ho ls env got s).1,a∈s.1∨(a.length=got.length+ls.length∧∀y∈a,y.Sm)
 | [],env,got,s,h2,h3,a,ha=>by
  rcases(Es Dh).1 ha with rfl|ha
  ·exact .inr ⟨rfl,h2⟩
  ·exact .inl ha
 |p::ls,env,got,s,h2,h3,a,ha=>by
  rw[Nn]at ha;have h3':=h3 p (List.mem_cons_self ..);revert ha;generalize p.2=l at h3'
  induction l generalizing s with
  |nil=>exact fun ha=>.inl ha
  |cons x l ih=>
   rw[List.foldl_cons];intro ha;rcases ih _ (fun y hy=>h3' y (List.mem_cons_of_mem _ hy)) ha with hb|hb
   ·revert hb
    unfold stp;split
    ·exact fun hb=>.inl hb
    ·split
     ·rename_i e _
      intro hb
      rcases Agx ho ls e (got++[x]) (s.1,s.2+1) (fun y hy=>by
       rcases List.mem_append.1 hy with hy|hy
       ·exact h2 y hy
       ·rw[List.mem_singleton.1 hy];exact h3' x (List.mem_cons_self ..)) (fun p hp=>h3 p (List.mem_cons_of_mem _ hp)) a hb with h|h
      ·exact .inl h
      ·exact .inr ⟨by rw[h.1];simp only[List.length_append,List.length_cons,List.length_nil];omega,h.2⟩
     ·exact fun hb=>.inl hb
   ·exact .inr hb
theorem U9{r:Rl}{me:ByteArray}{first:Int}{f:Fa}{l:List Fa}(hf:f.Sm)(hl:∀y∈l,y.Sm):∀b∈(Jq r me first f l).1,b.length=r.bo.length∧∀y∈b,y.Sm:=by
 unfold Jq;split
 ·intro b hb
  rcases Agx r.ho (lsF r first f l 0 r.bo.length) _ [] ([],0) (fun y hy=>by cases hy) (fun p hp y hy=>by
   unfold lsF at hp;obtain⟨j,_,rfl⟩:=List.mem_map.1 hp;simp only at hy;unfold Cr at hy;split at hy
   ·rw[List.mem_singleton.1 hy];exact hf
   ·exact hl y hy) b hb with h|h
  ·cases h
  ·exact⟨by rw[h.1];simp[lsF],h.2⟩
 ·intro b hb;cases hb
theorem docl{r:Rl}{me:ByteArray}{first:Int}{f:Fa}{l:List Fa}:(Jq r me first f l).1.length≤30002:=by
 unfold Jq;split
 ·have:=Zy r.ho (lsF r first f l 0 r.bo.length) ‹_› [] ([],0) (by simp) (by simp)
  omega
 ·simp
section
variable{σ:St}{x:Nat}{a:EA}{s:ES}{n:Nat}{hv:Bool}
theorem Dl{r:Bool}(h:EV r σ x a s hv){y:Nat}(hf:Bn x a y):∃o,σ y=some o:=by
 rcases hf with rfl|rfl|rfl|e|e|e
 ·exact⟨_,h.cx⟩
 ·exact⟨_,h.ct⟩
 ·exact⟨_,h.cb⟩
 ·obtain⟨c,hc⟩:=h.grow e;exact⟨_,hc⟩
 ·obtain⟨r,c,hc⟩:=h.cq.rows e;exact⟨_,hc⟩
 ·obtain⟨c,hc⟩:=h.co.own_rows e;exact⟨_,hc⟩
theorem EV.heavy(h:EV true σ x a s hv){hv':Bool}:EV true (σ.set x (.cells (evC true s a hv'))) x a s hv':=h.setX (f:=s.full) (hv':=hv')
theorem Yo(h:EV true σ x a s hv)(hs:SOk n s)(hn:n+60004≤800000000000)(i:Nat)(hi:i<s.rules.length)(j:Int)(f:Fa)(hf:f.Sm):
  AT Tryz.prog 68 [ptr x,int i,int j,.agg f.cs] σ fun _ σ'=>∃a',EV true σ' x a' (bdS i (Jq s.rules[i] s.me j f s.T).1 s) (hv||decide (30000<(Jq s.rules[i] s.me j f s.T).2))∧Frm x a a' σ σ':=by
 refine AT.ob Tryz.func68 rfl ?_;have hr4:=hs.rs _ (List.getElem_mem hi);have htl:=hs.tok.len;obtain⟨r,hr⟩:∃r,r=s.rules[i]:=⟨_,rfl⟩;rw[←hr]at hr4⊢;have rg:(rlC s.rules).getD i []=r.cs:=by rw[hr];exact C7 hi
 simp only[go_sem];refine Ctx.nil.alloc fun p σ1 c1=>?_;simp only[go_sem];refine c1.alloc fun w σ2 c2=>?_;have hp:=c2.g1.1.2;have hs2:=c2.sub;have h2:=h.more hs2;have hx2:=h2.cx;have ht2:σ2 a.t=some (.cells [.sl 4 (faC s.T),int s.lim]):=h2.ct;have fw:=c2.f0;have hw2:=c2.g1.1.1;have hF:FI σ σ2 w [] 0:=⟨A0,by rw[c2.g0];rfl,.none,fun y o hy=>⟨hs2 y o hy,fun e=>(by rw[e,fw]at hy;cases hy),Bh⟩⟩;have nw:¬Bn x a w:=fun hf=>by obtain⟨o,ho⟩:=Dl h hf;rw[fw]at ho;cases ho
 clear c1 c2;simp only[go_sem];refine Ae [.rd 0 false,.rd 1 false,.rd 2 false,.rd 3 false,.rd 4 true,.rd 5 false,.rd 6 false,.rd 7 true,.rd 8 false,.rd 9 false,.rd 10 false,.rd 11 true,.rd 12 false,.rd 13 true,.rd 14 false,.rd 15 false,.rd 16 false,.rd 17 true,.rd 18 false,.rd 19 false,.rd 20 true,.ef 21 []] ?_;simp only[go_sem,hx2,rg,Cm,hp,ht2];refine⟨by omega,(Aao r s.me j f s.T hr4.1 hf (by omega) hs.tok.sm hF).mono ?_⟩;rintro _ σ3 ⟨lv,k1,k2,k3⟩;obtain⟨D,hD⟩:∃D,D=Jq r s.me j f s.T:=⟨_,rfl⟩;rw[←hD]at k1 k2⊢;have hDl:D.1.length≤30002:=by rw[hD];exact docl
 have hDe:∀b∈D.1,b.length=r.bo.length∧∀y∈b,y.Sm:=by rw[hD];exact U9 hf hs.tok.sm
 have h3:EV true σ3 x a s hv:=h.keep fun y o hy _=>(k3 y o hy).1;have F3:Frm x a a σ σ3:=.of fun y o hy=>(k3 y o hy).1;have nlv:∀y,Own lv y→¬Bn x a y:=fun y ho hf=>by
  obtain⟨o,hy⟩:=Dl h hf;exact(k3 y o hy).2.2 ho
 clear h2 hx2 ht2 hp hw2 hF hs2 k3 fw hD;have hx3:=h3.cx;obtain⟨hv',hhv⟩:∃hv',hv'=(hv||decide (30000<D.2)):=⟨_,rfl⟩;rw[←hhv];have h4:=h3.heavy (hv':=hv');have F4:Frm x a a σ (σ3.set x (.cells (evC true s a hv'))):=F3.trans .setX;have nwx:w≠x:=fun e=>nw (.inl e);have kw4:(σ3.set x (.cells (evC true s a hv'))) w=some (.cells [lv,int D.2,boo (decide (30000<D.2))]):=by rw[Ag nwx];exact k1
 have L4:LAt 1 (σ3.set x (.cells (evC true s a hv'))) lv (boC D.1):=k2.keep fun y o hy ho=>by rw[Ag fun e=>nlv y ho (.inl e)];exact hy
 have esp:Ay (evC true s a hv) 9 [boo hv']=evC true s a hv':=rfl;have bcl:(boC D.1).length=D.1.length:=by simp[boC]
 generalize hσ4:σ3.set x (.cells (evC true s a hv'))=σ4 at h4 F4 kw4 L4;cases hv with
 |true=>
  have e1:hv'=true:=by rw[hhv];rfl
  rw[e1]at esp hσ4;simp only[go_sem,hx3,esp,hσ4];clear k1 k2 hx3 h3 F3 esp hσ4 hhv;have O0:SOk (n+2*0) s:=hs;refine⟨fun m fr σ'=>∃(k:Nat) (a':EA) (s':ES),m=D.1.length-k∧k≤D.1.length∧s'=bdS i (D.1.take k) s∧SOk (n+2*k) s'∧EV true σ' x a' s' hv'∧Frm x a a' σ σ'∧σ' w=some (.cells [lv,int D.2,boo (decide (30000<D.2))])∧¬Bn x a' w∧LAt 1 σ' lv (boC D.1)∧(∀y,Own lv y→¬Bn x a' y)∧fr 0=ptr x∧fr 1=int i∧fr 8=ptr w∧fr 9=int k,⟨_,0,a,s,rfl,by omega,rfl,O0,h4,F4,kw4,nw,L4,nlv,rfl,rfl,rfl,rfl⟩,?_⟩;clear O0 h4 F4 kw4 nw L4 nlv;rintro m fr σ5 ⟨k,a',s',rfl,hk,hs',hO,hE,hF,kw,nw,hL,nlv,f0,f1,f8,f9⟩;simp only[go_sem,f8,f9,kw,hL.len,bcl];refine aIf_by (fun hlt=>?_) (fun hlt=>?_)
  ·have hkl:k<D.1.length:=by omega
   have hb:=hDe _ (List.getElem_mem hkl);have K':SK s s':=by rw[hs'];exact Fj _ _ _
   have hil':i<s'.rules.length:=by rw[K'.rules];exact hi
   have hri:s'.rules[i]=r:=by rw[hr];exact List.getElem_of_eq K'.rules hil'
   have O2:SOk (n+2*(k+1)) (Fx s' i D.1[k]):=Rz hO i (by have:=hr4.1.1;omega) hb.2;simp only[go_sem,Aa,f0,f1,f8,f9,kw];refine hL.elem (by omega) (by rw[bcl];omega) fun e0 he0=>?_;simp only[go_sem,Aa];refine he0.load1 (by decide) (by rw[Int.toNat_natCast,C0 hkl];exact Nat.le_refl 1) ?_;simp only[go_sem,Aa,C0 hkl];refine(Ue hE hO (by omega) i hil' D.1[k] (by rw[hri];exact hb.1) hb.2).mono ?_;rintro _ σ6 ⟨a2,E2,G2⟩;have kw2:=G2 _ _ kw nw;simp only[go_sem,Aa,f9,Ai (show k<9223372036854775807 by omega)]
   exact⟨D.1.length-(k+1),by omega,k+1,a2,_,rfl,by omega,by rw[M7 _ hkl,hs'],O2,E2,hF.trans G2,kw2.1,kw2.2,hL.keep fun y o hy ho=>(G2 y o hy (nlv y ho)).1,fun y ho=>by
    obtain⟨c,hc⟩:=hL.own_rows ho;exact(G2 y _ hc (nlv y ho)).2,f0,f1,f8,rfl⟩
  ·have ek:k=D.1.length:=by omega
   rw[ek,List.take_length]at hs';simp only[go_sem,Aa];exact Ad (r:=.tup []) rfl ⟨a',by rw[←hs'];exact hE,hF⟩
 |false=>
  have e1:hv'=decide (30000<D.2):=by rw[hhv];rfl
  rw[e1]at esp hσ4;simp only[go_sem,hx3,k1,esp,hσ4];clear k1 k2 hx3 h3 F3 esp hσ4 hhv;have O0:SOk (n+2*0) s:=hs;refine⟨fun m fr σ'=>∃(k:Nat) (a':EA) (s':ES),m=D.1.length-k∧k≤D.1.length∧s'=bdS i (D.1.take k) s∧SOk (n+2*k) s'∧EV true σ' x a' s' hv'∧Frm x a a' σ σ'∧σ' w=some (.cells [lv,int D.2,boo (decide (30000<D.2))])∧¬Bn x a' w∧LAt 1 σ' lv (boC D.1)∧(∀y,Own lv y→¬Bn x a' y)∧fr 0=ptr x∧fr 1=int i∧fr 8=ptr w∧fr 9=int k,⟨_,0,a,s,rfl,by omega,rfl,O0,h4,F4,kw4,nw,L4,nlv,rfl,rfl,rfl,rfl⟩,?_⟩;clear O0 h4 F4 kw4 nw L4 nlv;rintro m fr σ5 ⟨k,a',s',rfl,hk,hs',hO,hE,hF,kw,nw,hL,nlv,f0,f1,f8,f9⟩;simp only[go_sem,f8,f9,kw,hL.len,bcl];refine aIf_by (fun hlt=>?_) (fun hlt=>?_)
  ·have hkl:k<D.1.length:=by omega
   have hb:=hDe _ (List.getElem_mem hkl);have K':SK s s':=by rw[hs'];exact Fj _ _ _
   have hil':i<s'.rules.length:=by rw[K'.rules];exact hi
   have hri:s'.rules[i]=r:=by rw[hr];exact List.getElem_of_eq K'.rules hil'
   have O2:SOk (n+2*(k+1)) (Fx s' i D.1[k]):=Rz hO i (by have:=hr4.1.1;omega) hb.2;simp only[go_sem,Aa,f0,f1,f8,f9,kw];refine hL.elem (by omega) (by rw[bcl];omega) fun e0 he0=>?_;simp only[go_sem,Aa];refine he0.load1 (by decide) (by rw[Int.toNat_natCast,C0 hkl];exact Nat.le_refl 1) ?_;simp only[go_sem,Aa,C0 hkl];refine(Ue hE hO (by omega) i hil' D.1[k] (by rw[hri];exact hb.1) hb.2).mono ?_;rintro _ σ6 ⟨a2,E2,G2⟩;have kw2:=G2 _ _ kw nw;simp only[go_sem,Aa,f9,Ai (show k<9223372036854775807 by omega)]
   exact⟨D.1.length-(k+1),by omega,k+1,a2,_,rfl,by omega,by rw[M7 _ hkl,hs'],O2,E2,hF.trans G2,kw2.1,kw2.2,hL.keep fun y o hy ho=>(G2 y o hy (nlv y ho)).1,fun y ho=>by
    obtain⟨c,hc⟩:=hL.own_rows ho;exact(G2 y _ hc (nlv y ho)).2,f0,f1,f8,rfl⟩
  ·have ek:k=D.1.length:=by omega
   rw[ek,List.take_length]at hs';simp only[go_sem,Aa];exact Ad (r:=.tup []) rfl ⟨a',by rw[←hs'];exact hE,hF⟩
end
def lkD(me:ByteArray)(f:Fa)(T:List Fa)(i:Nat)(r:Rl)(j:Int)(P:ES×Bool):ES×Bool:=(bdS i (Jq r me j f T).1 P.1,P.2||decide (30000<(Jq r me j f T).2))
def ltD(me:ByteArray)(f:Fa)(T:List Fa)(i:Nat)(r:Rl)(k:Nat)(P:ES×Bool):ES×Bool:=(List.range k).foldl (fun P (j:Nat)=>lkD me f T i r (j:Int) P) P
def rlD(me:ByteArray)(f:Fa)(T:List Fa)(rules:List Rl)(k:Nat)(P:ES×Bool):ES×Bool:=(List.range k).foldl (fun P i=>ltD me f T i (rules.getD i rlZ) (rules.getD i rlZ).bo.length P) P
def Cy(s:ES)(hv:Bool):Bool×(ES×Bool):=if s.full=true then(false,s,hv)else match s.queue with
 | []=>(false,s,hv)
 |f::q=>if f∈s.T∨(f∉s.given∧(ofF s.B f).length=0)then(true,{s with queue:=q},hv)
  else if(Cp s.T s.lim f).2=0 then(true,rlD s.me f (Cp s.T s.lim f).1 s.rules s.rules.length ({s with queue:=q,T:=(Cp s.T s.lim f).1},hv))
  else(true,{s with queue:=q,T:=(Cp s.T s.lim f).1,full:=true},hv)
theorem Nz{me:ByteArray}{f:Fa}{T:List Fa}{i:Nat}{r:Rl}{k:Nat}{P:ES×Bool}:ltD me f T i r (k+1) P=lkD me f T i r k (ltD me f T i r k P):=by
 unfold ltD;rw[List.range_succ,List.foldl_append];rfl
theorem Od{me:ByteArray}{f:Fa}{T:List Fa}{rules:List Rl}{k:Nat}{P:ES×Bool}:rlD me f T rules (k+1) P=ltD me f T k (rules.getD k rlZ) (rules.getD k rlZ).bo.length (rlD me f T rules k P):=by
 unfold rlD;rw[List.range_succ,List.foldl_append];rfl
theorem R8(me:ByteArray)(f:Fa)(T:List Fa)(i:Nat)(r:Rl)(P:ES×Bool):∀k,SK P.1 (ltD me f T i r k P).1
 |0=>.refl _
 |k+1=>by rw[Nz];exact(R8 me f T i r P k).trans (Fj i _ _)
theorem Oc(me:ByteArray)(f:Fa)(T:List Fa)(rules:List Rl)(P:ES×Bool):∀k,SK P.1 (rlD me f T rules k P).1
 |0=>.refl _
 |k+1=>by rw[Od];exact(Oc me f T rules P k).trans (R8 me f T k _ _ _)
theorem Ahm{me:ByteArray}{f:Fa}{T:List Fa}{i:Nat}{r:Rl}{j:Int}{P:ES×Bool}(h:(lkD me f T i r j P).2=false):P.2=false∧(lkD me f T i r j P).1=bdS i (Gv r me j f T) P.1∧(I8 r me j f T).length≤30001:=by
 unfold lkD at h⊢;simp only[Bool.or_eq_false_iff,decide_eq_false_iff_not]at h;obtain⟨h1,h2⟩:=h;have h3:=Ajk (r:=r) (me:=me) (first:=j) (f:=f) (l:=T) (by omega);exact⟨h1,by simp only;rw[h3.1],h3.2⟩
theorem Aho{me:ByteArray}{f:Fa}{T:List Fa}{i:Nat}{r:Rl}{P:ES×Bool}:∀k,(ltD me f T i r k P).2=false→P.2=false∧(ltD me f T i r k P).1=ltS me f T i r k P.1∧∀j:Nat,j<k→(I8 r me j f T).length≤30001
 |0,h=>⟨h,rfl,fun j hj=>by omega⟩
 |k+1,h=>by
  rw[Nz]at h⊢;obtain⟨h1,h2,h3⟩:=Ahm h;obtain⟨k1,k2,k3⟩:=Aho k h1;refine⟨k1,by rw[h2,k2,N1],fun j hj=>?_⟩;by_cases e:j=k
  ·subst e;exact h3
  ·exact k3 j (by omega)
theorem Aav{me:ByteArray}{f:Fa}{T:List Fa}{rules:List Rl}{P:ES×Bool}:∀k,k≤rules.length→(rlD me f T rules k P).2=false→P.2=false∧(rlD me f T rules k P).1=rlS me f T rules k P.1∧∀i (hi:i<rules.length),i<k→∀j:Nat,j<rules[i].bo.length→(I8 rules[i] me j f T).length≤30001
 |0,_,h=>⟨h,rfl,fun i hi hk=>by omega⟩
 |k+1,hk,h=>by
  rw[Od]at h⊢;obtain⟨h1,h2,h3⟩:=Aho _ h;obtain⟨k1,k2,k3⟩:=Aav k (by omega) h1;refine⟨k1,by rw[h2,k2,Oe],fun i hi hik j hj=>?_⟩;by_cases e:i=k
  ·subst e
   rw[Fm hi]at h3;exact h3 j hj
  ·exact k3 i hi (by omega) j hj
theorem Wh{s:ES}{hv:Bool}(h:(Cy s hv).2.2=false):hv=false∧(Cy s hv).1=(Cg s).1∧(Cy s hv).2.1=(Cg s).2:=by
 unfold Cy Cg at*;split at h
 ·rename_i h1;rw[if_pos h1,if_pos h1];exact⟨h,rfl,rfl⟩
 rename_i h1;rw[if_neg h1,if_neg h1];cases hq:s.queue with
 |nil=>rw[hq]at h;exact⟨h,rfl,rfl⟩
 |cons f q=>
  rw[hq]at h;simp only at h⊢;split at h
  ·rename_i h2;rw[if_pos h2,if_pos h2];exact⟨h,rfl,rfl⟩
  rename_i h2;rw[if_neg h2,if_neg h2];split at h
  ·rename_i h3;rw[if_pos h3,if_pos h3]
   obtain⟨k1,k2,_⟩:=Aav _ (Nat.le_refl _) h;exact⟨k1,rfl,k2⟩
  ·rename_i h3;rw[if_neg h3,if_neg h3];exact⟨h,rfl,rfl⟩
theorem Wi{s:ES}{hv:Bool}(h:(Cy s hv).2.2=false):L6 s:=fun hfu f q hq hns hp=>by
 unfold Cy at h;rw[if_neg (by rw[hfu];simp),hq]at h;simp only at h;rw[if_neg hns,if_pos hp]at h;obtain⟨_,_,k3⟩:=Aav _ (Nat.le_refl _) h;exact fun i hi j hj=>k3 i hi hi j hj
section
variable{σ:St}{x:Nat}{a:EA}{s:ES}{n:Nat}{hv:Bool}
set_option maxHeartbeats 1600000 in
theorem Yq(h:EV true σ x a s hv)(hs:SOk n s)(hn:n+Cl s.rules s.rules.length*60004+60004≤800000000000):
  AT Tryz.prog 45 [ptr x] σ fun r σ'=>r=boo (Cy s hv).1∧∃a',EV true σ' x a' (Cy s hv).2.1 (Cy s hv).2.2∧Frm x a a' σ σ':=by
 refine AT.ob Tryz.func45 rfl ?_;have hx:=h.cx;cases hfu:s.full with
 |true=>
  have e:Cy s hv=(false,s,hv):=by unfold Cy;rw[hfu];rfl
  simp only[go_sem,hx,hfu];exact Ad (r:=boo false) rfl ⟨by rw[e],a,by rw[e];exact h,.refl⟩
 |false=>
 cases hq:s.queue with
 |nil=>
  have e:Cy s hv=(false,s,hv):=by unfold Cy;rw[hfu,hq];rfl
  have d0:decide ((s.queue.length:Int)=0)=true:=by rw[hq];rfl
  simp only[go_sem,hx,hfu,h.cq.len,Am,d0];exact Ad (r:=boo false) rfl ⟨by rw[e],a,by rw[e];exact h,.refl⟩
 |cons f q=>
 have d0:decide ((s.queue.length:Int)=0)=false:=by rw[hq];simp;omega
 have hfs:f.Sm:=hs.qs f (by rw[hq];simp);have hcq:LQ 4 σ a.qv (f.cs::faC q):=by have:=h.cq;rw[hq]at this;exact this
 have hst:Cy s hv=if f∈s.T∨(f∉s.given∧(ofF s.B f).length=0)then(true,{s with queue:=q},hv)
  else if(Cp s.T s.lim f).2=0 then(true,rlD s.me f (Cp s.T s.lim f).1 s.rules s.rules.length ({s with queue:=q,T:=(Cp s.T s.lim f).1},hv))
  else(true,{s with queue:=q,T:=(Cp s.T s.lim f).1,full:=true},hv):=by unfold Cy;rw[hfu,if_neg (by simp),hq]
 simp only[go_sem,hx,hfu,h.cq.len,Am,d0];refine hcq.first (by decide) rfl fun pp hpp=>?_;simp only[go_sem,Aa];refine hpp _ _ _ ?_;simp only[go_sem,Aa];refine Ctx.nil.alloc fun p σ1 c1=>?_;obtain⟨σ2,e2,c2⟩:=c1.abs 0 rfl (.cells f.cs);have hp:σ2 p=some (.cells f.cs):=c2.g0;have hsb:=c2.sub;have fp:σ p=none:=c1.f0;have h2:=h.more hsb;have hx2:=h2.cx;have hcq2:LQ 4 σ2 a.qv (f.cs::faC q):=hcq.keep fun y o hy _=>hsb y o hy;simp only[go_sem,Aa,c1.g0,e2,hx2];clear e2 c2 c1 hpp;refine hcq2.tail fun v' k1 k2=>?_;obtain⟨kx,kE,kF⟩:=h2.setQ (l:=q) (σ1:=σ2) k1 fun y o hy hn=>⟨hy,fun e=>hn ((k2 y).1 e)⟩;have esp:Ay (evC true s a hv) 6 [v']=evC true {s with queue:=q} {a with qv:=v'} hv:=rfl;simp only[go_sem,Aa,hx2,k1.one,k1.cells,esp,kE.all1];have npa:¬Bn x a p:=fun hf=>by obtain⟨o,ho⟩:=Dl h hf;rw[fp]at ho;cases ho
 have kp:=kF _ _ hp npa;have F3:=(Frm.of hsb).trans kF;obtain⟨a1,ha1⟩:∃a1:EA,a1={a with qv:=v'}:=⟨_,rfl⟩;obtain⟨s1,hs1⟩:∃s1:ES,s1={s with queue:=q}:=⟨_,rfl⟩;rw[←hs1,←ha1]at kE F3 kp⊢;have K1:SK s s1:=by rw[hs1];exact⟨rfl,rfl,rfl,rfl,rfl,rfl,rfl⟩
 have B1:s1.B=s.B:=by rw[hs1]
 have O1:SOk n s1:=by
  have:=hs.ql;rw[hq]at this;rw[hs1];exact{hs with ql:=(by show q.length≤n;simp only[List.length_cons]at this;omega),qs:=fun y hy=>hs.qs y (by rw[hq];exact List.mem_cons_of_mem _ hy)}
 clear kx kF hx2 h2 k1 k2 hcq2 hcq hp esp;generalize σ2.set x (.cells (evC true s1 a1 hv))=σ3 at kE F3 kp⊢;obtain⟨hp,np⟩:=kp;have hx3:=kE.cx;have ht3:TB σ3 a1.t s.T s.lim:=by have:=kE.ct;rw[K1.T,K1.lim]at this;exact this
 have hg3:a1.gv= .sl 4 (faC s.given):=by have:=kE.gsl;rw[K1.given]at this;exact this
 have hb3:RK σ3 a1.b s.B:=by have:=kE.cb;rw[B1]at this;exact this
 have hgl:=hs.gl;have hbk:=hs.bok (by omega);have htl:=hs.tok.len;have ht3':σ3 a1.t=some (.cells [.sl 4 (faC s.T),int s.lim]):=ht3;have skip:Cy s hv=(true,s1,hv)→∀{fr:Fr},Bb Tryz.prog fr σ3 (Tryz.f45).results.toList=some (boo true)→D3 Tryz.prog (fun r σ'=>r=boo (Cy s hv).1∧∃a',EV true σ' x a' (Cy s hv).2.1 (Cy s hv).2.2∧Frm x a a' σ σ') (Tryz.f45).results.toList fr σ3:=fun e _ hr=>
  Ad hr ⟨by rw[e],a1,by rw[e];exact kE,F3⟩
 refine Ae [.rd 0 false,.rd 1 false,.rd 2 false,.rd 3 true,.rd 4 true,.ef 5 [],.rd 6 false,.rd 7 false,.rd 8 false,.rd 9 false,.rd 10 true,.rd 11 true,.ef 12 [],.rd 13 false,.rd 14 false,.rd 15 false,.rd 16 false] ?_;simp only[go_sem,Aa,hx3,hp,hg3];refine(Ds s.given f (by omega) hs.gs hfs).mono ?_;rintro _ σ3 ⟨rfl,rfl⟩;by_cases hgi:f∈s.given
 case' pos=>
  simp only[go_sem,Aa,decide_eq_true hgi];refine Ae [.rd 0 false,.rd 1 false,.rd 2 false,.rd 3 false,.rd 4 false,.rd 5 false,.rd 6 true,.rd 7 false,.rd 8 false,.rd 9 true,.rd 10 true,.ef 11 [],.rd 12 false] ?_;simp only[go_sem,Aa,hx3,hp,ht3',Bool.not_true];refine(Ds s.T f (by omega) hs.tok.sm hfs).mono ?_;rintro _ σ3 ⟨rfl,rfl⟩;by_cases hT:f∈s.T
  case' pos=>
   rw[if_pos (.inl hT),←hs1]at hst;simp only[go_sem,Aa,decide_eq_true hT];exact skip hst rfl
  have hns:¬(f∈s.T∨(f∉s.given∧(ofF s.B f).length=0)):=fun h=>h.elim hT fun h=>h.1 hgi;rw[if_neg hns]at hst;simp only[go_sem,Aa,decide_eq_false hT]
 case' neg=>
  simp only[go_sem,Aa,decide_eq_false hgi,hx3,hp];refine(Aaw hb3 hbk f hfs).mono ?_;rintro _ σ3 ⟨rfl,rfl⟩;by_cases hof:(ofF s.B f).length=0
  case' pos=>
   rw[if_pos (.inr ⟨hgi,hof⟩),←hs1]at hst;have d3:=decide_eq_false (show¬(0:Int)<(ofF s.B f).length by omega);simp only[go_sem,Aa,At,d3];refine Ae [.rd 0 false,.rd 1 false,.rd 2 false,.rd 3 false,.rd 4 false,.rd 5 false,.rd 6 true,.rd 7 false,.rd 8 false,.rd 9 true,.rd 10 true,.ef 11 [],.rd 12 false] ?_;simp only[go_sem,Aa,Bool.not_false];exact skip hst rfl
  have d3:=decide_eq_true (show(0:Int)<(ofF s.B f).length by omega);simp only[go_sem,Aa,At,d3];refine Ae [.rd 0 false,.rd 1 false,.rd 2 false,.rd 3 false,.rd 4 false,.rd 5 false,.rd 6 true,.rd 7 false,.rd 8 false,.rd 9 true,.rd 10 true,.ef 11 [],.rd 12 false] ?_;simp only[go_sem,Aa,hx3,hp,ht3',Bool.not_true];refine(Ds s.T f (by omega) hs.tok.sm hfs).mono ?_;rintro _ σ3 ⟨rfl,rfl⟩;by_cases hT:f∈s.T
  case' pos=>
   rw[if_pos (.inl hT),←hs1]at hst;simp only[go_sem,Aa,decide_eq_true hT];exact skip hst rfl
  have hns:¬(f∈s.T∨(f∉s.given∧(ofF s.B f).length=0)):=fun h=>h.elim hT fun h=>hof h.2;rw[if_neg hns]at hst;simp only[go_sem,Aa,decide_eq_false hT]
 all_goals
  obtain⟨T2,er,hP⟩:∃T2 er,Cp s.T s.lim f=(T2,er):=⟨_,_,rfl⟩;obtain⟨pT,pl⟩:=Vx hs.tok hs.tl hs.lm hfs;simp only[hP]at hst pT pl;refine Ae [.rd 0 false,.rd 1 false,.rd 2 false,.rd 3 true,.rd 4 true,.ef 5 [],.rd 6 false] ?_;simp only[go_sem,Aa,hx3,hp];refine(Alt ht3 hs.tok f hfs).mono ?_;rintro _ σ4 ⟨rfl,rfl⟩;simp only[hP];have E4:=kE.setT (T:=T2);obtain⟨s2,hs2⟩:∃s2:ES,s2={s1 with T:=T2}:=⟨_,rfl⟩;rw[←hs2,K1.lim]at E4;have F4:Frm x a a1 σ (σ3.set a1.t (tbC T2 s.lim)):=F3.trans .setT;have hp4:(σ3.set a1.t (tbC T2 s.lim)) p=some (.cells f.cs):=by rw[Ag (fun e=>np (.inr (.inl e)))];exact hp
  have O2:SOk n s2:=by rw[hs2];exact{O1 with tok:=(by show TOk T2 s1.lim;rw[K1.lim];exact pT),tl:=(by show(T2.length:Int)≤s1.lim;rw[K1.lim];exact pl)}
  have r2:s2.rules=s.rules:=by rw[hs2];exact K1.rules
  have m2:s2.me=s.me:=by rw[hs2];exact K1.me
  have T22:s2.T=T2:=by rw[hs2]
  have e2:s2={s with queue:=q,T:=T2}:=by rw[hs2,hs1]
  have hst2:er=0→Cy s hv=(true,rlD s.me f T2 s.rules s.rules.length (s2,hv)):=fun he=>by rw[hst,if_pos he,e2]
  clear skip hg3 hb3 ht3 ht3' hx3 kE F3 hp hs2 O1 K1 hs1;generalize σ3.set a1.t (tbC T2 s.lim)=σ4 at E4 F4 hp4⊢;have hx4:=E4.cx;by_cases he:er=0
  case neg=>
   have kE:=E4.setX (f:=true) (hv':=hv);have esp:Ay (evC true s2 a1 hv) 8 [boo true]=evC true {s2 with full:=true} a1 hv:=rfl;rw[if_neg he]at hst;simp only[go_sem,Aa,decide_eq_false he,hx4,esp,kE.all1];refine Ad (r:=boo true) rfl ⟨by rw[hst],a1,?_,F4.trans .setX⟩;rw[hst,e2];rw[e2]at kE;exact kE
  simp only[go_sem,Aa,decide_eq_true he];have O20:SOk (n+Cl s.rules 0*60004) s2:=O2.le (Nat.le_add_right _ _);refine⟨fun m fr σ'=>∃(i:Nat) (a':EA) (P:ES×Bool),m=s.rules.length-i∧i≤s.rules.length∧P=rlD s.me f T2 s.rules i (s2,hv)∧SOk (n+Cl s.rules i*60004) P.1∧EV true σ' x a' P.1 P.2∧Frm x a a' σ σ'∧σ' p=some (.cells f.cs)∧¬Bn x a' p∧fr 0=ptr x∧fr 3=ptr p∧fr 5=int i,⟨_,0,a1,(s2,hv),rfl,by omega,rfl,O20,E4,F4,hp4,np,rfl,rfl,rfl⟩,?_⟩;clear O20 E4 F4 hp4 np hx4;rintro m fr σ1 ⟨i,a',P,rfl,hi,hP',hO,hE,hF,hp,np,f0,f3,f5⟩;have K':SK s2 P.1:=by rw[hP'];exact Oc s.me f T2 s.rules (s2,hv) i
  have rl':P.1.rules=s.rules:=K'.rules.trans r2;have hx1:=hE.cx;simp only[go_sem,f0,f5,hx1,rl',Cm];refine aIf_by (fun hlt=>?_) (fun hlt=>?_)
  case' refine_2=>
   have ei:i=s.rules.length:=by omega
   subst ei;rw[hst2 he];simp only[go_sem,Aa];exact Ad (r:=boo true) rfl ⟨rfl,a',by rw[←hP'];exact hE,hF⟩
  have hil:i<s.rules.length:=by omega
  obtain⟨r,hrr⟩:∃r,r=s.rules[i]:=⟨_,rfl⟩;have hr4:=hs.rs _ (List.getElem_mem hil);rw[←hrr]at hr4;have rg:(rlC s.rules).getD i []=r.cs:=by rw[hrr];exact C7 hil
  have hgr:s.rules.getD i rlZ=r:=by rw[Fm hil,hrr]
  have hbo:=hr4.1.1;have hrl:=hs.rl;have hls:Cl s.rules (i+1)=Cl s.rules i+r.bo.length:=by rw[←hgr];rfl
  have hll:=Vp s.rules (show i+1≤s.rules.length by omega);simp only[go_sem,Aa];obtain⟨z,hz⟩:∃z,z=0:=⟨_,rfl⟩;have OJ:SOk (n+Cl s.rules i*60004+z*60004) P.1:=SOk.le hO (Nat.le_add_right _ _);refine⟨fun m fr σ'=>∃(j:Nat) (a':EA) (P:ES×Bool),m=r.bo.length-j∧j≤r.bo.length∧P=ltD s.me f T2 i r j (rlD s.me f T2 s.rules i (s2,hv))∧SOk (n+Cl s.rules i*60004+j*60004) P.1∧EV true σ' x a' P.1 P.2∧Frm x a a' σ σ'∧σ' p=some (.cells f.cs)∧¬Bn x a' p∧fr 0=ptr x∧fr 3=ptr p∧fr 5=int i∧fr 6=int j,⟨_,0,a',P,rfl,by omega,hP',hz▸OJ,hE,hF,hp,np,f0,f3,f5,rfl⟩,?_⟩;clear OJ hz hO hE hF hp np f0 f3 f5 hP' K' rl' hx1;rintro m fr σ1 ⟨j,a',P,rfl,hj,hP',hO,hE,hF,hp,np,f0,f3,f5,f6⟩;have K':SK s2 P.1:=by rw[hP'];exact(Oc s.me f T2 s.rules (s2,hv) i).trans (R8 s.me f T2 i r _ j)
  have rl':P.1.rules=s.rules:=K'.rules.trans r2;have me':P.1.me=s.me:=K'.me.trans m2;have T':P.1.T=T2:=K'.T.trans T22;have hx1:=hE.cx;have lcl:=Gn r.bo;simp only[go_sem,f0,f5,f6,hx1,rl',rg,Cm,lcl];refine⟨by omega,?_⟩;refine aIf_by (fun hlt=>?_) (fun hlt=>?_)
  ·have hjl:j<r.bo.length:=by omega
   have hil':i<P.1.rules.length:=by rw[rl'];exact hil
   have hri:P.1.rules[i]=r:=by rw[hrr];exact List.getElem_of_eq rl' hil'
   simp only[go_sem,Aa,f0,f3,f5,f6,hp];refine(Yo hE hO (by omega) i hil' j f hfs).mono ?_;rintro _ σ2 ⟨a2,E2,G2⟩;have kp:=G2 _ _ hp np
   have O3:SOk (n+Cl s.rules i*60004+(j+1)*60004) (bdS i (Jq r s.me j f T2).1 P.1):=(O4 i (m:=r.bo.length) (by omega) _ _ hO (U9 hfs pT.sm)).le (by
    have:=docl (r:=r) (me:=s.me) (first:=(j:Int)) (f:=f) (l:=T2);omega)
   rw[hri,me',T']at E2;simp only[go_sem,Aa,f6,Ai (show j<9223372036854775807 by omega)];exact⟨r.bo.length-(j+1),by omega,j+1,a2,lkD s.me f T2 i r j P,rfl,by omega,by rw[Nz,←hP'],O3,E2,hF.trans G2,kp.1,kp.2,f0,f3,f5,rfl⟩
  ·have ej:j=r.bo.length:=by omega
   have h9:∀{A B C:Nat},B=A+C→j=C→n+A*60004+j*60004=n+B*60004:=fun{A B C} h1 h2=>by rw[h1,h2,Nat.add_mul,Nat.add_assoc]
   have O':SOk (n+Cl s.rules (i+1)*60004) P.1:=by
    rw[←h9 hls ej];exact hO
   have es':P=rlD s.me f T2 s.rules (i+1) (s2,hv):=by rw[Od,hgr,hP',ej]
   simp only[go_sem,Aa,f5,Ai (show i<9223372036854775807 by omega)];exact⟨s.rules.length-(i+1),by omega,i+1,a',P,rfl,by omega,es',O',hE,hF,hp,np,f0,f3,rfl⟩
end
section
variable{σ:St}{x:Nat}{a:EA}{s:ES}{n:Nat}
theorem Kk(h:EV false σ x a s false)(hs:SOk n s)(hn:n+Cl s.rules s.rules.length*60002≤800000000000)(hw:L6 s):
  AT Tryz.prog 37 [ptr x] σ fun r σ'=>r=boo (Cg s).1∧∃a',EV false σ' x a' (Cg s).2 false∧Frm x a a' σ σ':=by
 refine AT.ob Tryz.func37 rfl ?_;simp only[go_sem];refine(Dy h).mono ?_;rintro _ σ ⟨rfl,rfl⟩;have hx:=h.cx;cases hfu:s.full with
 |true=>
  have e:Cg s=(false,s):=by unfold Cg;rw[hfu];rfl
  simp only[go_sem,hx,hfu];exact Ad (r:=boo false) rfl ⟨by rw[e],a,by rw[e];exact h,.refl⟩
 |false=>
 cases hq:s.queue with
 |nil=>
  have e:Cg s=(false,s):=by unfold Cg;rw[hfu,hq];rfl
  have d0:decide ((s.queue.length:Int)=0)=true:=by rw[hq];rfl
  simp only[go_sem,hx,hfu,h.cq.len,Am,d0];exact Ad (r:=boo false) rfl ⟨by rw[e],a,by rw[e];exact h,.refl⟩
 |cons f q=>
 have d0:decide ((s.queue.length:Int)=0)=false:=by rw[hq];simp;omega
 have hfs:f.Sm:=hs.qs f (by rw[hq];simp);have hcq:LQ 4 σ a.qv (f.cs::faC q):=by have:=h.cq;rw[hq]at this;exact this
 have hst:Cg s=if f∈s.T∨(f∉s.given∧(ofF s.B f).length=0)then(true,{s with queue:=q})
  else if(Cp s.T s.lim f).2=0 then(true,rlS s.me f (Cp s.T s.lim f).1 s.rules s.rules.length {s with queue:=q,T:=(Cp s.T s.lim f).1})
  else(true,{s with queue:=q,T:=(Cp s.T s.lim f).1,full:=true}):=by unfold Cg;rw[hfu,if_neg (by simp),hq]
 simp only[go_sem,hx,hfu,h.cq.len,Am,d0];refine hcq.first (by decide) rfl fun pp hpp=>?_;simp only[go_sem,Aa];refine hpp _ _ _ ?_;simp only[go_sem,Aa];refine Ctx.nil.alloc fun p σ1 c1=>?_;obtain⟨σ2,e2,c2⟩:=c1.abs 0 rfl (.cells f.cs);have hp:σ2 p=some (.cells f.cs):=c2.g0;have hsb:=c2.sub;have fp:σ p=none:=c1.f0;have h2:=h.more hsb;have hx2:=h2.cx;have hcq2:LQ 4 σ2 a.qv (f.cs::faC q):=hcq.keep fun y o hy _=>hsb y o hy;simp only[go_sem,Aa,c1.g0,e2,hx2];clear e2 c2 c1 hpp;refine hcq2.tail fun v' k1 k2=>?_;obtain⟨kx,kE,kF⟩:=h2.setQ (l:=q) (σ1:=σ2) k1 fun y o hy hn=>⟨hy,fun e=>hn ((k2 y).1 e)⟩;have esp:Ay (evC false s a false) 6 [v']=evC false {s with queue:=q} {a with qv:=v'} false:=rfl;simp only[go_sem,Aa,hx2,k1.one,k1.cells,esp,kE.all1];have npa:¬Bn x a p:=fun hf=>by obtain⟨o,ho⟩:=Gb h hf;rw[fp]at ho;cases ho
 have kp:=kF _ _ hp npa;have F3:=(Frm.of hsb).trans kF;obtain⟨a1,ha1⟩:∃a1:EA,a1={a with qv:=v'}:=⟨_,rfl⟩;obtain⟨s1,hs1⟩:∃s1:ES,s1={s with queue:=q}:=⟨_,rfl⟩;rw[←hs1,←ha1]at kE F3 kp⊢;have K1:SK s s1:=by rw[hs1];exact⟨rfl,rfl,rfl,rfl,rfl,rfl,rfl⟩
 have B1:s1.B=s.B:=by rw[hs1]
 have O1:SOk n s1:=by
  have:=hs.ql;rw[hq]at this;rw[hs1];exact{hs with ql:=(by show q.length≤n;simp only[List.length_cons]at this;omega),qs:=fun y hy=>hs.qs y (by rw[hq];exact List.mem_cons_of_mem _ hy)}
 clear kx kF hx2 h2 k1 k2 hcq2 hcq hp esp;generalize σ2.set x (.cells (evC false s1 a1 false))=σ3 at kE F3 kp⊢;obtain⟨hp,np⟩:=kp;have hx3:=kE.cx;have ht3:TB σ3 a1.t s.T s.lim:=by have:=kE.ct;rw[K1.T,K1.lim]at this;exact this
 refine Ae [.rd 0 false,.rd 1 false,.rd 2 false,.rd 3 true,.rd 4 true,.ef 5 [],.rd 6 false,.rd 7 false,.rd 8 false,.rd 9 false,.rd 10 true,.rd 11 true,.ef 12 [],.rd 13 false,.rd 14 false,.rd 15 false,.rd 16 false,.rd 17 false,.rd 18 true,.rd 19 true,.ef 20 [],.rd 21 false,.rd 22 false,.rd 23 false,.rd 24 false] ?_;simp only[go_sem,Aa,hx3,hp];refine(Oj ht3 hs.tok f hfs).mono ?_;rintro _ σ3 ⟨rfl,rfl⟩;have hg3:LAt 4 σ3 a1.gv (faC s.given):=by have:=kE.lg;rw[K1.given]at this;exact this
 have hb3:BK σ3 a1.b s.B:=by have:=kE.cb;rw[B1]at this;exact this
 have hgl:=hs.gl;have hbk:=hs.bok (by omega);have skip:Cg s=(true,s1)→∀{fr:Fr},Bb Tryz.prog fr σ3 (Tryz.f37).results.toList=some (boo true)→D3 Tryz.prog (fun r σ'=>r=boo (Cg s).1∧∃a',EV false σ' x a' (Cg s).2 false∧Frm x a a' σ σ') (Tryz.f37).results.toList fr σ3:=fun e _ hr=>
  Ad hr ⟨by rw[e],a1,by rw[e];exact kE,F3⟩
 by_cases hT:f∈s.T
 ·rw[if_pos (.inl hT),←hs1]at hst
  simp only[go_sem,Aa,decide_eq_true hT,Bool.not_true];exact skip hst rfl
 simp only[go_sem,Aa,decide_eq_false hT,Bool.not_false,hx3,hp];refine(Rw s.given f (.of hg3) (by omega) hs.gs hfs).mono ?_;rintro _ σ3 ⟨rfl,rfl⟩;by_cases hgi:f∈s.given
 case' pos=>
  have hns:¬(f∈s.T∨(f∉s.given∧(ofF s.B f).length=0)):=fun h=>h.elim hT fun h=>h.1 hgi;rw[if_neg hns]at hst;simp only[go_sem,Aa,decide_eq_true hgi,Bool.not_true]
 case' neg=>
  simp only[go_sem,Aa,decide_eq_false hgi,Bool.not_false,hx3,hp];refine(Acw hb3 hbk f hfs).mono ?_;rintro _ σ3 ⟨rfl,rfl⟩;by_cases hof:(ofF s.B f).length=0
  case' pos=>
   rw[if_pos (.inr ⟨hgi,hof⟩),←hs1]at hst;have d3:=decide_eq_true (show((ofF s.B f).length:Int)=0 by omega);simp only[go_sem,Aa,d3];exact skip hst rfl
  have hns:¬(f∈s.T∨(f∉s.given∧(ofF s.B f).length=0)):=fun h=>h.elim hT fun h=>hof h.2;rw[if_neg hns]at hst;have d3:=decide_eq_false (show¬((ofF s.B f).length:Int)=0 by omega);simp only[go_sem,Aa,d3]
 all_goals
  obtain⟨T2,er,hP⟩:∃T2 er,Cp s.T s.lim f=(T2,er):=⟨_,_,rfl⟩;obtain⟨pT,pl⟩:=Vx hs.tok hs.tl hs.lm hfs;have hw:=hw hfu f q hq hns;simp only[hP]at hst hw pT pl;refine Ae [.rd 0 false,.rd 1 false,.rd 2 false,.rd 3 true,.rd 4 true,.ef 5 [],.rd 6 false] ?_;simp only[go_sem,Aa,hx3,hp];refine(Al8 ht3 hs.tok f hfs).mono ?_;rintro _ σ4 ⟨rfl,rfl⟩;simp only[hP];have E4:=kE.setT (T:=T2);obtain⟨s2,hs2⟩:∃s2:ES,s2={s1 with T:=T2}:=⟨_,rfl⟩;rw[←hs2,K1.lim]at E4;have F4:Frm x a a1 σ (σ3.set a1.t (tbC T2 s.lim)):=F3.trans .setT;have hp4:(σ3.set a1.t (tbC T2 s.lim)) p=some (.cells f.cs):=by rw[Ag (fun e=>np (.inr (.inl e)))];exact hp
  have O2:SOk n s2:=by rw[hs2];exact{O1 with tok:=(by show TOk T2 s1.lim;rw[K1.lim];exact pT),tl:=(by show(T2.length:Int)≤s1.lim;rw[K1.lim];exact pl)}
  have r2:s2.rules=s.rules:=by rw[hs2];exact K1.rules
  have m2:s2.me=s.me:=by rw[hs2];exact K1.me
  have e2:s2={s with queue:=q,T:=T2}:=by rw[hs2,hs1]
  have hst2:er=0→Cg s=(true,rlS s.me f T2 s.rules s.rules.length s2):=fun he=>by rw[hst,if_pos he,e2]
  clear skip hg3 hb3 ht3 hx3 kE F3 hp hs2 O1 K1 hs1;generalize σ3.set a1.t (tbC T2 s.lim)=σ4 at E4 F4 hp4⊢;have hx4:=E4.cx;by_cases he:er=0
  case neg=>
   have kE:=E4.setX (f:=true) (hv':=false);have esp:Ay (evC false s2 a1 false) 8 [boo true]=evC false {s2 with full:=true} a1 false:=rfl;rw[if_neg he]at hst;simp only[go_sem,Aa,decide_eq_false he,hx4,esp,kE.all1];refine Ad (r:=boo true) rfl ⟨by rw[hst],a1,?_,F4.trans .setX⟩;rw[hst,e2];rw[e2]at kE;exact kE
  have hw:=hw he;simp only[go_sem,Aa,decide_eq_true he];refine Ax fun d hd hdm=>?_;clear hdm;have hI0:=OnI.start hd;obtain⟨σ5,e5⟩:∃σ',σ'=σ4.set d (.cells [A0]):=⟨_,rfl⟩;rw[←e5]at hI0⊢;clear e5;have hx5:=hI0.sub hx4;simp only[go_sem,Aa,hx5];refine Wj.mono ?_;rintro _ σ6 ⟨b1,b2,rfl,c⟩;have hI6:=hI0.more c.sub;have hb1:σ6 b1=some (.cells [ptr a1.t]):=c.g1.1.2;have hb2:σ6 b2=some (.cells [fnv 117]):=c.g1.1.1;have n1:b1≠d:=hI0.ne c.f1;have n2:b2≠d:=hI0.ne c.f0;have htb:TB σ4 a1.t T2 s.lim:=by
   have:=E4.ct;rw[e2]at this;exact this
  clear hI0 hx5 c;simp only[go_sem,Aa];refine Pj (fun fr=>fr 0=ptr x∧fr 3=ptr p∧fr 4=ptr d) ⟨rfl,rfl,rfl⟩ fun assign body fr hA hB hF=>?_;obtain⟨f0,f3,f4⟩:=hF;intro n' l hl hlm;clear hlm;have htl:=hI6.none hl;have hsl:∀y o,σ6 y=some o→(σ6.set l (.loop fr n' [81] assign body .ready none)) y=some o:=Bt hl fun _ _ h=>h;have tlen:=pT.len;refine(Pw (t:=a1.t) (b1:=b1) (b2:=b2) pT (fun i σ'=>OnI σ4 d (T2.take i) σ'∧σ' l=some (.loop fr n' [81] assign body .ready none)∧σ' b1=some (.cells [ptr a1.t])∧σ' b2=some (.cells [fnv 117])) ?_ ?_ ?_ ⟨by simpa using hI6.more hsl,Ab,hsl _ _ hb1,hsl _ _ hb2⟩).mono ?_
  ·rintro i σ5 ⟨g1,g2,g3,g4⟩
   exact⟨g1.sub htb,g3,g4⟩
  ·rintro i σ5 σ6 ⟨g1,g2,g3,g4⟩ hs
   exact⟨g1.more hs,hs _ _ g2,hs _ _ g3,hs _ _ g4⟩
  ·rintro i σ5 hil ⟨g1,g2,gb1,gb2⟩
   refine Te hA g2 rfl (by rw[hA,hB];rfl) ?_;have hbg:=fun k fr1 σ1=>U2 (P:=Tryz.prog) (l:=l) (fr:=fr) (fr1:=fr1) (σ1:=σ1) (ps:=[81]) (n:=n') (assign:=assign) (k:=k) hB;simp only[go_sem];refine Ax fun q' hq' hqm=>?_;obtain⟨σ6,e6⟩:∃s,s=σ5.set q' (.cells T2[i].cs):=⟨_,rfl⟩;have hs6:∀y o,σ5 y=some o→σ6 y=some o:=by rw[e6];exact Bt hq' fun _ _ h=>h
   have hq6:σ6 q'=some (.cells T2[i].cs):=by rw[e6];exact Ab
   have g1':=g1.more hs6;have g2':=hs6 _ _ g2;have gb1':=hs6 _ _ gb1;have gb2':=hs6 _ _ gb2;simp only[go_sem,Ab,Cw,←e6,hbg];clear e6 hqm hq' g1 g2 gb1 gb2;refine⟨g2',?_⟩;have g3:=g1'.loop (σ':=σ6.set l (.loop fr n' [81] assign body .busy none)) g2' htl fun y hy=>Ag hy;have g4:(σ6.set l (.loop fr n' [81] assign body .busy none)) l=some (.loop fr n' [81] assign body .busy none):=Ab;have ncl:∀{y cs},σ6 y=some (.cells cs)→(σ6.set l (.loop fr n' [81] assign body .busy none)) y=some (.cells cs):=fun{y cs} hy=>by rw[Ag (fun e=>by rw[e,g2']at hy;cases hy)];exact hy
   have g5:=ncl hq6;have g6:=ncl gb1';have g7:=ncl gb2';clear ncl gb1' gb2' hq6 g1' g2' hs6;generalize σ6.set l (.loop fr n' [81] assign body .busy none)=σ7 at g3 g4 g5 g6 g7⊢;obtain⟨hd0,lv,k1,k2,k3⟩:=g3;have hld:l≠d:=fun e=>by rw[e,k1]at g4;cases g4
   have nl:¬Own lv l:=fun ho=>by obtain⟨cap,h⟩:=k2.own_rows ho;rw[g4]at h;cases h
   simp only[go_sem,Aa,f4,k1,g5];refine As (ys:=[T2[i].cs]) rfl (by decide) (by decide) (by decide) (k2.app (by rw[Am,List.length_take];simp only[List.length_cons,List.length_nil];omega) fun lv' σ8 hL4 hs4=>?_);obtain⟨y6,y7⟩:=OnI.app hd0 k1 k2 k3 hL4 hs4;have m6:=hs4 _ _ g4 nl;have mb1:=(hs4 _ _ g6 (k2.not_own g6)).1;have mb2:=(hs4 _ _ g7 (k2.not_own g7)).1;simp only[go_sem,Aa,y7,f4,hL4.one,hL4.cells,V3];have g6':(σ8.set d (.cells [lv'])) l=some (.loop fr n' [81] assign body .busy none):=by rw[Ag hld];exact m6.1
   have ht:T2.take i++[T2[i]]=T2.take (i+1):=by rw[List.take_add_one,List.getElem?_eq_getElem hil];rfl
   rw[ht]at y6;have nb1:b1≠l:=fun e=>by rw[e,m6.1]at mb1;cases mb1
   have nb2:b2≠l:=fun e=>by rw[e,m6.1]at mb2;cases mb2
   exact⟨⟨_,g6'⟩,y6.loop (σ':=(σ8.set d (.cells [lv'])).set l (.loop fr n' [81] assign body .ready none)) g6' htl (fun y hy=>Ag hy),by rw[Ag nb1,Ag n1];exact mb1,by rw[Ag nb2,Ag n2];exact mb2⟩
  ·rintro _ σ5 ⟨g1,g2,g3,g4⟩
   rw[List.take_of_length_le (by omega)]at g1;have hdel:∀y,y≠l→(σ5.del l) y=σ5 y:=fun y hy=>by simp only[St.del];rw[if_neg hy]
   have g5:=g1.loop g2 htl hdel;unfold Mc;rw[g2];refine⟨(by intro h;cases h),?_⟩;unfold Qz
   dsimp only
   clear g1 g2 g3 g4 hdel hb1 hb2 hsl hI6 hl htl;generalize σ5.del l=σ7 at g5⊢;obtain⟨_,lv,k1,k2,k3⟩:=g5;have old:∀y,σ4 y=none→¬Bn x a1 y∧∀o,σ y=some o→Bn x a y:=fun y hy=>⟨fun hf=>(by obtain⟨o,ho⟩:=Gb E4 hf;rw[hy]at ho;cases ho),fun o ho=>Classical.byContradiction fun hn=>by rw[(F4 y o ho hn).1]at hy;cases hy⟩;have I7:SI σ x a p d f T2 lv σ7 a1 s2:=⟨E4.more k3.sub,F4.trans (.of k3.sub),k3.sub _ _ hp4,np,k1,(old d hd).1,.inr k2,fun y hy=>old y (k3.own hy),(old d hd).2,fun e=>by rw[e,hd]at hp4;cases hp4⟩;have hx7:=I7.ev.cx;clear k1 k2 k3 old E4 F4 hp4 hd hx4 htb;have O20:SOk (n+Cl s.rules 0*60002) (rlS s.me f T2 s.rules 0 s2):=O2.le (Nat.le_add_right _ _);have eR:(rlC s2.rules)=rlC s.rules:=by rw[r2]
   simp only[go_sem,Aa,f0,hx7,eR];refine⟨fun m fr σ'=>∃(i:Nat) (lv:AV) (a':EA) (s':ES),m=s.rules.length-i∧i≤s.rules.length∧s'=rlS s.me f T2 s.rules i s2∧SOk (n+Cl s.rules i*60002) s'∧SI σ x a p d f T2 lv σ' a' s'∧fr 0=ptr x∧fr 3=ptr p∧fr 4=ptr d∧fr 89= .sl 11 (rlC s.rules)∧fr 90=int s.rules.length∧fr 91=int i,⟨_,0,lv,a1,s2,rfl,by omega,rfl,O20,I7,f0,f3,f4,rfl,rfl,rfl⟩,?_⟩;clear I7 O20 hx7 f0 f3 f4;rintro m fr σ1 ⟨i,lv,a',s',rfl,hi,hs',hO,hI,f0,f3,f4,f89,f90,f91⟩;simp only[go_sem,f90,f91];refine aIf_by (fun hlt=>?_) (fun hlt=>?_)
   case' refine_2=>
    have ei:i=s.rules.length:=by omega
    rw[hst2 he]at hst;subst ei;simp only[go_sem,Aa];exact Ad (r:=boo true) rfl ⟨by rw[hst2 he],a',by rw[hst2 he,←hs'];exact hI.ev,hI.fr⟩
   have hil:i<s.rules.length:=by omega
   obtain⟨r,hr⟩:∃r,r=s.rules[i]:=⟨_,rfl⟩;have hr4:=hs.rs _ (List.getElem_mem hil);have hw:=hw i hil;rw[←hr]at hr4 hw;have rg:(rlC s.rules).getD i []=r.cs:=by rw[hr];exact C7 hil
   have hgr:s.rules.getD i rlZ=r:=by rw[Fm hil,hr]
   have hbo:=hr4.1.1;have hrl:=hs.rl;have hls:Cl s.rules (i+1)=Cl s.rules i+r.bo.length:=by rw[←hgr];rfl
   have hll:=Vp s.rules (show i+1≤s.rules.length by omega);simp only[go_sem,Aa,f89,f91,rg,Cm];refine⟨by omega,Ctx.nil.alloc fun y σ2 c2=>?_⟩;obtain⟨σ3,e3,c3⟩:=c2.abs 0 rfl (.cells r.cs);have hy:σ3 y=some (.cells r.cs):=c3.g0;have ny:¬Bn x a' y:=fun hf=>by
    obtain⟨o,ho⟩:=Gb hI.ev hf;have:=c2.f0;rw[ho]at this;cases this
   have nyd:y≠d:=fun e=>by
    have:=c2.f0;rw[e,hI.kd]at this;cases this
   have hI:=hI.more c3.sub;simp only[go_sem,Aa,c2.g0,e3,hy];clear e3 c3 c2;obtain⟨z,hz⟩:∃z,z=0:=⟨_,rfl⟩;have OJ:SOk (n+Cl s.rules i*60002+z*60002) s':=SOk.le hO (Nat.le_add_right _ _);refine⟨fun m fr σ'=>∃(j:Nat) (lv:AV) (a':EA) (s':ES),m=r.bo.length-j∧j≤r.bo.length∧s'=ltS s.me f T2 i r j (rlS s.me f T2 s.rules i s2)∧SOk (n+Cl s.rules i*60002+j*60002) s'∧SI σ x a p d f T2 lv σ' a' s'∧σ' y=some (.cells r.cs)∧¬Bn x a' y∧fr 0=ptr x∧fr 3=ptr p∧fr 4=ptr d∧fr 6=int i∧fr 7=ptr y∧fr 89= .sl 11 (rlC s.rules)∧fr 90=int s.rules.length∧fr 91=int i∧fr 98=int r.bo.length∧fr 99=int j,⟨_,0,lv,a',s',rfl,by omega,hs',hz▸OJ,hI,hy,ny,f0,f3,f4,rfl,rfl,f89,f90,f91,rfl,rfl⟩,?_⟩;clear hI OJ hO hs' hz f0 f3 f4 f89 f90 f91 hy ny;rintro m fr σ1 ⟨j,lv,a',s',rfl,hj,hs',hO,hI,hy,ny,f0,f3,f4,f6,f7,f89,f90,f91,f98,f99⟩;simp only[go_sem,f98,f99];refine aIf_by (fun hlt=>?_) (fun hlt=>?_)
   case' refine_2=>
    have ej:j=r.bo.length:=by omega
    have O':SOk (n+Cl s.rules (i+1)*60002) s':=hO.le (by omega);have es':s'=rlS s.me f T2 s.rules (i+1) s2:=by rw[Oe,hgr,hs',ej]
    simp only[go_sem,Aa,f91,Ai (show i<9223372036854775807 by omega)];refine⟨s.rules.length-(i+1),by omega,i+1,lv,a',s',rfl,by omega,es',O',hI,f0,f3,f4,f89,f90,rfl⟩
   have hjl:j<r.bo.length:=by omega
   have hw:=hw j hjl;obtain⟨σ2,hsv,hvw,I2,hk⟩:=hI.let;have hx1:=hI.ev.cx;have kp1:=hI.kp;have kd1:=hI.kd;have K':SK s2 s':=by rw[hs'];exact(Ky _ _ _ _ _ _).trans (N0 _ _ _ _ _ _ _)
   have me':s'.me=s.me:=K'.me.trans m2;have rl':s'.rules=s.rules:=K'.rules.trans r2;simp only[go_sem,Aa,f99];refine Ae [.rd 0 true,.rd 1 false,.rd 2 false,.rd 3 false,.rd 4 true,.rd 5 false,.rd 6 true,.rd 7 true,.rd 10 false,.ef 8 [],.rd 9 false] ?_;simp only[go_sem,Aa,f0,f3,f4,f7,hy,hx1,kp1,kd1];refine AT.pre (args':=[.agg r.cs,str s'.me,int j,.agg f.cs,.sl 4 (faC T2)]) ((Rv r s'.me j f T2 hr4.1 hfs pT.len pT.sm (by rw[me'];omega)).mono ?_) (by kernel_rfl) hsv (vws_same (vws_same (vws_same (vws_same (vws_cons hvw By)))));rintro _ σ3 ⟨rfl,rfl⟩;rw[me'];have hbl:(Gv r s.me j f T2).length≤30001:=Nat.le_trans Br (by simp only[List.length_nil];omega);have hbm:∀b∈Gv r s.me j f T2,b.length=r.bo.length∧∀y∈b,y.Sm:=fun b hb=>U4 hfs pT.sm hb;have hy2:=hk y _ nyd hy;obtain⟨L,hL⟩:∃L,L=Gv r s.me j f T2:=⟨_,rfl⟩;rw[←hL]at hbl hbm⊢;have bcl:(boC L).length=L.length:=by simp[boC]
   clear hsv hvw hk hI hx1 kp1 kd1 hy;simp only[go_sem,Aa,bcl];obtain⟨z,hz⟩:∃z,z=0:=⟨_,rfl⟩;have OK0:SOk (n+Cl s.rules i*60002+j*60002+2*z) s':=SOk.le hO (Nat.le_add_right _ _);refine⟨fun m fr σ'=>∃(k:Nat) (a':EA) (s':ES),m=L.length-k∧k≤L.length∧s'=bdS i (L.take k) (ltS s.me f T2 i r j (rlS s.me f T2 s.rules i s2))∧SOk (n+Cl s.rules i*60002+j*60002+2*k) s'∧SI σ x a p d f T2 (.sl 4 (faC T2)) σ' a' s'∧σ' y=some (.cells r.cs)∧¬Bn x a' y∧fr 0=ptr x∧fr 3=ptr p∧fr 4=ptr d∧fr 6=int i∧fr 7=ptr y∧fr 89= .sl 11 (rlC s.rules)∧fr 90=int s.rules.length∧fr 91=int i∧fr 98=int r.bo.length∧fr 99=int j∧fr 110= .sl 1 (boC L)∧fr 111=int L.length∧fr 112=int k,⟨_,0,a',s',rfl,by omega,hs',hz▸OK0,I2,hy2,ny,f0,f3,f4,f6,f7,f89,f90,f91,f98,f99,rfl,rfl,rfl⟩,?_⟩;clear I2 OK0 hO hs' hz hy2 ny f0 f3 f4 f6 f7 f89 f90 f91 f98 f99 K' me' rl';rintro m fr σ1 ⟨k,a',s',rfl,hk,hs',hO,hI,hy,ny,f0,f3,f4,f6,f7,f89,f90,f91,f98,f99,f110,f111,f112⟩;simp only[go_sem,f111,f112];refine aIf_by (fun hlt=>?_) (fun hlt=>?_)
   case' refine_2=>
    have ek:k=L.length:=by omega
    have O':SOk (n+Cl s.rules i*60002+(j+1)*60002) s':=hO.le (by omega);have es':s'=ltS s.me f T2 i r (j+1) (rlS s.me f T2 s.rules i s2):=by rw[N1,hs',ek,List.take_length,hL]
    simp only[go_sem,Aa,f99,Ai (show j<9223372036854775807 by omega)];refine⟨r.bo.length-(j+1),by omega,j+1,.sl 4 (faC T2),a',s',rfl,by omega,es',O',hI,hy,ny,f0,f3,f4,f6,f7,f89,f90,f91,f98,rfl⟩
   have hkl:k<L.length:=by omega
   have K':SK s2 s':=by rw[hs'];exact((Ky _ _ _ _ _ _).trans (N0 _ _ _ _ _ _ _)).trans (Fj _ _ _)
   have rl':s'.rules=s.rules:=K'.rules.trans r2;have hb:=hbm _ (List.getElem_mem hkl);have hil':i<s'.rules.length:=by rw[rl'];exact hil
   have hri:s'.rules[i]=r:=by rw[hr];exact List.getElem_of_eq rl' hil'
   have O':SOk (n+Cl s.rules i*60002+j*60002+2*(k+1)) (Fx s' i L[k]):=Rz hO i (by omega) hb.2;have es':Fx s' i L[k]=bdS i (L.take (k+1)) (ltS s.me f T2 i r j (rlS s.me f T2 s.rules i s2)):=by rw[M7 _ hkl,hs']
   simp only[go_sem,Aa,f0,f6,f110,f112,C0 hkl,bcl];refine⟨by omega,(X4 hI.ev hO (by omega) i hil' L[k] (by rw[hri];exact hb.1) hb.2).mono ?_⟩;rintro _ σ2 ⟨a2,E2,G2⟩;have ky:=G2 _ _ hy ny;simp only[go_sem,Aa,f112,Ai (show k<9223372036854775807 by omega)];refine⟨L.length-(k+1),by omega,k+1,a2,_,rfl,by omega,es',O',hI.go E2 G2,ky.1,ky.2,f0,f3,f4,f6,f7,f89,f90,f91,f98,f99,f110,f111,rfl⟩
end
def Wq:Nat→ES→Prop
 |0,s=>L6 s∧(Cg s).1=false
 |k+1,s=>L6 s∧((Cg s).1=true→Wq k (Cg s).2)
def Iz:Nat→ES→ES
 |0,s=>s
 |k+1,s=>if(Cg s).1=true then Iz k (Cg s).2 else s
theorem Afe(s:ES):(Cg s).2.rules=s.rules:=by
 unfold Cg
 repeat' split
 all_goals first|rfl|exact(Ky _ _ _ _ _ _).rules
theorem Ul{s:ES}(h:(Cg s).1=false):(Cg s).2=s:=by
 by_cases h1:s.full=true
 ·unfold Cg;rw[if_pos h1]
 cases hq:s.queue with
 |nil=>unfold Cg;rw[if_neg h1,hq]
 |cons f q=>
  exfalso;revert h;unfold Cg;rw[if_neg h1,hq];simp only;split
  ·intro h;cases h
  ·split<;>(intro h;cases h)
section
variable{σ:St}{x:Nat}{a:EA}{s:ES}{n:Nat}
theorem Aec(h:EV false σ x a s false)(hs:SOk n s)(hl:Cl s.rules s.rules.length≤80)(N:Nat)(hn:n+(N+1)*4800160≤800000000000)(hd:Wq N s):
  AT Tryz.prog 17 [ptr x] σ fun r σ'=>∃a',EV false σ' x a' (Iz N s) false∧Frm x a a' σ σ':=by
 refine AT.ob Tryz.func17 rfl ?_;simp only[go_sem];refine⟨fun m fr σ'=>∃(k:Nat) (a':EA) (s':ES),m=k∧k≤N∧s'.rules=s.rules∧Wq k s'∧Iz k s'=Iz N s∧SOk (n+(N-k)*4800160) s'∧EV false σ' x a' s' false∧Frm x a a' σ σ'∧fr 0=ptr x∧fr 3=int (N-k:Nat),⟨_,N,a,s,rfl,by omega,rfl,hd,rfl,by rw[Nat.sub_self];exact hs.le (Nat.le_add_right _ _),h,.refl,rfl,by rw[Nat.sub_self];rfl⟩,?_⟩;rintro m fr σ1 ⟨k,a',s',rfl,hk,hr,hd',he,hO,hE,hF,f0,f3⟩;have hl':Cl s'.rules s'.rules.length≤80:=by rw[hr];exact hl
 have hw:L6 s':=by cases m<;>exact hd'.1
 simp only[go_sem,f0];refine(Kk hE hO (by omega) hw).mono ?_;rintro _ σ2 ⟨rfl,a2,E2,F2⟩;have hso:=Ss hO hw;cases hb:(Cg s').1 with
 |false=>
  have e1:=Ul hb;have e2:Iz m s'=s':=by
   cases m with
   |zero=>rfl
   |succ k=>show(if(Cg s').1=true then _ else s')=s';rw[hb];rfl
  rw[e1]at E2;simp only[go_sem,Aa,hb,f3];exact Ad (r:=int (N-m:Nat)) rfl ⟨a2,by rw[←he,e2];exact E2,hF.trans F2⟩
 |true=>
  cases m with
  |zero=>rw[hd'.2]at hb;cases hb
  |succ k=>
   have hd2:=hd'.2 hb;have e2:Iz k (Cg s').2=Iz N s:=by rw[←he];show _=(if(Cg s').1=true then _ else s');rw[hb];rfl
   have ek:N-k=N-(k+1)+1:=by omega
   simp only[go_sem,Aa,hb,f3,Ai (show N-(k+1)<9223372036854775807 by omega)];exact⟨k,by omega,k,a2,(Cg s').2,rfl,by omega,by rw[Afe,hr],hd2,e2,hso.le (by omega),E2,hF.trans F2,f0,by rw[ek]⟩
end
theorem Ahp{n:Nat}{me:ByteArray}{f:Fa}{T:List Fa}(i:Nat){r:Rl}{P:ES×Bool}(h:SOk n P.1)(hr:r.S4)(hf:f.Sm)(hT:∀y∈T,y.Sm):∀(k:Nat),SOk (n+k*60004) (ltD me f T i r k P).1
 |0=>h.le (Nat.le_add_right _ _)
 |k+1=>by
  have h1:=Ahp (me:=me) i h hr hf hT k;have h3:=docl (r:=r) (me:=me) (first:=(k:Int)) (f:=f) (l:=T);have hbo:=hr.1.1;rw[Nz];exact(O4 i (m:=r.bo.length) (by omega) _ _ h1 (U9 hf hT)).le (by omega)
theorem Aih{n:Nat}{me:ByteArray}{f:Fa}{T:List Fa}{rules:List Rl}{P:ES×Bool}(h:SOk n P.1)(hr:∀r∈rules,r.S4)(hf:f.Sm)(hT:∀y∈T,y.Sm):∀(k:Nat),k≤rules.length→SOk (n+Cl rules k*60004) (rlD me f T rules k P).1
 |0,_=>by show SOk (n+0*60004) P.1;exact h.le (Nat.le_add_right _ _)
 |k+1,hk=>by
  have h1:=Aih (me:=me) h hr hf hT k (by omega);have e:rules.getD k rlZ=rules[k]:=Fm (by omega) _;have h2:=Ahp (me:=me) (T:=T) k h1 (hr _ (List.getElem_mem (show k<rules.length by omega))) hf hT rules[k].bo.length;rw[Od];show SOk (n+(Cl rules k+(rules.getD k rlZ).bo.length)*60004) _;rw[e,Nat.add_mul,←Nat.add_assoc];exact h2
theorem Aly{n:Nat}{s:ES}{hv:Bool}(h:SOk n s):SOk (n+Cl s.rules s.rules.length*60004) (Cy s hv).2.1∧(Cy s hv).2.1.rules=s.rules:=by
 unfold Cy;split
 ·exact⟨h.le (Nat.le_add_right _ _),rfl⟩
 split
 ·exact⟨h.le (Nat.le_add_right _ _),rfl⟩
 rename_i f q hq;have hf:=h.qs f (by rw[hq];simp);have hql:=h.ql;rw[hq]at hql;simp only[List.length_cons]at hql;obtain⟨p1,p2⟩:=Vx h.tok h.tl h.lm hf;have h1:SOk n {s with queue:=q}:={h with ql:=(by show q.length≤n;omega),qs:=fun y hy=>h.qs y (by rw[hq];exact List.mem_cons_of_mem _ hy)};have h2:SOk n {s with queue:=q,T:=(Cp s.T s.lim f).1}:={h1 with tok:=p1,tl:=p2};split
 ·exact⟨h1.le (Nat.le_add_right _ _),rfl⟩
 split
 ·exact⟨Aih (P:=({s with queue:=q,T:=(Cp s.T s.lim f).1},hv)) h2 h.rs hf p1.sm _ (Nat.le_refl _),(Oc s.me f (Cp s.T s.lim f).1 s.rules ({s with queue:=q,T:=(Cp s.T s.lim f).1},hv) _).rules⟩
 ·exact⟨{h2.le (Nat.le_add_right _ _)with},rfl⟩
def O8:Nat→ES×Bool→Bool×(ES×Bool)
 |0,P=>(false,P)
 |k+1,P=>if P.2=true then(false,P)else if(Cy P.1 P.2).1=true then O8 k (Cy P.1 P.2).2 else(true,(Cy P.1 P.2).2)
section
variable{σ:St}{x:Nat}{a:EA}{s:ES}{n:Nat}{hv:Bool}
theorem Aez(h:EV true σ x a s hv)(hs:SOk n s)(hl:Cl s.rules s.rules.length≤80)(hn:n+402*4800320≤800000000000):
  AT Tryz.prog 46 [ptr x] σ fun r σ'=>r=boo (O8 400 (s,hv)).1∧∃a',EV true σ' x a' (O8 400 (s,hv)).2.1 (O8 400 (s,hv)).2.2∧Frm x a a' σ σ':=by
 refine AT.ob Tryz.func46 rfl ?_;obtain⟨R,hR⟩:∃R,R=O8 400 (s,hv):=⟨_,rfl⟩;rw[←hR];simp only[go_sem];refine⟨fun m fr σ'=>∃(k:Nat) (a':EA) (P:ES×Bool),m=k∧k≤400∧O8 k P=R∧P.1.rules=s.rules∧SOk (n+(400-k)*4800320) P.1∧EV true σ' x a' P.1 P.2∧Frm x a a' σ σ'∧fr 0=ptr x∧fr 3=int (400-k:Nat),⟨_,400,a,(s,hv),rfl,by omega,hR.symm,rfl,hs.le (Nat.le_add_right _ _),h,.refl,rfl,rfl⟩,?_⟩;rintro m fr σ1 ⟨k,a',⟨s',w⟩,rfl,hk,hd,hr,hO,hE,hF,f0,f3⟩;simp only at hr hO hE;have hx:=hE.cx;simp only[go_sem,f3];refine aIf_by (fun hlt=>?_) (fun hlt=>?_)
 ·obtain⟨k,rfl⟩:∃j,m=j+1:=⟨m-1,by omega⟩
  have hd':(if w=true then(false,(s',w))else if(Cy s' w).1=true then O8 k (Cy s' w).2 else(true,(Cy s' w).2))=R:=hd;clear hd;cases w with
  |true=>
   rw[if_pos rfl]at hd';simp only[go_sem,Aa,f0,hx];exact Ad (r:=boo false) rfl ⟨by rw[←hd'],a',by rw[←hd'];exact hE,hF⟩
  |false=>
   rw[if_neg (by decide)]at hd';have hl':Cl s'.rules s'.rules.length≤80:=by rw[hr];exact hl
   have sz:=Aly (hv:=false) hO;simp only[go_sem,Aa,f0,hx];refine(Yq hE hO (by omega)).mono ?_;rintro _ σ2 ⟨rfl,a2,E2,G2⟩;have hO2:=sz.1.le (m:=n+(400-k)*4800320) (by omega);cases hc:(Cy s' false).1 with
   |true=>
    rw[if_pos hc]at hd';have ek:400-k=400-(k+1)+1:=by omega
    simp only[go_sem,Aa,hc,f3,Ai (show 400-(k+1)<9223372036854775807 by omega)];exact⟨k,by omega,k,a2,(Cy s' false).2,rfl,by omega,hd',by rw[sz.2,hr],hO2,E2,hF.trans G2,f0,by rw[ek]⟩
   |false=>
    rw[if_neg (by rw[hc];decide)]at hd';simp only[go_sem,Aa,hc];exact Ad (r:=boo true) rfl ⟨by rw[←hd'],a2,by rw[←hd'];exact E2,hF.trans G2⟩
 ·have e0:m=0:=by omega
  subst e0;have hd':(false,(s',w))=R:=hd;simp only[go_sem,Aa];exact Ad (r:=boo false) rfl ⟨by rw[←hd'],a',by rw[←hd'];exact hE,hF⟩
end
theorem Afd{s:ES}{hv:Bool}(h:(Cy s hv).1=false):(Cy s hv).2=(s,hv):=by
 by_cases h1:s.full=true
 ·unfold Cy;rw[if_pos h1]
 cases hq:s.queue with
 |nil=>unfold Cy;rw[if_neg h1,hq]
 |cons f q=>
  exfalso;revert h;unfold Cy;rw[if_neg h1,hq];simp only;split
  ·intro h;cases h
  ·split<;>(intro h;cases h)
theorem Ab1:∀(k:Nat) (s:ES) (w:Bool),(O8 k (s,w)).1=true→w=false∧Wq k s∧Iz k s=(O8 k (s,w)).2.1∧(O8 k (s,w)).2.2=false
 |0,s,w,h=>by cases h
 |k+1,s,w,h=>by
  have e:O8 (k+1) (s,w)=if w=true then(false,(s,w))else if(Cy s w).1=true then O8 k (Cy s w).2 else(true,(Cy s w).2):=rfl
  rw[e]at h⊢;cases w with
  |true=>rw[if_pos rfl]at h;cases h
  |false=>
   rw[if_neg (by decide)]at h⊢;cases hc:(Cy s false).1 with
   |true=>
    rw[if_pos hc]at h;rw[if_pos rfl];obtain⟨s',w',hp⟩:∃s' w',(Cy s false).2=(s',w'):=⟨_,_,rfl⟩;rw[hp]at h⊢;obtain⟨h1,h2,h3,h4⟩:=Ab1 k s' w' h;have hf:(Cy s false).2.2=false:=by rw[hp];exact h1
    obtain⟨_,k1,k2⟩:=Wh hf;rw[hp]at k2;simp only at k2;rw[hc]at k1;refine⟨rfl,⟨Wi hf,fun _=>by rw[←k2];exact h2⟩,?_,h4⟩;show(if(Cg s).1=true then Iz k (Cg s).2 else s)=_;rw[if_pos k1.symm,←k2];exact h3
   |false=>
    rw[if_neg (by decide)];have hp:=Afd hc;have hf:(Cy s false).2.2=false:=by rw[hp]
    obtain⟨_,k1,_⟩:=Wh hf;rw[hc]at k1;refine⟨rfl,⟨Wi hf,fun h5=>by rw[←k1]at h5;cases h5⟩,?_,hf⟩;show(if(Cg s).1=true then Iz k (Cg s).2 else s)=(Cy s false).2.1;rw[if_neg (by rw[←k1];decide),hp]
structure Ac where
 k:Int
 f:Fa
def Ac.cs(a:Ac):List AV:=int a.k::a.f.cs
@[go_sem] theorem Ac.len(a:Ac):a.cs.length=5:=rfl
@[go_sem] theorem Ac.one(a:Ac):a.cs.all AV.one=true:=rfl
@[go_sem] theorem Ac.take(a:Ac):a.cs.take 5=a.cs:=rfl
@[go_sem] theorem Ac.at0(a:Ac):a.cs.getD 0 (.v undef)=int a.k:=rfl
@[go_sem] theorem Ac.fa(a:Ac):(a.cs.drop 1).take 4=a.f.cs:=rfl
def acC(l:List Ac):List (List AV):=l.map Ac.cs
@[go_sem] theorem D4(l:List Ac):(acC l).length=l.length:=by simp[acC]
theorem Uy{l:List Ac}{i:Nat}(h:i<l.length):(acC l).getD i []=l[i].cs:=by simp[acC,List.getD_eq_getElem?_getD,h]
def c7C(me:ByteArray)(names:List ByteArray)(lim:Int)(rs:List Rl):List AV:=[str me,.sl 1 (stC names),int lim,.sl 11 (rlC rs)]
@[go_sem] theorem Aqm(me:ByteArray)(n:List ByteArray)(l:Int)(rs:List Rl):(c7C me n l rs).length=4:=rfl
@[go_sem] theorem Apd(me:ByteArray)(n:List ByteArray)(l:Int)(rs:List Rl):(c7C me n l rs).take 4=c7C me n l rs:=rfl
@[go_sem] theorem Aun(me:ByteArray)(n:List ByteArray)(l:Int)(rs:List Rl):(c7C me n l rs).getD 0 (.v undef)=str me:=rfl
@[go_sem] theorem Auo(me:ByteArray)(n:List ByteArray)(l:Int)(rs:List Rl):(c7C me n l rs).getD 1 (.v undef)= .sl 1 (stC n):=rfl
@[go_sem] theorem Aup(me:ByteArray)(n:List ByteArray)(l:Int)(rs:List Rl):(c7C me n l rs).getD 2 (.v undef)=int l:=rfl
@[go_sem] theorem Auq(me:ByteArray)(n:List ByteArray)(l:Int)(rs:List Rl):(c7C me n l rs).getD 3 (.v undef)= .sl 11 (rlC rs):=rfl
def C7Wf(rs:List Rl)(l:List Ac):Prop:=rs.length≤140737488351232∧(∀r∈rs,r.Wf)∧l.length≤140737488351232∧∀a∈l,a.f.Wf
structure C7Sm(names:List ByteArray)(rs:List Rl)(l:List Ac):Prop where
 nm:names.length≤8
 rl:rs.length≤80
 lt:Cl rs rs.length≤80
 rs:∀r∈rs,r.S4
 al:l.length<100
 fs:∀a∈l,a.f.Sm
section
variable{σ:St}
theorem Abc(l:List Rl)(most:Int)(hl:l.length≤140737488351232)(hw:∀r∈l,r.Wf)(h0:0≤most)(h1:most≤1000000):AT Tryz.prog 39 [.sl 11 (rlC l),int most] σ fun v σ'=>(∃w:Int,v=int w∧(w≤most→(l.length:Int)+(Cl l l.length:Nat)≤most∧∀r∈l,r.Sm most))∧σ'=σ:=by
 refine AT.ob Tryz.func39 rfl ?_;simp only[go_sem,Aa];refine⟨fun m fr σ'=>∃(i:Nat) (n:Int),m=l.length-i∧i≤l.length∧σ'=σ∧0≤n∧n≤10000000000000000∧(most<n∨(i:Int)+(Cl l i:Nat)≤n∧∀r∈l.take i,r.Sm n)∧fr 0= .sl 11 (rlC l)∧fr 1=int most∧fr 5=int n∧fr 6=int i,⟨_,0,0,rfl,by omega,rfl,by omega,by omega,.inr ⟨by simp[Cl],fun r hr=>by simp at hr⟩,rfl,rfl,rfl,rfl⟩,?_⟩;rintro m fr σ ⟨i,n,rfl,hi,rfl,hn,hm,hs,f0,f1,f5,f6⟩;have fin:∀(h:n≤most),i=l.length→(l.length:Int)+(Cl l l.length:Nat)≤most∧∀r∈l,r.Sm most:=fun h e=>by
  subst e;rw[List.take_of_length_le (Nat.le_refl _)]at hs;obtain⟨h1,h2⟩:=hs.resolve_left (by omega);exact⟨by omega,fun r hr=>(h2 r hr).up h⟩
 by_cases g1:(i:Int)<l.length
 ·by_cases g2:n≤most
  ·have hil:i<l.length:=by omega
   have hwi:=hw _ (List.getElem_mem hil);simp only[go_sem,Aa,f0,f1,f5,f6,decide_eq_true g1,decide_eq_true g2];refine Ae [.rd 0 false,.rd 1 false,.rd 2 false,.rd 3 false,.rd 4 false,.rd 5 true,.rd 6 false,.rd 7 false,.rd 8 false,.rd 9 false,.rd 10 false,.rd 11 false,.rd 12 true,.rd 13 false,.rd 14 false,.rd 15 false,.rd 16 false,.rd 17 false] ?_;simp only[go_sem,Aa,f0,f1,f5,f6,C7 hil,Ank hn (show n≤1000000 by omega) hwi.1 hwi.2.1];obtain⟨n1,hn1⟩:∃n1:Int,n1=n+(1+l[i].ar.length+(l[i].nm.size/16:Nat)):=⟨_,rfl⟩;have hq:=hwi.1;have hq2:=hwi.2.1;have hq3:=hwi.2.2.1;have hs0:(i:Int)+1+(Cl l i:Nat)≤n1:=by have:=(hs.resolve_left (by omega)).1;omega
   have hs:∀r∈l.take i,r.Sm n1:=fun r hr=>((hs.resolve_left (by omega)).2 r hr).up (by omega);rw[←hn1];refine⟨by omega,by omega,?_⟩;refine⟨fun m fr σ'=>∃(k:Nat) (n':Int),m=l[i].bo.length-k∧k≤l[i].bo.length∧σ'=σ∧n1≤n'∧n'≤10000000000000000∧(most<n'∨((i:Int)+1+(Cl l i:Nat)+k≤n'∧∀x∈l[i].bo.take k,(x.ar.length:Int)≤n'))∧fr 0= .sl 11 (rlC l)∧fr 1=int most∧fr 5=int n'∧fr 6=int i∧fr 7=int k,⟨_,0,n1,rfl,by omega,rfl,by omega,by omega,.inr ⟨by omega,fun x hx=>by simp at hx⟩,f0,f1,rfl,f6,rfl⟩,?_⟩;clear f0 f1 f5 f6 fr;rintro m fr σ ⟨k,n',rfl,hk,rfl,hn',hm',hs',f0,f1,f5,f6,f7⟩;by_cases g3:(k:Int)<l[i].bo.length
   ·by_cases g4:n'≤most
    ·have hkl:k<l[i].bo.length:=by omega
     have hwk:=hwi.2.2.2 _ (List.getElem_mem hkl);have hk1:=hwk.1;have hk2:=hwk.2;simp only[go_sem,Aa,f0,f1,f5,f6,f7,C7 hil,decide_eq_true g3,decide_eq_true g4];refine⟨by omega,?_⟩;refine Ae [.rd 0 false,.rd 1 false,.rd 2 false,.rd 3 false,.rd 4 false,.rd 5 true,.rd 6 false,.rd 7 false,.rd 8 false,.rd 9 true,.rd 10 false,.rd 11 false,.rd 12 false,.rd 13 false,.rd 14 false,.rd 15 false,.rd 16 true,.rd 17 false,.rd 18 false,.rd 19 false,.rd 20 true,.rd 21 false,.rd 22 false,.rd 23 false,.rd 24 false,.rd 25 false] ?_;simp only[go_sem,Aa,f0,f1,f5,f6,f7,C7 hil,Et hkl,Ank (show 0≤n' by omega) (show n'≤1000000 by omega) hwk.1 hwk.2,Ai (show k<9223372036854775807 by omega)];refine⟨by omega,by omega,by omega,by omega,l[i].bo.length-(k+1),by omega,k+1,_,rfl,by omega,?_,?_,?_,rfl,rfl⟩
     ·omega
     ·omega
     ·refine .inr ⟨by have:=hs'.resolve_left (by omega);omega,fun x hx=>?_⟩
      rw[List.take_add_one,List.getElem?_eq_getElem hkl]at hx;rcases List.mem_append.1 hx with hx|hx
      ·have:=(hs'.resolve_left (by omega)).2 x hx;omega
      ·simp at hx;subst hx;omega
    ·simp only[go_sem,Aa,f0,f1,f5,f6,f7,C7 hil,decide_eq_true g3,decide_eq_false g4,Ai (show i<9223372036854775807 by omega)]
     exact⟨by omega,l.length-(i+1),by omega,i+1,n',rfl,by omega,by omega,by omega,.inl (by omega),rfl,rfl⟩
   ·simp only[go_sem,Aa,f0,f1,f5,f6,f7,C7 hil,decide_eq_false g3,Ai (show i<9223372036854775807 by omega)]
    refine⟨by omega,l.length-(i+1),by omega,i+1,n',rfl,by omega,by omega,by omega,?_,rfl,rfl⟩;have eli:Cl l (i+1)=Cl l i+l[i].bo.length:=by rw[←Fm hil];rfl
    refine hs'.imp _root_.id fun hs'=>⟨by rw[eli];omega,fun r hr=>?_⟩;rw[List.take_add_one,List.getElem?_eq_getElem hil]at hr;rw[List.take_of_length_le (show l[i].bo.length≤k by omega)]at hs';rcases List.mem_append.1 hr with hr|hr
    ·exact(hs r hr).up hn'
    ·simp at hr;subst hr;exact⟨by omega,by omega,hs'.2⟩
  ·simp only[go_sem,Aa,f0,f1,f5,f6,decide_eq_true g1,decide_eq_false g2]
   exact Ad (r:=int n) rfl ⟨⟨n,rfl,fun h=>by omega⟩,rfl⟩
 ·simp only[go_sem,Aa,f0,f1,f5,f6,decide_eq_false g1]
  exact Ad (r:=int n) rfl ⟨⟨n,rfl,fun h=>fin h (by omega)⟩,rfl⟩
theorem Aee(me:ByteArray)(names:List ByteArray)(lim:Int)(rs:List Rl)(l:List Ac)(hw:C7Wf rs l):AT Tryz.prog 10 [.agg (c7C me names lim rs),.sl 5 (acC l)] σ fun v σ'=>(∃b:Bool,v=boo b∧(b=true→C7Sm names rs l))∧σ'=σ:=by
 refine AT.ob Tryz.func10 rfl ?_;obtain⟨w1,w2,w3,w4⟩:=hw;have ho:(c7C me names lim rs).all AV.one=true:=rfl;simp only[go_sem,ho];refine Ctx.nil.alloc fun p σ1 c1=>?_;have hp:=c1.g0;have hs1:=c1.sub;have fp:=c1.f0;clear c1;refine⟨fun m fr σ'=>∃(i:Nat) (lv:AV),m=l.length-i∧i≤l.length∧i≤100∧LAt 4 σ' lv (faC ((l.take i).map Ac.f))∧Cd σ1 σ' lv∧fr 1= .sl 5 (acC l)∧fr 2=ptr p∧fr 5=lv∧fr 6=int i,⟨_,0,A0,rfl,by omega,by omega,.none,.nil,rfl,rfl,rfl,rfl⟩,?_⟩;rintro m fr σ2 ⟨i,lv,rfl,hi,h100,hL,hG,f1,f2,f5,f6⟩;by_cases g:i<l.length∧i<100
 ·have hil:=g.1
  have d1:=decide_eq_true (show(i:Int)<l.length by omega);have d2:=decide_eq_true (show(i:Int)<100 by omega);simp only[go_sem,Aa,f1,f5,f6,D4,d1,d2,Uy hil];refine⟨by omega,?_⟩;refine As (ys:=[l[i].f.cs]) rfl (by decide) (by decide) (by decide) (hL.app (by rw[Am,List.length_map,List.length_take];simp only[List.length_cons,List.length_nil];omega) fun lv' σ3 h3 e3=>?_);have G:=hG.step e3;rw[show faC ((l.take i).map Ac.f)++[l[i].f.cs]=faC ((l.take (i+1)).map Ac.f) by rw[List.take_add_one,List.getElem?_eq_getElem hil,List.map_append];unfold faC;rw[List.map_append];rfl]at h3;simp only[go_sem,Aa,f6,Ai (show i<9223372036854775807 by omega)];exact⟨l.length-(i+1),by omega,i+1,lv',rfl,by omega,by omega,h3,G,f1,f2,rfl,rfl⟩
 have no:∀{fr:Fr} {σ':St},(∀y o,σ y=some o→σ' y=some o)→Bb Tryz.prog fr σ' (Tryz.f10).results.toList=some (boo false)→D3 Tryz.prog (fun v σ'=>(∃b:Bool,v=boo b∧(b=true→C7Sm names rs l))∧σ'=σ) (Tryz.f10).results.toList fr σ':=fun hs hr=>
  Af hr _ σ (Aq hs) ⟨⟨false,rfl,fun h=>by cases h⟩,rfl⟩
 have hs2:∀y o,σ y=some o→σ2 y=some o:=fun y o hy=>(hG y o (hs1 y o hy)).1;by_cases g1:i<l.length
 ·have d1:=decide_eq_true (show(i:Int)<l.length by omega)
  have d2:=decide_eq_false (show¬(i:Int)<100 by omega);have d3:=decide_eq_false (show¬(l.length:Int)<100 by omega);simp only[go_sem,Aa,f1,f6,D4,d1,d2,d3];exact no hs2 rfl
 have d1:=decide_eq_false (show¬(i:Int)<l.length by omega);by_cases g2:l.length<100
 case neg=>
  have d3:=decide_eq_false (show¬(l.length:Int)<100 by omega);simp only[go_sem,Aa,f1,f6,D4,d1,d3];exact no hs2 rfl
 have d3:=decide_eq_true (show(l.length:Int)<100 by omega);rw[List.take_of_length_le (by omega)]at hL;have hp2:=(hG _ _ hp).1;simp only[go_sem,Aa,f1,f5,f6,D4,d1,d3];have hw:=Zz (σ:=σ1) (l.map Ac.f) 200 (by rw[List.length_map];omega) (fun f hf=>by obtain⟨a,ha,rfl⟩:=List.mem_map.1 hf;exact w4 a ha) (by omega) (by omega);refine(AT.pre hw (by kernel_rfl) (F9 fun x o hx=>.inl (hG.sub x o hx)) (vws_cons (Aar hL hG) (Ca _))).mono ?_;rintro _ σ1 ⟨⟨x1,rfl,hx1⟩,rfl⟩;by_cases g3:x1≤200
 case neg=>
  simp only[go_sem,Aa,decide_eq_false g3];exact no hs1 rfl
 obtain⟨k1,k2⟩:=hx1 g3;simp only[go_sem,Aa,decide_eq_true g3,f2,hp];refine(Abc rs 80 w1 w2 (by omega) (by omega)).mono ?_;rintro _ σ1 ⟨⟨x2,rfl,hx2⟩,rfl⟩;by_cases g4:x2≤80
 case neg=>
  simp only[go_sem,Aa,decide_eq_false g4];exact no hs1 rfl
 obtain⟨k3,k4⟩:=hx2 g4;by_cases g5:(names.length:Int)≤8
 case neg=>
  simp only[go_sem,Aa,decide_eq_true g4,f2,hp,decide_eq_false g5];exact no hs1 rfl
 simp only[go_sem,Aa,decide_eq_true g4,f2,hp,decide_eq_true g5];refine Af (r:=boo true) rfl _ σ (Aq hs1) ⟨⟨true,rfl,fun _=>⟨by omega,by omega,by omega,fun r hr=>?_,g2,fun a ha=>?_⟩⟩,rfl⟩
 ·obtain⟨j1,j2,j3⟩:=k4 r hr
  exact⟨⟨by omega,fun y hy=>by have:=j3 y hy;omega⟩,by omega⟩
 ·have:=k2 a.f (List.mem_map.2 ⟨a,ha,rfl⟩)
  unfold Fa.Sm;omega
end
structure HIn(me:ByteArray)(B0:List De)(P:ES×List Fa):Prop where
 mi:P.1.me=me
 sub:∀d∈P.1.B,d∈B0
 nd:P.1.B.Nodup
 mem:∀y,y∈P.2↔(y.at'≠me∧(∃d∈B0,d.hd=y)∧¬∃d∈P.1.B,d.hd=y)
theorem Acx{B:List De}{f:Fa}:(ofF B f).length=0↔¬∃d∈B,d.hd=f:=by
 rw[List.length_eq_zero_iff];unfold ofF;rw[List.filter_eq_nil_iff];simp
theorem Ajl{me:ByteArray}{B0:List De}{P:ES×List Fa}{d:De}(h:HIn me B0 P)(hd:d∈P.1.B):HIn me B0 (Di P d):=by
 have hB:∀e,e∈(P.1.B.filter fun y=>!decide (y=d))↔e∈P.1.B∧e≠d:=fun e=>by
  rw[List.mem_filter];simp
 refine⟨h.mi,fun e he=>h.sub e ((hB e).1 he).1,h.nd.filter _,fun y=>?_⟩;have hm:=h.mem y;have e2:(Di P d).2=if d.hd.at'≠P.1.me∧(ofF (P.1.B.filter fun y=>!decide (y=d)) d.hd).length=0 then P.2++[d.hd]else P.2:=rfl
 have e1:(Di P d).1.B=P.1.B.filter fun y=>!decide (y=d):=rfl;rw[e1,e2,h.mi];by_cases hy:d.hd=y
 ·have hno:y∉P.2:=fun hp=>(hm.1 hp).2.2 ⟨d,hd,hy⟩
  have hin:∃e∈B0,e.hd=y:=⟨d,h.sub d hd,hy⟩;by_cases hc:d.hd.at'≠me∧(ofF (P.1.B.filter fun y=>!decide (y=d)) d.hd).length=0
  ·rw[if_pos hc]
   refine⟨fun _=>⟨hy▸hc.1,hin,hy▸Acx.1 hc.2⟩,fun _=>by rw[hy];simp⟩
  ·rw[if_neg hc]
   refine⟨fun hp=>absurd hp hno,fun hp=>absurd ⟨hy▸hp.1,Acx.2 (hy▸hp.2.2)⟩ hc⟩
 ·have hex:(∃e∈P.1.B.filter (fun y=>!decide (y=d)),e.hd=y)↔∃e∈P.1.B,e.hd=y:=by
   constructor
   ·rintro⟨e,he,k⟩
    exact⟨e,((hB e).1 he).1,k⟩
   ·rintro⟨e,he,k⟩
    exact⟨e,(hB e).2 ⟨he,fun h'=>hy (by rw[←h'];exact k)⟩,k⟩
  rw[hex,←hm];split
  ·rw[List.mem_append,List.mem_singleton]
   exact⟨fun hp=>hp.elim _root_.id fun e=>absurd e.symm hy,.inl⟩
  ·exact Iff.rfl
theorem Xm{me:ByteArray}{B0:List De}:∀(U:List De) (P:ES×List Fa),HIn me B0 P→U.Nodup→(∀d∈U,d∈P.1.B)→HIn me B0 (U.foldl Di P)
 | [],P,h,_,_=>h
 |d::U,P,h,hn,hs=>by
  have hn:=List.nodup_cons.1 hn;exact Xm U (Di P d) (Ajl h (hs d (by simp))) hn.2 fun e he=>Va (hs e (by simp[he])) fun h'=>hn.1 (h'▸he)
theorem Ak5{me:ByteArray}{B0:List De}{P:ES×List Fa}{g:Fa}(h:HIn me B0 P):HIn me B0 (D8 P g):=by
 unfold D8;refine Xm _ _ ⟨h.mi,h.sub,h.nd,h.mem⟩ (h.nd.filter _) fun d hd=>(List.mem_filter.1 hd).1
theorem X8{me:ByteArray}{B0:List De}:∀(G:List Fa) (P:ES×List Fa),HIn me B0 P→HIn me B0 (G.foldl D8 P)
 | [],P,h=>h
 |g::G,P,h=>X8 G (D8 P g) (Ak5 h)
theorem Vh{s:ES}{y:Fa}:y∈L1 s↔(∃d∈s.B,d.hd=y)∧y.at'≠s.me:=by
 unfold L1 hdsF;rw[List.mem_filter,Bl An];simp
theorem Ale{s:ES}(hB:s.B.Nodup)(G:List Fa):Ba Ar [] ((L1 s).filter fun y=>!decide (y∈L1 (G.foldl D8 (s,[])).1))=Ba Ar [] (G.foldl D8 (s,[])).2:=by
 have h:=X8 (me:=s.me) (B0:=s.B) G (s,[]) ⟨rfl,fun d hd=>hd,hB,fun y=>by
  simp only[List.not_mem_nil,false_iff];exact fun⟨_,h1,h2⟩=>h2 h1⟩
 refine Gk An (B9 An .nil) (B9 An .nil) fun y=>?_;rw[Bl An,Bl An,List.mem_filter,h.mem];simp only[Bool.not_eq_true',decide_eq_false_iff_not,List.not_mem_nil,or_false];rw[Vh,Vh,h.mi];constructor
 ·rintro⟨⟨h1,h2⟩,h3⟩
  exact⟨h2,h1,fun h4=>h3 ⟨h4,h2⟩⟩
 ·rintro⟨h1,h2,h3⟩
  exact⟨⟨h2,h1⟩,fun h4=>h3 h4.1⟩
theorem Ak6{s:ES}(hT:C4 Ar s.T):Ba Ar [] (s.T.filter fun y=>!decide (y∈C8 s.B (s.given.filter fun g=>decide (g∈s.T))))=Fo s:=by
 unfold Fo Qg;rw[Ex hT,Ex (hT.filter _)];refine List.filter_congr fun y hy=>?_
 congr 1
 refine decide_eq_decide.2 ?_;rw[List.mem_filter];simp[hy]
theorem Alc{s:ES}{f:Fa}(hg:C4 Ar s.given):Ba Ar [] (s.given.filter fun y=>!decide (y∈[f]))=(Dt s f).given:=by
 show _=(Ba Ar [] s.given).filter _;rw[Ex hg,Ex (hg.filter _)]
section
variable{σ:St}{x:Nat}{a:EA}{s:ES}{n:Nat}{hv:Bool}
theorem Zv{n:Nat}{s:ES}(h:SOk n s):(L1 s).length≤n∧∀y∈L1 s,y.Sm:=by
 have h1:=Br (c:=Ar) (s:=[]) (l:=s.B.map De.hd);have h2:=List.length_filter_le (fun y:Fa=>!decide (y.at'=s.me)) (hdsF s.B);have h3:=h.bl;simp only[List.length_nil,List.length_map]at h1;refine⟨by unfold L1;unfold hdsF at h2⊢;omega,fun y hy=>?_⟩;obtain⟨⟨d,hd,e⟩,_⟩:=Vh.1 hy;rw[←e];exact(h.bs d hd).1
set_option maxHeartbeats 1600000 in
theorem Aap(h:EV true σ x a s hv)(hs:SOk n s)(hn:n≤800000000000)(f:Fa)(hfs:f.Sm):
  AT Tryz.prog 44 [ptr x,.agg f.cs] σ fun r σ'=>r=int (J5 s f).1∧∃a',EV true σ' x a' (J5 s f).2 hv∧Frm x a a' σ σ':=by
 refine AT.ob Tryz.func44 rfl ?_;simp only[go_sem];refine Ctx.nil.alloc fun p σ2 c2=>?_;have hp:=c2.g0;have hsb:=c2.sub;clear c2;have h2:=h.more hsb;have hx2:=h2.cx;have hgl:=hs.gl;have hgs:=h2.gsl;simp only[go_sem];refine Ae [.rd 0 false,.rd 1 false,.rd 2 false,.rd 3 true,.rd 4 true,.ef 5 [],.rd 6 false] ?_;simp only[go_sem,hp,hx2,hgs];refine(Ds s.given f (by omega) hs.gs hfs).mono ?_;rintro _ σ2 ⟨rfl,rfl⟩;by_cases hin:f∈s.given
 case neg=>
  have e:J5 s f=(152,s):=by unfold J5;rw[if_neg hin]
  simp only[go_sem,decide_eq_false hin];exact Ad (r:=int 152) rfl ⟨by rw[e],a,by rw[e];exact h2,.of hsb⟩
 simp only[go_sem,decide_eq_true hin];refine Ae [.rd 0 false,.rd 1 false,.rd 2 false,.rd 3 false,.rd 4 true,.rd 5 true,.rd 6 false,.ef 7 [],.rd 8 false,.rd 9 false,.ef 10 []] ?_;simp only[go_sem,hp,hx2,hgs];refine(AT.weak (Lm s.given [f] (by omega) hs.gs (by simp) (fun y hy=>by rw[List.mem_singleton.1 hy];exact hfs)) (vws_same Np)).mono ?_;rintro _ σ2 ⟨rfl,rfl⟩;rw[Alc hs.gr];obtain⟨kE,kF⟩:=h2.setH (l:=(Dt s f).given);have esp:Ay (evC true s a hv) 5 [.sl 4 (faC (Dt s f).given)]=evC true (Dt s f) {a with gv:=.sl 4 (faC (Dt s f).given)} hv:=rfl;simp only[go_sem,Aa,hx2,esp,kE.all1];have F3:=(Frm.of hsb).trans kF;obtain⟨s1,hs1⟩:∃s1:ES,s1=Dt s f:=⟨_,rfl⟩;rw[show({s with given:=(Dt s f).given}:ES)=s1 from hs1.symm,←hs1]at kE F3;rw[←hs1];obtain⟨a1,ha1⟩:∃a1:EA,a1={a with gv:=.sl 4 (faC s1.given)}:=⟨_,rfl⟩;rw[←ha1]at kE F3⊢;have O1:SOk n s1:=by rw[hs1];exact Vn hs
 have hd:J5 s f=(0,{((Fo s1).foldl D8 (s1,[])).1 with outs:=((Fo s1).foldl D8 (s1,[])).1.outs++(Ba Ar [] ((Fo s1).foldl D8 (s1,[])).2).map fun y=>(y,true)}):=by unfold J5;rw[if_pos hin,hs1]
 clear kF hx2 hp hs1 ha1;generalize σ2.set x (.cells (evC true s1 a1 hv))=σ4 at kE F3⊢;have hx4:=kE.cx;have gl4:=O1.gl;have hg4:=kE.gsl;have ht4:σ4 a1.t=some (.cells [.sl 4 (faC s1.T),int s1.lim]):=kE.ct;have htl:=O1.tok.len;obtain⟨W,hW⟩:∃W,W=s1.given:=⟨_,rfl⟩;refine⟨fun m fr σ'=>∃(i:Nat) (lv:AV),m=W.length-i∧i≤W.length∧LAt 4 σ' lv (faC ((W.take i).filter fun g=>decide (g∈s1.T)))∧Cd σ4 σ' lv∧fr 0=ptr x∧fr 5=lv∧fr 6=int i,⟨_,0,A0,rfl,by omega,.none,.nil,rfl,rfl,rfl⟩,?_⟩;rintro m fr σ5 ⟨i,lv,rfl,hi,hL,hG,f0,f5,f6⟩;have E5:=kE.more hG.sub;have hx5:=E5.cx;have ht5:=hG.sub _ _ ht4;rw[←hW]at hg4;rw[←hW]at gl4;simp only[go_sem,f0,f6,hx5,hg4,Am];refine aIf_by (fun hlt=>?_) (fun hlt=>?_)
 ·have hil:i<W.length:=by omega
  have hsm:=O1.gs W[i] (by rw[←hW];exact List.getElem_mem hil);have et:=Ia (p:=fun g=>decide (g∈s1.T)) hil;have nx:=Ai (show i<9223372036854775807 by omega);simp only[go_sem,Aa];refine Ae [.rd 0 false,.rd 1 false,.rd 2 false,.rd 3 true,.rd 4 false,.rd 5 false,.rd 6 true,.rd 7 false,.rd 8 false,.rd 9 false,.rd 10 true,.rd 11 false,.rd 12 false,.rd 13 true,.ef 14 []] ?_;simp only[go_sem,Aa,f0,f6,hx5,hg4,ht5,Au hil,Am];refine⟨by omega,(Ds s1.T W[i] (by omega) O1.tok.sm hsm).mono ?_⟩;rintro _ σ5 ⟨rfl,rfl⟩;by_cases hm:W[i]∈s1.T
  ·rw[if_pos (decide_eq_true hm)]at et
   have tl:((W.take i).filter fun g=>decide (g∈s1.T)).length≤W.length:=Mk;simp only[go_sem,Aa,decide_eq_true hm,f0,f5,f6,hx5,hg4,Au hil,Am];refine⟨by omega,?_⟩;refine As (ys:=[W[i].cs]) rfl (by decide) (by decide) (by decide) (hL.app (by rw[Am];simp only[List.length_cons,List.length_nil];omega) fun lv' σ6 hL5 hs5=>?_);have e5:faC ((W.take i).filter fun g=>decide (g∈s1.T))++[W[i].cs]=faC ((W.take (i+1)).filter fun g=>decide (g∈s1.T)):=by rw[et];simp[faC]
   rw[e5]at hL5;simp only[go_sem,Aa,f6,nx];exact⟨W.length-(i+1),by omega,i+1,lv',rfl,by omega,hL5,hG.step hs5,f0,rfl,rfl⟩
  ·rw[if_neg (by simpa using hm),List.append_nil]at et
   simp only[go_sem,Aa,decide_eq_false hm,f6,nx];exact⟨W.length-(i+1),by omega,i+1,lv,rfl,by omega,by rw[et];exact hL,hG,f0,f5,rfl⟩
 ·rw[List.take_of_length_le (by omega)]at hL
  simp only[go_sem,Aa,f0,f5,hx5];have nlv:∀y,Bn x a1 y→¬Own lv y:=fun y hf=>by
   obtain⟨o,hy⟩:=Dl kE hf;exact(hG y o hy).2
  obtain⟨σ6,e6⟩:∃σ6,σ6=St.free σ5 lv:=⟨_,rfl⟩;have E6:EV true σ6 x a1 s1 hv:=E5.keep fun y o hy hf=>by rw[e6,D7 (nlv y hf)];exact hy
  have F6:Frm x a a1 σ σ6:=F3.trans fun y o hy hn=>⟨by rw[e6,D7 (hG y o hy).2];exact(hG y o hy).1,hn⟩;obtain⟨bs,hbs⟩:∃bs,bs=W.filter fun g=>decide (g∈s1.T):=⟨_,rfl⟩;have hbl:bs.length≤W.length:=by rw[hbs];exact List.length_filter_le _ _
  have hbm:∀y∈bs,y.Sm:=fun y hy=>O1.gs y (by rw[hbs]at hy;rw[←hW];exact(List.mem_filter.1 hy).1);have hb6:RK σ6 a1.b s1.B:=E6.cb;have hbk:=O1.bok (by omega);have hbl2:=O1.bl;rw[←hbs]at hL;refine AT.pre (args':=[ptr a1.b,.sl 4 (faC bs)]) ((Yn (e6▸hb6) hbk bs (by omega) hbm).mono ?_) (by kernel_rfl) Qt (vws_same (vws_cons hL.vw_free By));rintro _ _ ⟨rfl,rfl⟩;rw[←e6];clear e6 E5 hx5 ht5 hL hG nlv kE F3 hx4 ht4;have hx6:=E6.cx;have ht6:σ6 a1.t=some (.cells [.sl 4 (faC s1.T),int s1.lim]):=E6.ct;have ly:=Mm s1.B bs;have lyl:=ly.len;have lys:∀y∈C8 s1.B bs,y.Sm:=fun y hy=>by
   rcases ly.own y hy with hy|⟨d,hd,e⟩
   ·exact hbm y hy
   ·rw[←e];exact(O1.bs d hd).1
  simp only[go_sem,Aa,f0,hx6,ht6];refine(Lm s1.T (C8 s1.B bs) (by omega) O1.tok.sm (by omega) lys).mono ?_;rintro _ σ6 ⟨rfl,rfl⟩;rw[hbs,hW,Ak6 O1.tok.rises];simp only[go_sem,Aa,f0];refine(Kx E6 O1 hn).mono ?_;rintro _ σ6 ⟨rfl,rfl⟩;obtain⟨G,hG⟩:∃G,G=Fo s1:=⟨_,rfl⟩;rw[←hG]at hd⊢
  have hGs:∀y∈G,y.Sm:=fun y hy=>O1.tok.sm y (by
   rw[hG]at hy;have:=(List.mem_filter.1 hy).1;rw[Bl An]at this;simpa using this)
  have gl:G.length≤1000000:=by
   rw[hG];have h1:=List.length_filter_le (fun y=>!decide (y∈Qg s1)) (Ba Ar [] s1.T);have h2:=Br (c:=Ar) (s:=[]) (l:=s1.T);simp only[List.length_nil]at h2;unfold Fo;omega
  have g0:GOk n (s1,[]):=⟨O1,by have:=O1.bo;show s1.B.length+s1.outs.length+0≤n;omega,fun y hy=>by cases hy⟩;have fcl:=Am G;obtain⟨was,hwas⟩:∃was,was=L1 s1:=⟨_,rfl⟩;have hws:=Zv O1;rw[←hwas]at hws⊢;simp only[go_sem,Aa];refine⟨fun m fr σ'=>∃(i:Nat) (P:ES×List Fa),m=G.length-i∧i≤G.length∧P=(G.take i).foldl D8 (s1,[])∧GOk n P∧EV true σ' x a1 P.1 hv∧Frm x a a1 σ σ'∧fr 0=ptr x∧fr 8= .sl 4 (faC G)∧fr 9= .sl 4 (faC was)∧fr 10=int i,⟨_,0,(s1,[]),rfl,by omega,rfl,g0,E6,F6,f0,rfl,rfl,rfl⟩,?_⟩;clear g0 E6 F6 hx6 ht6 f0 f5 f6 hb6;rintro m fr σ2 ⟨i,P,rfl,hi,hP,hO,hE,hF,f0,f8,f9,f10⟩;simp only[go_sem,f8,f10,fcl];refine aIf_by (fun hlt=>?_) (fun hlt=>?_)
  case' refine_1=>
   have hil:i<G.length:=by omega
   have hgs:=hGs _ (List.getElem_mem hil);obtain⟨g,hg⟩:∃g,g=G[i]:=⟨_,rfl⟩;rw[←hg]at hgs;have gg:(faC G).getD i []=g.cs:=by rw[hg];exact Au hil
   have hx4:=hE.cx;simp only[go_sem,Aa];refine Ae [.rd 0 false,.rd 1 false,.rd 2 false,.rd 3 true,.rd 4 false,.rd 5 false,.rd 6 false,.rd 7 true,.ef 8 []] ?_;simp only[go_sem,Aa,f0,f8,f10,hx4,gg,fcl];refine⟨by omega,(Aim (t:=a1.t) hE.ct hO.ok.tok g hgs).mono ?_⟩;rintro _ σ5 ⟨rfl,rfl⟩;have hE1:EV true (σ2.set a1.t (tbC (H9 P.1.T g).1 P.1.lim)) x a1 (takS P g).1 hv:=hE.setT;have hF1:Frm x a a1 σ (σ2.set a1.t (tbC (H9 P.1.T g).1 P.1.lim)):=hF.trans .setT;have hO1:=Aba (g:=g) hO;obtain⟨P1,hP1⟩:∃P1,P1=takS P g:=⟨_,rfl⟩;have hB1:P1.1.B=P.1.B:=by rw[hP1];rfl
   rw[←hP1]at hE1 hO1;generalize σ2.set a1.t (tbC (H9 P.1.T g).1 P.1.lim)=σ5 at hE1 hF1⊢;clear hE hF hx4;have hx5:=hE1.cx;have hb5:RK σ5 a1.b P1.1.B:=hE1.cb;simp only[go_sem,Aa];refine Ae [.rd 0 false,.rd 1 false,.rd 2 false,.rd 3 true,.rd 4 false,.rd 5 false,.rd 6 false,.rd 7 true,.ef 8 [],.rd 9 false] ?_;simp only[go_sem,Aa,f0,f8,f10,hx5,gg,fcl];refine⟨by omega,(Aio hb5 (hO1.ok.bok (by omega)) g hgs).mono ?_⟩;rintro _ σ5 ⟨rfl,rfl⟩;obtain⟨U,hU⟩:∃U,U=useF P1.1.B g:=⟨_,rfl⟩;have hUm:∀d∈U,d∈P1.1.B:=fun d hd=>by rw[hU]at hd;exact(List.mem_filter.1 hd).1
   have hUn:U.Nodup:=by rw[hU];exact(Ij A7 hO1.ok.br).filter _
   have hUl:U.length≤800000000000:=by
    have h1:=List.length_filter_le (fun d:De=>decide (g∈d.bo)) P1.1.B;have h2:=hO1.ok.bl;rw[hU];unfold useF;omega
   have hUs:∀d∈U,d.Sm:=fun d hd=>hO1.ok.bs d (hUm d hd);have es1:U.foldl Di P1=D8 P g:=by unfold D8;rw[hU,hP1];rfl
   rw[←hU];have dcl:=At U;simp only[go_sem,Aa];refine⟨fun m fr σ'=>∃(k:Nat) (P2:ES×List Fa),m=U.length-k∧k≤U.length∧P2=(U.take k).foldl Di P1∧GOk n P2∧EV true σ' x a1 P2.1 hv∧Frm x a a1 σ σ'∧fr 0=ptr x∧fr 8= .sl 4 (faC G)∧fr 9= .sl 4 (faC was)∧fr 10=int i∧fr 11= .sl 6 (deC U)∧fr 12=int k,⟨_,0,P1,rfl,by omega,rfl,hO1,hE1,hF1,f0,f8,f9,f10,rfl,rfl⟩,?_⟩;clear hE1 hF1 hx5 hb5 f0 f8 f9 f10;rintro m fr σ2 ⟨k,P2,rfl,hk,hP2,hO2,hE2,hF2,f0,f8,f9,f10,f11,f12⟩;simp only[go_sem,f11,f12,dcl];refine aIf_by (fun hlt=>?_) (fun hlt=>?_)
   case' refine_2=>
    have ek:k=U.length:=by omega
    have eP:P2=(G.take (i+1)).foldl D8 (s1,[]):=by rw[hP2,ek,List.take_length,es1,Le _ hil,←hP,hg]
    simp only[go_sem,Aa,f10,Ai (show i<9223372036854775807 by omega)];exact⟨G.length-(i+1),by omega,i+1,P2,rfl,by omega,eP,hO2,hE2,hF2,f0,f8,f9,rfl⟩
   have hkl:k<U.length:=by omega
   obtain⟨d,hdd⟩:∃d,d=U[k]:=⟨_,rfl⟩;have hdm:d∈U:=by rw[hdd];exact List.getElem_mem hkl
   have hds:=hUs d hdm;have hdB:d∈P2.1.B:=by
    rw[hP2];exact Rk _ _ (hUm d hdm) (by rw[hdd];exact Acq hUn hkl)
   have dg:(deC U).getD k []=d.cs:=by rw[hdd];exact Bv hkl
   have e2:Di P2 d=(U.take (k+1)).foldl Di P1:=by rw[Le _ hkl,←hP2,hdd]
   have hO3:=Zk hO2 hdB;have hx4:=hE2.cx;simp only[go_sem,Aa];refine Ae [.rd 0 false,.rd 1 false,.rd 2 false,.rd 3 true,.rd 4 false,.rd 5 false,.rd 6 false,.rd 7 true,.ef 8 []] ?_;simp only[go_sem,Aa,f0,f11,f12,hx4,dg,dcl];refine⟨by omega,(Aib (t:=a1.b) hE2.cb (hO2.ok.bok (by omega)) d hds).mono ?_⟩;rintro _ σ5 ⟨rfl,rfl⟩;have hE3:EV true (σ2.set a1.b (rkC (P2.1.B.filter fun y=>!decide (y=d)))) x a1 (Di P2 d).1 hv:=hE2.setB;have hF3:Frm x a a1 σ (σ2.set a1.b (rkC (P2.1.B.filter fun y=>!decide (y=d)))):=hF2.trans .setB;simp only[go_sem,Aa,f12,Ai (show k<9223372036854775807 by omega)];exact⟨U.length-(k+1),by omega,k+1,Di P2 d,rfl,by omega,e2,hO3,hE3,hF3,f0,f8,f9,f10,f11,rfl⟩
  have ei:i=G.length:=by omega
  rw[ei,List.take_length]at hP;simp only[go_sem,Aa,f0,f9];refine(Kx hE hO.ok hn).mono ?_;rintro _ σ2 ⟨rfl,rfl⟩;have hws2:=Zv hO.ok;simp only[go_sem,Aa,f9];refine(Lm was (L1 P.1) (by omega) hws.2 (by omega) hws2.2).mono ?_;rintro _ σ2 ⟨rfl,rfl⟩;rw[hwas,hP,Ale (Ij A7 O1.br) G,←hP];rw[←hP]at hd;obtain⟨H,hH⟩:∃H,H=Ba Ar [] P.2:=⟨_,rfl⟩;rw[←hH]at hd⊢;have Hl:H.length≤P.2.length:=by
   have:=Br (c:=Ar) (s:=[]) (l:=P.2);rw[←hH]at this;simp only[List.length_nil]at this;omega
  have hcl:=Am H;have hle:=hO.le;obtain⟨z,hz⟩:∃z,z=P.1.outs:=⟨_,rfl⟩;have hzl:z.length+P.2.length≤n:=by rw[hz];omega
  simp only[go_sem,Aa];refine⟨fun m fr σ'=>∃(k:Nat) (a':EA) (s':ES),m=H.length-k∧k≤H.length∧s'={P.1 with outs:=z++(H.take k).map fun y=>(y,true)}∧EV true σ' x a' s' hv∧Frm x a a' σ σ'∧fr 0=ptr x∧fr 13= .sl 4 (faC H)∧fr 14=int k,⟨_,0,a1,P.1,rfl,by omega,by rw[hz];simp,hE,hF,f0,rfl,rfl⟩,?_⟩;clear hE hF f0 f8 f9 f10;rintro m fr σ2 ⟨k,a',s',rfl,hk,hs',E2,F2,f0,f13,f14⟩;simp only[go_sem,f13,f14,hcl];refine aIf_by (fun hlt=>?_) (fun hlt=>?_)
  case' refine_2=>
   have ek:k=H.length:=by omega
   rw[ek,List.take_length,hz]at hs';simp only[go_sem,Aa];exact Ad (r:=int 0) rfl ⟨by rw[hd],a',by rw[hd,←hs'];exact E2,F2⟩
  have hkl:k<H.length:=by omega
  obtain⟨g,hg⟩:∃g,g=H[k]:=⟨_,rfl⟩;have gg:(faC H).getD k []=g.cs:=by rw[hg];exact Au hkl
  have hx4:=E2.cx;have ol:s'.outs.length=z.length+k:=by rw[hs'];simp;omega
  simp only[go_sem,Aa];refine Ae [.rd 0 false,.rd 1 false,.rd 2 false,.rd 3 false,.rd 4 true,.rd 5 false,.rd 6 false,.rd 7 false,.rd 8 true,.rd 9 false,.rd 10 false,.ef 11 [],.rd 12 false,.rd 13 false,.ef 14 []] ?_;simp only[go_sem,Aa,f0,f13,f14,hx4,gg,hcl];refine⟨by omega,Nat.le_refl 5,rfl,rfl,?_⟩;refine As (ys:=[g.cs++[boo true]]) rfl (by decide) (by decide) (by decide) (E2.co.app (by rw[Hj,ol];simp only[List.length_cons,List.length_nil];omega) fun v' σ5 k1 k2=>?_);rw[show ouC s'.outs++[g.cs++[boo true]]=ouC (s'.outs++[(g,true)]) by simp[ouC]]at k1;obtain⟨kx,kE,kF⟩:=E2.setO k1 k2;have esp:Ay (evC true s' a' hv) 7 [v']=evC true {s' with outs:=s'.outs++[(g,true)]} {a' with ov:=v'} hv:=rfl;have e5:({s' with outs:=s'.outs++[(g,true)]}:ES)={P.1 with outs:=z++(H.take (k+1)).map fun y=>(y,true)}:=by
   rw[hs',List.take_add_one,List.getElem?_eq_getElem hkl,hg];simp only[List.map_append,Option.toList,List.map_cons,List.map_nil,List.append_assoc]
  simp only[go_sem,Aa,kx,k1.one,k1.cells,esp,kE.all1,f14,Ai (show k<9223372036854775807 by omega)];exact⟨H.length-(k+1),by omega,k+1,_,_,rfl,by omega,e5,kE,F2.trans kF,f0,f13,rfl⟩
end
structure J4(s s':ES):Prop where
 me:s'.me=s.me
 names:s'.names=s.names
 rules:s'.rules=s.rules
 lim:s'.lim=s.lim
theorem J4.refl(s:ES):J4 s s:=⟨rfl,rfl,rfl,rfl⟩
theorem J4.trans{s s' s'':ES}(h:J4 s s')(k:J4 s' s''):J4 s s'':=⟨k.me.trans h.me,k.names.trans h.names,k.rules.trans h.rules,k.lim.trans h.lim⟩
theorem Aek(s:ES)(f:Fa):J4 s (G6 s f).2:=by
 unfold G6
 repeat' split
 all_goals exact⟨rfl,rfl,rfl,rfl⟩
theorem Aci{n g:Nat}{s:ES}{f:Fa}(h:SOk n s)(hg:s.given.length≤g)(g1:g+1≤1000000):SOk (n+1) (G6 s f).2∧(G6 s f).2.given.length≤g+1:=by
 unfold G6;split
 ·rename_i hf
  split
  ·split
   ·exact⟨h.le (by omega),Nat.le_trans hg (Nat.le_succ g)⟩
   ·have h2:=Br (c:=Ar) (s:=[]) (l:=s.given++[f])
    simp only[List.length_nil,List.length_append,List.length_cons]at h2;have hsm:=Vr hf;have hgl:(Ba Ar [] (s.given++[f])).length≤g+1:=by omega
    refine⟨{h.le (show n≤n+1 by omega)with ql:=?_,qs:=fun y hy=>?_,gr:=B9 An .nil,gl:=(by show(Ba Ar [] (s.given++[f])).length≤1000000;omega),gs:=fun y hy=>?_},hgl⟩
    ·show(s.queue++[f]).length≤n+1
     have:=h.ql;simp only[List.length_append,List.length_cons,List.length_nil];omega
    ·rcases List.mem_append.1 hy with hy|hy
     ·exact h.qs y hy
     ·rw[List.mem_singleton.1 hy];exact hsm
    ·rcases(Bl An).1 hy with hy|hy
     ·rcases List.mem_append.1 hy with hy|hy
      ·exact h.gs y hy
      ·rw[List.mem_singleton.1 hy];exact hsm
     ·cases hy
  ·exact⟨h.le (by omega),Nat.le_trans hg (Nat.le_succ g)⟩
 ·exact⟨h.le (by omega),Nat.le_trans hg (Nat.le_succ g)⟩
theorem Ab3{n:Nat}:∀(l:List De) (p:ES×List Fa),l.Nodup→(∀d∈l,d∈p.1.B)→GOk n p→GOk n (l.foldl Di p)
 | [],p,_,_,h=>h
 |d::l,p,hn,hm,h=>by
  obtain⟨n1,n2⟩:=List.nodup_cons.1 hn;exact Ab3 l (Di p d) n2 (fun e he=>Va (hm e (by simp[he])) fun e'=>n1 (e'▸he)) (Zk h (hm d (by simp)))
theorem An3{n:Nat}{p:ES×List Fa}{g:Fa}(h:GOk n p):GOk n (D8 p g):=
 Ab3 _ _ ((Ij A7 h.ok.br).filter _) (fun d hd=>(List.mem_filter.1 hd).1) (Aba h)
theorem Acg{n:Nat}:∀(l:List Fa) (p:ES×List Fa),GOk n p→GOk n (l.foldl D8 p)
 | [],p,h=>h
 |g::l,p,h=>Acg l (D8 p g) (An3 h)
theorem To:∀(l:List De) (p:ES×List Fa),J4 p.1 (l.foldl Di p).1∧(l.foldl Di p).1.given=p.1.given∧(l.foldl Di p).1.queue=p.1.queue∧(l.foldl Di p).1.T=p.1.T∧(l.foldl Di p).1.full=p.1.full∧(l.foldl Di p).1.outs=p.1.outs
 | [],p=>⟨.refl _,rfl,rfl,rfl,rfl,rfl⟩
 |d::l,p=>by
  obtain⟨h1,h2,h3,h4,h5,h6⟩:=To l (Di p d);exact⟨J4.trans (s':=(Di p d).1) ⟨rfl,rfl,rfl,rfl⟩ h1,h2,h3,h4,h5,h6⟩
theorem Pk:∀(l:List Fa) (p:ES×List Fa),J4 p.1 (l.foldl D8 p).1∧(l.foldl D8 p).1.given=p.1.given∧(l.foldl D8 p).1.queue=p.1.queue∧(l.foldl D8 p).1.full=p.1.full∧(l.foldl D8 p).1.outs=p.1.outs
 | [],p=>⟨.refl _,rfl,rfl,rfl,rfl⟩
 |g::l,p=>by
  obtain⟨h1,h2,h3,h4,h5⟩:=Pk l (D8 p g);obtain⟨k1,k2,k3,_,k4,k5⟩:=To (useF p.1.B g) (takS p g);exact⟨J4.trans (s':=(D8 p g).1) (J4.trans (s':=(takS p g).1) ⟨rfl,rfl,rfl,rfl⟩ k1) h1,h2.trans k2,h3.trans k3,h4.trans k4,h5.trans k5⟩
theorem Ad2(s:ES)(f:Fa):J4 s (J5 s f).2:=by
 unfold J5;split
 ·have:=(Pk (Fo (Dt s f)) (Dt s f,[])).1
  exact⟨this.me,this.names,this.rules,this.lim⟩
 ·exact .refl s
theorem Aje{n g:Nat}{s:ES}{f:Fa}(h:SOk n s)(hg:s.given.length≤g):SOk n (J5 s f).2∧(J5 s f).2.given.length≤g:=by
 unfold J5;split
 ·have G0:GOk n (Dt s f,[]):=⟨Vn h,by have:=h.bo;exact this,fun y hy=>by cases hy⟩
  have G:=Acg (Fo (Dt s f)) _ G0;obtain⟨_,e1,_⟩:=Pk (Fo (Dt s f)) (Dt s f,[]);generalize (Fo (Dt s f)).foldl D8 (Dt s f,[])=p at G e1;have h2:=Br (c:=Ar) (s:=[]) (l:=p.2);have h3:=G.le;simp only[List.length_nil]at h2;refine⟨{G.ok with bo:=?_,os:=fun o ho=>?_},?_⟩
  ·show p.1.B.length+(p.1.outs++(Ba Ar [] p.2).map fun y=>(y,true)).length≤n
   rw[List.length_append,List.length_map];omega
  ·rcases List.mem_append.1 ho with ho|ho
   ·exact G.ok.os o ho
   ·obtain⟨y,hy,rfl⟩:=List.mem_map.1 ho
    rcases(Bl An).1 hy with hy|hy
    ·exact G.sm y hy
    ·cases hy
  ·show p.1.given.length≤g
   rw[e1];have h1:=List.length_filter_le (fun y=>!decide (y∈[f])) (Ba Ar [] s.given);have h2:=Br (c:=Ar) (s:=[]) (l:=s.given);simp only[List.length_nil]at h2;show((Ba Ar [] s.given).filter fun y=>!decide (y∈[f])).length≤g;omega
 ·exact⟨h,hg⟩
theorem Pv(s:ES):J4 s (Cg s).2∧(Cg s).2.given=s.given:=by
 unfold Cg;split
 ·exact⟨.refl s,rfl⟩
 split
 ·exact⟨.refl s,rfl⟩
 rename_i f q hq;split
 ·exact⟨⟨rfl,rfl,rfl,rfl⟩,rfl⟩
 split
 ·have k:=Ky s.me f (Cp s.T s.lim f).1 s.rules {s with queue:=q,T:=(Cp s.T s.lim f).1} s.rules.length
  exact⟨⟨k.me,k.names,k.rules,k.lim⟩,k.given⟩
 ·exact⟨⟨rfl,rfl,rfl,rfl⟩,rfl⟩
theorem Tn:∀(k:Nat) (s:ES),J4 s (Iz k s)∧(Iz k s).given=s.given
 |0,s=>⟨.refl s,rfl⟩
 |k+1,s=>by
  show J4 s (if(Cg s).1=true then Iz k (Cg s).2 else s)∧(if(Cg s).1=true then Iz k (Cg s).2 else s).given=s.given;split
  ·obtain⟨h1,h2⟩:=Tn k (Cg s).2
   obtain⟨k1,k2⟩:=Pv s;exact⟨k1.trans h1,h2.trans k2⟩
  ·exact⟨.refl s,rfl⟩
theorem Ab2:∀(k:Nat) {n:Nat} {s:ES},SOk n s→Cl s.rules s.rules.length≤80→Wq k s→SOk (n+k*4800160) (Iz k s)∧L6 (Iz k s)∧(Cg (Iz k s)).1=false
 |0,n,s,h,hl,hd=>⟨h.le (by omega),hd.1,hd.2⟩
 |k+1,n,s,h,hl,hd=>by
  show SOk _ (if(Cg s).1=true then Iz k (Cg s).2 else s)∧L6 (if(Cg s).1=true then Iz k (Cg s).2 else s)∧(Cg (if(Cg s).1=true then Iz k (Cg s).2 else s)).1=false;split
  ·rename_i hc
   obtain⟨k1,k2⟩:=Pv s;have h1:=(Ss h hd.1).le (m:=n+4800160) (by omega);obtain⟨j1,j2,j3⟩:=Ab2 k h1 (by rw[k1.rules];exact hl) (hd.2 hc);exact⟨j1.le (by omega),j2,j3⟩
  ·rename_i hc
   exact⟨h.le (by omega),hd.1,by simpa using hc⟩
structure J6(σ:St)(x:Nat)(a:EA)(y:Nat)(b:EA)(s:ES):Prop where
 ex:EV false σ x a s false
 ey:EV true σ y b s false
 dj:∀z,Bn x a z→¬Bn y b z
theorem EV.stay{r:Bool}{σ σ':St}{x y:Nat}{a a' b:EA}{t:ES}{hv:Bool}(h:EV r σ y b t hv)(F:Frm x a a' σ σ')(dj:∀z,Bn y b z→¬Bn x a z):EV r σ' y b t hv∧∀z,Bn y b z→¬Bn x a' z:=
 ⟨h.keep fun z o hz hf=>(F z o hz (dj z hf)).1,fun z hf=>by
  obtain⟨o,ho⟩:=Dl h hf;exact(F z o ho (dj z hf)).2⟩
def Ot(x:Nat)(a a':EA)(y:Nat)(b b':EA)(σ σ':St):Prop:=∀z o,σ z=some o→¬Bn x a z→¬Bn y b z→σ' z=some o∧¬Bn x a' z∧¬Bn y b' z
theorem Ot.trans{x y:Nat}{a a' a'' b b' b'':EA}{σ σ' σ'':St}(h:Ot x a a' y b b' σ σ')(k:Ot x a' a'' y b' b'' σ' σ''):Ot x a a'' y b b'' σ σ'':=fun z o h1 h2 h3=>by
 obtain⟨k1,k2,k3⟩:=h z o h1 h2 h3;exact k z o k1 k2 k3
theorem Frm.l{x y:Nat}{a a' b:EA}{σ σ':St}(F:Frm x a a' σ σ'):Ot x a a' y b b σ σ':=fun z o h1 h2 h3=>⟨(F z o h1 h2).1,(F z o h1 h2).2,h3⟩
theorem Frm.r{x y:Nat}{a b b':EA}{σ σ':St}(F:Frm y b b' σ σ'):Ot x a a y b b' σ σ':=fun z o h1 h2 h3=>⟨(F z o h1 h3).1,h2,(F z o h1 h3).2⟩
theorem Ot.more{x y:Nat}{a b:EA}{σ σ':St}(h:∀z o,σ z=some o→σ' z=some o):Ot x a a y b b σ σ':=fun z o h1 h2 h3=>⟨h z o h1,h2,h3⟩
theorem J6.more{σ σ':St}{x y:Nat}{a b:EA}{s:ES}(h:J6 σ x a y b s)(hs:∀z o,σ z=some o→σ' z=some o):J6 σ' x a y b s:=⟨h.ex.more hs,h.ey.more hs,h.dj⟩
section
variable{σ:St}
theorem Ahn(l k:List (Fa×Bool))(ls:∀o∈l,o.1.Sm)(ks:∀o∈k,o.1.Sm)(ll:l.length≤800000000000)(kl:k.length≤800000000000):AT Tryz.prog 69 [.sl 5 (ouC l),.sl 5 (ouC k)] σ fun r σ'=>r=boo (decide (l=k))∧σ'=σ:=by
 refine AT.ob Tryz.func69 rfl ?_;by_cases hl:l.length=k.length
 case neg=>
  have d:=decide_eq_false (show¬(l.length:Int)=k.length by omega);simp only[go_sem,Hj,d];exact Ad (r:=boo false) rfl ⟨by rw[decide_eq_false fun e=>hl (by rw[e])],rfl⟩
 have d:=decide_eq_true (show(l.length:Int)=k.length by omega);simp only[go_sem,Hj,d];refine⟨fun m fr σ'=>∃i:Nat,m=l.length-i∧i≤l.length∧σ'=σ∧l.take i=k.take i∧fr 0= .sl 5 (ouC l)∧fr 1= .sl 5 (ouC k)∧fr 5=int i,⟨_,0,rfl,by omega,rfl,rfl,rfl,rfl,rfl⟩,?_⟩;rintro m fr σ ⟨i,rfl,hi,rfl,hI,f0,f1,f5⟩;simp only[go_sem,f0,f5,Hj];refine aIf_by (fun hlt=>?_) (fun hlt=>?_)
 ·have hia:i<l.length:=by omega
  have hib:i<k.length:=by omega
  have g1:=Acz hia;have g2:=Acz hib;simp only[go_sem,Aa];refine Ae [.rd 0 false,.rd 1 false,.rd 2 false,.rd 3 false,.rd 4 true,.rd 5 false,.rd 6 false,.rd 7 false,.rd 8 false,.rd 9 true,.rd 10 false,.rd 11 false,.rd 12 false,.rd 13 false,.rd 14 false,.rd 15 false,.rd 16 true,.rd 17 false,.rd 18 false,.rd 19 false,.rd 20 false,.rd 21 true,.ef 22 [],.rd 23 false,.rd 24 false] ?_;have q1:∀(f:Fa) (g:Bool),(f.cs++[boo g]).length=5:=fun f g=>rfl;have q2:∀(f:Fa) (g:Bool),((f.cs++[boo g]).drop 4).getD 0 (.v undef)=boo g:=fun f g=>rfl;have q3:∀(f:Fa) (g:Bool),((f.cs++[boo g]).drop 0).take 4=f.cs:=fun f g=>rfl;simp only[go_sem,Aa,f0,f1,f5,g1,g2,Hj,q1,q2,q3];refine⟨by omega,by omega,?_⟩;have la:=ls _ (List.getElem_mem hia);have lb:=ks _ (List.getElem_mem hib);by_cases hg:l[i].2=k[i].2
  case neg=>
   have d2:=decide_eq_true (show¬l[i].2=k[i].2 from hg);simp only[go_sem,Aa,d2];exact Ad (r:=boo false) rfl ⟨by rw[decide_eq_false fun e=>hg (by simp only[e])],rfl⟩
  have d2:=decide_eq_false (show¬¬l[i].2=k[i].2 from fun h=>h hg);have q4:∀(f:Fa) (g:Bool),(f.cs++[boo g]).take 4=f.cs:=fun f g=>rfl;simp only[go_sem,Aa,d2,f0,f1,f5,g1,g2,Hj,q1,q3,q4];refine⟨by omega,by omega,(Eu (x:=l[i].1) (y:=k[i].1) .cs .cs la lb).mono ?_⟩;rintro _ σ ⟨rfl,rfl⟩;by_cases hf:l[i].1=k[i].1
  ·have d3:Ar l[i].1 k[i].1=0:=(An.zero _ _).2 hf
   simp only[go_sem,Aa,d3,f5,Ai (show i<9223372036854775807 by omega)];exact⟨l.length-(i+1),by omega,i+1,rfl,by omega,by rw[List.take_add_one,List.take_add_one,hI,List.getElem?_eq_getElem hia,List.getElem?_eq_getElem hib,Prod.ext hf hg],f0,f1,rfl⟩
  ·have d3:¬Ar l[i].1 k[i].1=0:=fun e=>hf ((An.zero _ _).1 e)
   simp only[go_sem,Aa,d3,decide_eq_false d3];exact Ad (r:=boo false) rfl ⟨by rw[decide_eq_false fun e=>hf (by simp only[e])],rfl⟩
 ·simp only[go_sem,Aa]
  rw[List.take_of_length_le (by omega),List.take_of_length_le (by omega)]at hI;exact Ad (r:=boo true) rfl ⟨by rw[decide_eq_true hI],rfl⟩
end
structure ActI(n g:Nat)(s0:ES)(σ0:St)(x:Nat)(a0:EA)(y:Nat)(b0:EA)(σ:St):Prop where
 h:∃a b s,J6 σ x a y b s∧SOk n s∧s.given.length≤g∧J4 s0 s∧Ot x a0 a y b0 b σ0 σ
section
variable{σ:St}{x y:Nat}{a b:EA}{s:ES}{n g:Nat}
theorem J6.two{σ1 σ2:St}{a' b':EA}{s':ES}(h:J6 σ x a y b s)(F1:Frm x a a' σ σ1)(E1:EV false σ1 x a' s' false)(F2:Frm y b b' σ1 σ2)(E2:EV true σ2 y b' s' false):J6 σ2 x a' y b' s'∧Ot x a a' y b b' σ σ2:=by
 have d1:∀z,Bn y b z→¬Bn x a' z:=fun z hz=>by
  obtain⟨o,ho⟩:=Dl h.ey hz;exact(F1 z o ho fun hx=>h.dj z hx hz).2
 obtain⟨k1,k2⟩:=E1.stay F2 fun z hz hb=>d1 z hb hz;exact⟨⟨k1,E2,k2⟩,(Frm.l F1).trans (Frm.r F2)⟩
theorem J6.two'{σ1 σ2:St}{a' b':EA}{s':ES}(h:J6 σ x a y b s)(F1:Frm y b b' σ σ1)(E1:EV true σ1 y b' s' false)(F2:Frm x a a' σ1 σ2)(E2:EV false σ2 x a' s' false):J6 σ2 x a' y b' s'∧Ot x a a' y b b' σ σ2:=by
 have d1:∀z,Bn x a z→¬Bn y b' z:=fun z hz=>by
  obtain⟨o,ho⟩:=Dl h.ex hz;exact(F1 z o ho fun hx=>h.dj z hz hx).2
 obtain⟨k1,k2⟩:=E1.stay F2 fun z hz hb=>d1 z hb hz;exact⟨⟨E2,k1,fun z h1 h2=>k2 z h2 h1⟩,(Frm.r F1).trans (Frm.l F2)⟩
theorem J6.right{σ1:St}{a':EA}(h:J6 σ x a y b s)(F1:Frm x a a' σ σ1):EV true σ1 y b s false:=(h.ey.stay F1 fun z hz hx=>h.dj z hx hz).1
theorem J6.left{σ1:St}{b':EA}(h:J6 σ x a y b s)(F1:Frm y b b' σ σ1):EV false σ1 x a s false:=(h.ex.stay F1 fun z hz hx=>h.dj z hz hx).1
set_option maxHeartbeats 1600000 in
theorem Ann(h:J6 σ x a y b s)(hs:SOk n s)(hg:s.given.length≤g)(g1:g+1≤1000000)(hl:Cl s.rules s.rules.length≤80)(hn:n+402*4800320≤800000000000)(ac:Ac)(hf:ac.f.Sm):
  AT Tryz.prog 30 [ptr x,ptr y,.agg ac.cs] σ fun v σ'=>∃more:Bool,v= .tup [boo true,boo more]∧(more=true→ActI (n+402*4800320) (g+1) s σ x a y b σ'):=by
 refine AT.ob Tryz.func30 rfl ?_;simp only[go_sem];refine Ctx.nil.alloc fun p σ1 c1=>?_;have hp:=c1.g0;have h1:=h.more c1.sub;have F0:Ot x a a y b b σ σ1:=.more c1.sub;have fp:=c1.f0;clear c1;simp only[go_sem,hp];have npx:¬Bn x a p:=fun hf=>by obtain⟨o,ho⟩:=Dl h.ex hf;rw[fp]at ho;cases ho
 have npy:¬Bn y b p:=fun hf=>by obtain⟨o,ho⟩:=Dl h.ey hf;rw[fp]at ho;cases ho
 have hw0:(True→n+Cl s.rules s.rules.length*60002≤800000000000)∧(True→n+Cl s.rules s.rules.length*60004+60004≤800000000000)∧(True→n+Cl s.rules s.rules.length*60002≤n+402*4800320)∧∀m,m+4800320≤800000000000→m+Cl s.rules s.rules.length*60002≤800000000000:=by
  revert hl hn;generalize Cl s.rules s.rules.length=L;intro hl hn;exact⟨fun _=>Nat.le_trans (Nat.add_le_add_left (Nat.mul_le_mul hl (Nat.le_refl 60002)) n) (by omega),fun _=>by omega,fun _=>Nat.add_le_add_left (Nat.le_trans (Nat.mul_le_mul hl (Nat.le_refl _)) (by decide)) n,fun m hm=>by omega⟩
 obtain⟨n7,n8,n9,n10⟩:=hw0;by_cases k0:ac.k=0
 ·simp only[go_sem,Aa,decide_eq_true k0]
  refine Ae [.rd 0 false,.rd 1 false,.rd 2 true,.rd 4 false,.rd 5 false,.rd 6 true,.ef 3 [6],.ef 7 [],.rd 8 false,.rd 9 false,.rd 10 false] ?_;simp only[go_sem,Aa,hp];refine(Rs h1.ex hs (by omega) ac.f).mono ?_;rintro _ σ2 ⟨rfl,a2,E2,F2⟩;have hp2:=(F2 _ _ hp npx).1;have hy2:=h1.right F2;simp only[go_sem,Aa,hp2];refine(Aau hy2 hs (by omega) ac.f).mono ?_;rintro _ σ3 ⟨rfl,b2,E3,F3⟩;obtain⟨B3,G3⟩:=h1.two F2 E2 F3 E3;obtain⟨q1,q2⟩:=Aci (f:=ac.f) hs hg g1;simp only[go_sem,Aa,decide_true];exact Ad (r:=.tup [boo true,boo true]) rfl ⟨true,rfl,fun _=>⟨a2,b2,_,B3,q1.le (by omega),q2,Aek s ac.f,F0.trans G3⟩⟩
 by_cases k1:ac.k=1
 ·simp only[go_sem,Aa,decide_eq_false k0,decide_eq_true k1]
  refine Ae [.rd 0 false,.rd 1 false,.rd 2 true,.rd 4 false,.rd 5 false,.rd 6 true,.ef 3 [6],.ef 7 [],.rd 8 false,.rd 9 false,.rd 10 false] ?_;simp only[go_sem,Aa,hp];refine(Rr h1.ex hs (by omega) ac.f hf).mono ?_;rintro _ σ2 ⟨rfl,a2,E2,F2⟩;have hp2:=(F2 _ _ hp npx).1;have hy2:=h1.right F2;simp only[go_sem,Aa,hp2];refine(Aap hy2 hs (by omega) ac.f hf).mono ?_;rintro _ σ3 ⟨rfl,b2,E3,F3⟩;obtain⟨B3,G3⟩:=h1.two F2 E2 F3 E3;obtain⟨q1,q2⟩:=Aje (f:=ac.f) hs hg;simp only[go_sem,Aa,decide_true];exact Ad (r:=.tup [boo true,boo true]) rfl ⟨true,rfl,fun _=>⟨a2,b2,_,B3,q1.le (by omega),by omega,Ad2 s ac.f,F0.trans G3⟩⟩
 by_cases k2:ac.k=2
 ·simp only[go_sem,Aa,decide_eq_false k0,decide_eq_false k1,decide_eq_true k2]
  refine(Yq h1.ey hs (n8 trivial)).mono ?_;rintro _ σ2 ⟨rfl,b2,E2,F2⟩;have hx2:=E2.cx;cases hv:(Cy s false).2.2 with
  |true=>
   rw[hv]at hx2;simp only[go_sem,Aa,hx2];exact Ad (r:=.tup [boo true,boo false]) rfl ⟨false,rfl,fun h=>by cases h⟩
  |false=>
   rw[hv]at hx2 E2;obtain⟨_,e1,e2⟩:=Wh hv;have hw:=Wi hv;rw[e2]at hx2 E2;simp only[go_sem,Aa,hx2];refine(Kk (h1.left F2) hs (n7 trivial) hw).mono ?_;rintro _ σ3 ⟨rfl,a2,E3,F3⟩;obtain⟨B3,G3⟩:=h1.two' F2 E2 F3 E3;have q:=Pv s;simp only[go_sem,Aa,e1,decide_true];exact Ad (r:=.tup [boo true,boo true]) rfl ⟨true,rfl,fun _=>⟨a2,b2,_,B3,(Ss hs hw).le (n9 trivial),by rw[q.2];omega,q.1,F0.trans G3⟩⟩
 by_cases k3:ac.k=3
 ·simp only[go_sem,Aa,decide_eq_false k0,decide_eq_false k1,decide_eq_false k2,decide_eq_true k3]
  refine(Aez h1.ey hs hl (by omega)).mono ?_;rintro _ σ2 ⟨rfl,b2,E2,F2⟩;cases hd:(O8 400 (s,false)).1 with
  |false=>
   simp only[go_sem,Aa,hd,Bool.not_false];exact Ad (r:=.tup [boo true,boo false]) rfl ⟨false,rfl,fun h=>by cases h⟩
  |true=>
   obtain⟨_,d1,d2,d3⟩:=Ab1 400 s false hd;rw[d3,←d2]at E2;obtain⟨q1,q2,q3⟩:=Ab2 400 hs hl d1;obtain⟨q4,q5⟩:=Tn 400 s;simp only[go_sem,Aa,hd,Bool.not_true];refine(Aec (h1.left F2) hs hl 400 (by omega) d1).mono ?_;rintro _ σ3 ⟨a2,E3,F3⟩;obtain⟨B3,G3⟩:=h1.two' F2 E2 F3 E3;simp only[go_sem,Aa];refine(Kk B3.ex q1 (by rw[q4.rules];exact n10 _ (by omega)) q2).mono ?_;rintro _ σ4 ⟨rfl,a3,E4,F4⟩;rw[Ul q3]at E4;have B4:=h1;obtain⟨y4,d4⟩:=B3.ey.stay F4 fun z hz hx=>B3.dj z hx hz;simp only[go_sem,Aa,q3,Bool.not_false];exact Ad (r:=.tup [boo true,boo true]) rfl ⟨true,rfl,fun _=>⟨a3,b2,_,⟨E4,y4,fun z hx hy=>d4 z hy hx⟩,q1.le (by omega),by rw[q5];omega,q4,F0.trans (G3.trans (Frm.l F4))⟩⟩
 by_cases k4:ac.k=4
 ·have hx1:=h1.ey.cx
  simp only[go_sem,Aa,decide_eq_false k0,decide_eq_false k1,decide_eq_false k2,decide_eq_false k3,decide_eq_true k4,hx1];obtain⟨kx,kE,kF⟩:=h1.ey.setO (σ1:=σ1) (v:=A0) (l:=[]) .none fun y o hy _=>⟨hy,Bh⟩;have esp:Ay (evC true s b false) 7 [.v (.slice none 0 0)]=evC true {s with outs:=[]} {b with ov:=A0} false:=rfl;rw[esp];have hL:LAt 5 (σ1.set y (.cells (evC true {s with outs:=[]} {b with ov:=A0} false))) b.ov (ouC s.outs):=h1.ey.co.keep fun z o hz ho=>by rw[Ag fun e=>by rw[e]at ho;exact h1.ey.noX.2.2 ho];exact hz
  have nfy:∀{z},Own b.ov z→¬Bn y {b with ov:=A0} z:=fun{z} ho hf=>by
   rcases hf with e|e|e|e|e|e
   ·rw[e]at ho;exact h1.ey.noX.2.2 ho
   ·rw[e]at ho;exact h1.ey.noT.2.2 ho
   ·rw[e]at ho;exact h1.ey.noB.2.2 ho
   ·exact(h1.ey.goq ho).1 e
   ·exact(h1.ey.goq ho).2 e
   ·exact Bh e
  have nfx:∀{z},Own b.ov z→¬Bn x a z:=fun{z} ho hf=>h1.dj z hf (.inr (.inr (.inr (.inr (.inr ho)))));generalize σ1.set y (.cells (evC true {s with outs:=[]} {b with ov:=A0} false))=σ2 at kE kF hL⊢;refine(Agp (h1.left kF)).mono ?_;rintro _ σ3 ⟨rfl,a3,E3,F3⟩;have dxy:∀z,Bn x a z→¬Bn y {b with ov:=A0} z:=fun z hx hy=>by
   obtain⟨o,ho⟩:=Dl h1.ex hx;exact(kF z o ho (h1.dj z hx)).2 hy
  obtain⟨y3,d3⟩:=kE.stay F3 fun z hz hx=>dxy z hx hz;have hL3:LAt 5 σ3 b.ov (ouC s.outs):=hL.keep fun z o hz ho=>(F3 z o hz (nfx ho)).1;have nfx3:∀{z},Own b.ov z→¬Bn x a3 z:=fun{z} ho hf=>by
   obtain⟨c,hc⟩:=hL.own_rows ho;exact(F3 z _ hc (nfx ho)).2 hf
  have hol:=hs.ol;have E4:EV false (St.free σ3 b.ov) x a3 {s with outs:=[]} false:=E3.keep fun z o hz hf=>by rw[D7 fun ho=>nfx3 ho hf];exact hz
  have y4:EV true (St.free σ3 b.ov) y {b with ov:=A0} {s with outs:=[]} false:=y3.keep fun z o hz hf=>by rw[D7 fun ho=>nfy ho hf];exact hz
  have G4:Ot x a a3 y b {b with ov:=A0} σ1 (St.free σ3 b.ov):=fun z o hz h1 h2=>by
   have z2:=kF z o hz h2;have z3:=F3 z o z2.1 h1;exact⟨by rw[D7 fun ho=>h2 (.inr (.inr (.inr (.inr (.inr ho)))))];exact z3.1,z3.2,z2.2⟩
  simp only[go_sem,Aa];refine(AT.pre (Ahn (σ:=St.free σ3 b.ov) s.outs s.outs hs.os hs.os (by omega) (by omega)) (by kernel_rfl) Qt (vws_same (vws_cons hL3.vw_free By))).mono ?_;rintro _ σ5 ⟨rfl,rfl⟩;simp only[go_sem,Aa,decide_true];exact Ad (r:=.tup [boo true,boo true]) rfl ⟨true,rfl,fun _=>⟨a3,_,{s with outs:=[]},⟨E4,y4,fun z hx hy=>d3 z hy hx⟩,{hs.le (show n≤n+402*4800320 by omega)with bo:=(by have:=hs.bo;show s.B.length+0≤_;omega),os:=fun o ho=>by cases ho},by show s.given.length≤g+1;omega,⟨rfl,rfl,rfl,rfl⟩,F0.trans G4⟩⟩
 simp only[go_sem,Aa,decide_eq_false k0,decide_eq_false k1,decide_eq_false k2,decide_eq_false k3,decide_eq_false k4];exact Ad (r:=.tup [boo true,boo true]) rfl ⟨true,rfl,fun _=>⟨a,b,s,h1,hs.le (by omega),by omega,.refl s,F0⟩⟩
end
section
variable{σ:St}
theorem Ad0(l:List ByteArray)(hl:l.length≤1000000000):AT Tryz.prog 50 [.sl 1 (stC l)] σ fun r σ'=>Ow 1 σ' r (stC l)∧Cd σ σ' r:=by
 refine AT.ob Tryz.func50 rfl ?_;simp only[go_sem];by_cases he:stC l=[]
 ·refine⟨fun h=>absurd he h,fun _ b=>?_⟩
  refine aIf_bool (fun _=>?_) (fun _=>?_)
  ·simp only[go_sem]
   exact Ad (r:=A0) rfl ⟨.inl ⟨he,.inl rfl⟩,.nil⟩
  ·simp only[go_sem]
   refine As (ys:=stC l) (by simp[src]) (by decide) (by decide) (by decide) ?_;rw[he];refine⟨rfl,fun _=>?_,fun h=>absurd rfl h⟩;simp only[go_sem];exact Ad (r:=.fsl 1 []) rfl ⟨.inl ⟨rfl,.inr rfl⟩,fun y p hy=>⟨hy,A1⟩⟩
 ·refine⟨fun _=>?_,fun h=>absurd h he⟩
  refine As (ys:=stC l) (by simp[src]) (by decide) (by decide) (by decide) (Ow.of_app .full he (by rw[Wg];simp only[List.length_nil];omega) fun lv σ1 h1 h2 _=>?_);simp only[go_sem];exact Ad (r:=lv) rfl ⟨h1,fun y p hy=>h2 y p hy A1⟩
theorem Zi(l:List ByteArray)(hl:l.length≤1000000000):AT Tryz.prog 50 [.sl 1 (stC l)] σ fun r σ'=>r= .sl 1 (stC l)∧σ'=σ:=
 (Ad0 l hl).post (by kernel_rfl) fun r σ' ⟨h,G⟩=>⟨_,_,Fs h.lat G,rfl,rfl⟩
theorem Ad1(l:List Tm)(hl:l.length≤1000000000):AT Tryz.prog 97 [.sl 4 (tmC l)] σ fun r σ'=>Ow 4 σ' r (tmC l)∧Cd σ σ' r:=by
 refine AT.ob Tryz.func97 rfl ?_;simp only[go_sem];by_cases he:tmC l=[]
 ·refine⟨fun h=>absurd he h,fun _ b=>?_⟩
  refine aIf_bool (fun _=>?_) (fun _=>?_)
  ·simp only[go_sem]
   exact Ad (r:=A0) rfl ⟨.inl ⟨he,.inl rfl⟩,.nil⟩
  ·simp only[go_sem]
   refine As (ys:=tmC l) (by simp[src]) (by decide) (by decide) (by decide) ?_;rw[he];refine⟨rfl,fun _=>?_,fun h=>absurd rfl h⟩;simp only[go_sem];exact Ad (r:=.fsl 4 []) rfl ⟨.inl ⟨rfl,.inr rfl⟩,fun y p hy=>⟨hy,A1⟩⟩
 ·refine⟨fun _=>?_,fun h=>absurd h he⟩
  refine As (ys:=tmC l) (by simp[src]) (by decide) (by decide) (by decide) (Ow.of_app .full he (by rw[Jz];simp only[List.length_nil];omega) fun lv σ1 h1 h2 _=>?_);simp only[go_sem];exact Ad (r:=lv) rfl ⟨h1,fun y p hy=>h2 y p hy A1⟩
theorem Ra(l:List Tm)(hl:l.length≤1000000000):AT Tryz.prog 97 [.sl 4 (tmC l)] σ fun r σ'=>r= .sl 4 (tmC l)∧σ'=σ:=
 (Ad1 l hl).post (by kernel_rfl) fun r σ' ⟨h,G⟩=>⟨_,_,Fs h.lat G,rfl,rfl⟩
theorem Adz(l:List Li)(hl:l.length≤1000000000):AT Tryz.prog 98 [.sl 10 (liC l)] σ fun r σ'=>Ow 10 σ' r (liC l)∧Cd σ σ' r:=by
 refine AT.ob Tryz.func98 rfl ?_;simp only[go_sem];by_cases he:liC l=[]
 ·refine⟨fun h=>absurd he h,fun _ b=>?_⟩
  refine aIf_bool (fun _=>?_) (fun _=>?_)
  ·simp only[go_sem]
   exact Ad (r:=A0) rfl ⟨.inl ⟨he,.inl rfl⟩,.nil⟩
  ·simp only[go_sem]
   refine As (ys:=liC l) (by simp[src]) (by decide) (by decide) (by decide) ?_;rw[he];refine⟨rfl,fun _=>?_,fun h=>absurd rfl h⟩;simp only[go_sem];exact Ad (r:=.fsl 10 []) rfl ⟨.inl ⟨rfl,.inr rfl⟩,fun y p hy=>⟨hy,A1⟩⟩
 ·refine⟨fun _=>?_,fun h=>absurd h he⟩
  refine As (ys:=liC l) (by simp[src]) (by decide) (by decide) (by decide) (Ow.of_app .full he (by rw[Gn];simp only[List.length_nil];omega) fun lv σ1 h1 h2 _=>?_);simp only[go_sem];exact Ad (r:=lv) rfl ⟨h1,fun y p hy=>h2 y p hy A1⟩
end
def Rl.csv(r:Rl)(v:AV):List AV:=[str r.ho.v,boo r.ho.b,int r.ho.n,str r.ho.s,str r.nm,.sl 4 (tmC r.ar),str r.at'.v,boo r.at'.b,int r.at'.n,str r.at'.s,v]
theorem Rl.csv_one(r:Rl){v:AV}(h:v.one=true):(r.csv v).all AV.one=true:=by
 show(true&&(true&&(true&&(true&&(true&&(true&&(true&&(true&&(true&&(true&&(v.one&&true)))))))))))=true;rw[h];rfl
@[go_sem] theorem Rl.csv_len(r:Rl)(v:AV):(r.csv v).length=11:=rfl
@[go_sem] theorem Rl.csv_take(r:Rl)(v:AV):(r.csv v).take 11=r.csv v:=rfl
@[go_sem] theorem Rl.csv_10(r:Rl)(v:AV):(r.csv v).getD 10 (.v undef)=v:=rfl
theorem Wd{l:List Li}{i:Nat}(h:i<l.length):(liC l).set i (Ay ((liC l).getD i []) 5 [.sl 4 (tmC l[i].ar)])=liC l:=by
 rw[Et h];refine List.ext_getElem (by simp) fun j h1 h2=>?_;rw[List.getElem_set];split
 ·rename_i e
  subst e;simp only[liC,List.getElem_map];rfl
 ·rfl
def RrX(σ0 σ:St)(r:Rl)(e:List AV):Prop:=∃a,e=r.csv a∧Rd 10 σ a (liC r.bo)∧∀x,Own a x→σ0 x=none
theorem Rd.vw'{q:Nat}{σ0 σ:St}{a:AV}{es:List (List AV)}(h:Rd q σ a es)(hf:∀x,Own a x→σ0 x=none):VW σ σ0 a (.sl q es):=by
 rcases h with rfl|h
 ·exact .refl _
 ·exact h.vw_same hf
theorem RrX.vws{σ0 σ:St}{r:Rl}{e:List AV}(h:RrX σ0 σ r e):VWs σ σ0 e r.cs:=by
 obtain⟨a,rfl,h1,h2⟩:=h;exact vws_same (vws_same (vws_same (vws_same (vws_same (vws_same (vws_same (vws_same (vws_same (vws_same (vws_cons (h1.vw' h2) By))))))))))
structure CR(σ0 σ:St)(lv:AV)(es:List (List AV))(b:List Rl):Prop where
 sub:∀x o,σ0 x=some o→σ x=some o
 la:LAt 11 σ lv es
 own:∀x,Own lv x→σ0 x=none
 len:es.length=b.length
 el:∀j (h:j<b.length),RrX σ0 σ b[j] (es.getD j [])
theorem CR.view{σ0 σ:St}{lv:AV}{es:List (List AV)}{b:List Rl}(h:CR σ0 σ lv es b):Gt σ lv σ0 (.sl 11 (rlC b)):=view_of (F9 fun x o hx=>.inl (h.sub x o hx)) (h.la.vw h.own (by rw[Cm,h.len]) fun i hi=>by
 have:=h.len;rw[C7 (by omega)];exact(h.el i (by omega)).vws)
theorem CR.app{σ0 σ1 σ7 σ8:St}{lv lv' v:AV}{es:List (List AV)}{b:List Rl}{r:Rl}(h:CR σ0 σ1 lv es b)(hs:∀y o,σ1 y=some o→σ7 y=some o)(hv:LAt 10 σ7 v (liC r.bo))(hn:∀y,Own v y→σ0 y=none)(h8:LAt 11 σ8 lv' (es++[r.csv v]))(hs8:∀y o,σ7 y=some o→¬Own lv y→σ8 y=some o∧¬Own lv' y):CR σ0 σ8 lv' (es++[r.csv v]) (b++[r]):=by
 have nol:∀y o,σ0 y=some o→¬Own lv y:=fun y o hy ho=>by have:=h.own y ho;rw[hy]at this;cases this
 have n3:∀{y es' cap},σ7 y=some (.rows 10 es' false cap)→¬Own lv y:=fun{y es' cap} hy ho=>by
  obtain⟨c,hc⟩:=h.la.own_rows ho;rw[hs _ _ hc]at hy;cases hy
 refine⟨fun y o hy=>(hs8 y o (hs y o (h.sub y o hy)) (nol y o hy)).1,h8,fun y ho=>?_,by simp[h.len],fun j hj=>?_⟩
 ·cases hy:σ0 y with
  |none=>rfl
  |some o=>exact absurd ho (hs8 y o (hs y o (h.sub y o hy)) (nol y o hy)).2
 ·have hl:=h.len
  by_cases e:j<b.length
  ·obtain⟨a,a1,a2,a3⟩:=h.el j e
   refine⟨a,?_,?_,a3⟩
   ·rw[List.getD_eq_getElem?_getD,List.getElem?_append_left (by omega),←List.getD_eq_getElem?_getD,a1,List.getElem_append_left e]
   ·rw[List.getElem_append_left e]
    have a4:Rd 10 σ7 a (liC b[j].bo):=a2.keep hs;rcases a4 with a4|a4
    ·exact .inl a4
    ·exact .inr (a4.keep fun y o hy ho=>by
      obtain⟨c,hc⟩:=a4.own_rows ho;exact(hs8 y o hy (n3 hc)).1)
  ·have ej:j=b.length:=by simp at hj;omega
   subst ej;refine⟨v,?_,?_,hn⟩
   ·rw[List.getD_eq_getElem?_getD,List.getElem?_append_right (by omega),hl];simp
   ·rw[List.getElem_append_right (Nat.le_refl _)]
    simp only[Nat.sub_self,List.getElem_cons_zero]
    exact .inr (hv.keep fun y o hy ho=>by
     obtain⟨c,hc⟩:=hv.own_rows ho;exact(hs8 y o hy (n3 hc)).1)
section
variable{σ:St}
theorem Ake(l:List Rl)(hl:l.length≤1000000)(hr:∀r∈l,r.S4):AT Tryz.prog 51 [.sl 11 (rlC l)] σ fun r σ'=>r= .sl 11 (rlC l)∧σ'=σ:=by
 have hm:AT Tryz.prog 51 [.sl 11 (rlC l)] σ fun v σ'=>∃es,CR σ σ' v es l:=by
  refine AT.ob Tryz.func51 rfl ?_;simp only[go_sem,Cm];refine⟨fun m fr σ'=>∃(i:Nat) (lv:AV) (es:List (List AV)),m=l.length-i∧i≤l.length∧CR σ σ' lv es (l.take i)∧fr 3=lv∧fr 7= .sl 11 (rlC l)∧fr 8=int l.length∧fr 9=int i,⟨_,0,A0,[],rfl,by omega,⟨fun _ _ h=>h,.none,fun y hy=>absurd hy Bh,rfl,fun j hj=>by simp at hj⟩,rfl,rfl,rfl,rfl⟩,?_⟩;rintro m fr σ1 ⟨i,lv,es,rfl,hi,hC,f3,f7,f8,f9⟩;simp only[go_sem,f8,f9];refine aIf_by (fun hlt=>?_) (fun hlt=>?_)
  case' refine_2=>
   rw[List.take_of_length_le (by omega)]at hC;simp only[go_sem,Aa,f3];exact Ad (r:=lv) rfl ⟨es,hC⟩
  have hil:i<l.length:=by omega
  obtain⟨r,hrr⟩:∃r,r=l[i]:=⟨_,rfl⟩;have hr4:=hr _ (List.getElem_mem hil);rw[←hrr]at hr4;have rg:(rlC l).getD i []=r.cs:=by rw[hrr];exact C7 hil
  have h1:=hr4.1.1;have h2:=hr4.1.2;have h3:=hr4.2;simp only[go_sem,Aa,f7,f9,rg,Cm];refine⟨by omega,Ctx.nil.alloc fun p σ2 c2=>?_⟩;obtain⟨σ3,e3,c3⟩:=c2.abs 0 rfl (.cells r.cs);have hp:σ3 p=some (.cells r.cs):=c3.g0;have hs3:=c3.sub;have fp:=c2.f0;simp only[go_sem,Aa,c2.g0,e3,hp];clear e3 c3 c2;refine(Ra r.ar (by omega)).mono ?_;rintro _ σ3 ⟨rfl,rfl⟩;have e1:Ay r.cs 5 [.sl 4 (tmC r.ar)]=r.cs:=rfl;have e2:σ3.set p (.cells r.cs)=σ3:=Bp hp;simp only[go_sem,Aa,hp,e1,e2];refine(Adz r.bo (by omega)).mono ?_;rintro v σ4 ⟨hO,hG⟩;have hp4:=hG _ _ hp;have e4:Ay r.cs 10 [v]=r.csv v:=rfl;obtain⟨σ5,e5⟩:∃σ5,σ5=σ4.set p (.cells (r.csv v)):=⟨_,rfl⟩;have hp5:σ5 p=some (.cells (r.csv v)):=by rw[e5];exact Ab
  have hO5:Ow 10 σ5 v (liC r.bo):=hO.keep fun y o hy ho=>by rw[e5,Ag (fun e=>by rw[e]at ho;exact hp4.2 ho)];exact hy
  have hs5:∀y o,σ1 y=some o→σ5 y=some o:=fun y o hy=>by
   rw[e5,Ag (fun e=>by rw[e,fp]at hy;cases hy)];exact(hG _ _ (hs3 _ _ hy)).1
  have hn5:∀y,Own v y→σ y=none:=fun y ho=>Ct (fun z o hz=>hs3 _ _ (hC.sub z o hz)) (hG.own ho);have o5:=r.csv_one hO.lat.one;simp only[go_sem,Aa,hp4.1,hO.lat.one,hO.lat.cells,e4,←e5,hp5,hO5.lat.len,Gn,o5];clear e5;refine⟨fun m fr σ'=>∃j:Nat,m=r.bo.length-j∧j≤r.bo.length∧σ'=σ5∧fr 3=lv∧fr 5=ptr p∧fr 7= .sl 11 (rlC l)∧fr 8=int l.length∧fr 9=int i∧fr 23=int r.bo.length∧fr 24=int j,⟨_,0,rfl,by omega,rfl,f3,rfl,f7,f8,f9,rfl,rfl⟩,?_⟩;clear f3 f7 f8 f9;rintro m fr σ5 ⟨j,rfl,hj,rfl,f3,f5,f7,f8,f9,f23,f24⟩;simp only[go_sem,f23,f24];refine aIf_by (fun hlt=>?_) (fun hlt=>?_)
  ·have hjl:j<r.bo.length:=by omega
   rcases hO5 with⟨h0,_⟩|⟨b,cap,rfl,hcap,hb⟩
   ·have:=congrArg List.length h0
    rw[Gn,List.length_nil]at this;omega
   have e5:=Wd hjl;have e6:σ5.set b (.rows 10 (liC r.bo) false cap)=σ5:=Bp hb;have sx:=h2 _ (List.getElem_mem hjl);have fl:=Gn r.bo;rw[fl]at hcap;simp only[go_sem,Aa,f5,f24];refine Ae [.rd 0 false,.rd 1 true,.rd 2 false,.rd 3 false,.rd 4 true,.rd 5 false,.rd 6 false,.rd 7 false,.rd 8 true,.ef 9 [1],.rd 10 false,.rd 11 false,.ef 12 []] ?_;simp only[go_sem,Aa,f5,f24,hp5,hb,Et hjl,fl];refine⟨by omega,by omega,(Ra r.bo[j].ar (by omega)).mono ?_⟩;rintro _ σ5 ⟨rfl,rfl⟩;simp only[go_sem,Aa,f3,f5,f23,f24,hp5,hb,fl,e5,e6,Ai (show j<9223372036854775807 by omega)];refine⟨by omega,by omega,r.bo.length-(j+1),by omega,j+1,?_⟩
   (and_intros<;>first|assumption|rfl|omega)
  ·simp only[go_sem,Aa,f3,f5,hp5,o5]
   have hcl:=hC.len;rw[List.length_take]at hcl;refine As (ys:=[r.csv v]) rfl (by decide) (by decide) (by decide) ((hC.la.keep fun y o hy _=>hs5 y o hy).app (by simp only[List.length_cons,List.length_nil];omega) fun lv' σ8 h8 s8=>?_);have hC8:=hC.app hs5 hO5.lat hn5 h8 s8;rw[show l.take i++[r]=l.take (i+1) by rw[List.take_add_one,List.getElem?_eq_getElem hil,hrr];rfl]at hC8;simp only[go_sem,Aa,f9,Ai (show i<9223372036854775807 by omega)];exact⟨l.length-(i+1),by omega,i+1,lv',_,rfl,by omega,hC8,rfl,f7,f8,rfl⟩
 exact hm.post (by kernel_rfl) fun r σ' ⟨es,h⟩=>⟨_,_,h.view,rfl,rfl⟩
end
end Go.Proofs.YtmifmncabejffaaGreat
